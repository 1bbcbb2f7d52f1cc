/- A part of the proof: the abstract machine, the printed functions, what they compute. -/
import Derived.Test.YteekjekckgpbfaaDoorM1
import Derived.KernelRfl
set_option linter.unusedVariables false
set_option linter.unusedSimpArgs false
set_option linter.defProp false
set_option linter.unnecessarySimpa false
section
set_option maxRecDepth 100000
namespace Go.Proofs.YteekjekckgpbfaaDoor.Abs
noncomputable section
noncomputable def kc18 := codeOf Tryd.f18
def k18_12 := cp kc18 [1, 1, 0, 1, 0, 1, 0]
def k18_13 := cp kc18 [1, 1, 0, 1, 0, 1, 1]
def k18_11 := cp kc18 [1, 1, 0, 1, 0, 0]
def k18_6 : Code := .cond (.tmp 14) k18_12 k18_13
def k18_5 : Code := .seq k18_11 k18_6
def k18_4 := cp kc18 [1, 1, 0, 1, 1]
def k18_10 := cp kc18 [1, 1, 0, 0]
def k18_3 : Code := .seq k18_5 k18_4
def k18_2 : Code := .seq k18_10 k18_3
def k18_9 := cp kc18 [1, 1, 1]
def k18_8 := cp kc18 [1, 0]
def k18_1 : Code := .cond (.tmp 7) k18_2 k18_9
def k18_7 := cp kc18 [0]
def k18_0 : Code := .seq k18_8 k18_1
def p18_4 (cf : CallF) (lf : Nat) (KE : Heap → Ans) (s0 : Value) (s1 : Value) (s3 : Value) (h : Heap) : Ans :=
 bindO (ifaceA E 51 s3) fun t17 =>
 bindR (skipR (storeA E 22 s0 (.slice none 0 0) h)) (fun v h => none) fun _ h =>
 bindR (skipR (storeA E 24 s1 t17 h)) (fun v h => none) fun _ h =>
 KE h
theorem p18_4_ok (cf : CallF) (lf : Nat) (KE : Heap → Ans) (T : Tmps) (h : Heap) : execK E cf lf 18 k18_4 T h (endK KE) = p18_4 cf lf KE (T 0) (T 1) (T 3) h := by kernel_rfl
def p18_0 (cf : CallF) (lf : Nat) (KE : Heap → Ans) (s0 : Value) (s1 : Value) (s2 : Value) (h : Heap) : Ans :=
 bindO (binA E 20 .neq s2 (.nilIface)) fun t7 =>
 condV t7 (
  bindO (assertA E s2 51 true) fun t10 =>
  bindO (extractA t10 0) fun t11 =>
  bindO (extractA t10 1) fun t12 =>
  bindO (unA .not t12) fun t14 =>
  condV t14 (
   bindR (panicA s2 h) (fun v h => none) fun _ h =>
   p18_4 cf lf KE s0 s1 t11 h
  ) (
   p18_4 cf lf KE s0 s1 t11 h
  )
 ) (
  KE h
 )
theorem p18_0_ok (cf : CallF) (lf : Nat) (KE : Heap → Ans) (T : Tmps) (h : Heap) : execK E cf lf 18 k18_0 T h (endK KE) = p18_0 cf lf KE (T 0) (T 1) (T 2) h := by simp only [k18_0, k18_1, k18_2, k18_3, k18_5, k18_6, execK_all, p18_4_ok]; delta p18_0; generalize p18_4 = G0; as_aux_lemma => kernel_rfl
def d18 (cf : CallF) (lf : Nat) (a0 : Value) (a1 : Value) (asked : Value) (h : Heap) (KE : Heap → Ans) : Ans :=
 p18_0 cf lf KE a0 a1 asked h
theorem d18_ok (cf : CallF) (lf : Nat) (a0 : Value) (a1 : Value) (asked : Value) (h : Heap) (KE : Heap → Ans) : deferredK E cf lf Tryd.f18 [a0, a1] asked h KE = d18 cf lf a0 a1 asked h KE := by
 refine Eq.trans (show deferredK E cf lf Tryd.f18 [a0, a1] asked h KE = opsK E cf 18 (opsOf k18_7) (opsOf k18_7).tail (putT 18 (T0 [a0, a1]) (some 5) asked) h (seqK (fun T h => execK E cf lf 18 k18_0 T h (endK KE)) (endK KE)) by kernel_rfl) ?_
 simp only [p18_0_ok]; delta d18; generalize p18_0 = G0; as_aux_lemma => kernel_rfl
noncomputable def kc8 := codeOf Tryd.f8
def k8_59 := cp kc8 [1, 1, 1, 1, 1, 0, 0, 0, 0, 1, 1, 1, 0, 0, 1, 1, 0, 0, 1, 1, 0]
def k8_60 := cp kc8 [1, 1, 1, 1, 1, 0, 0, 0, 0, 1, 1, 1, 0, 0, 1, 1, 0, 0, 1, 1, 1]
def k8_58 := cp kc8 [1, 1, 1, 1, 1, 0, 0, 0, 0, 1, 1, 1, 0, 0, 1, 1, 0, 0, 1, 0]
def k8_26 : Code := .cond (.tmp 47) k8_59 k8_60
def k8_57 := cp kc8 [1, 1, 1, 1, 1, 0, 0, 0, 0, 1, 1, 1, 0, 0, 1, 1, 0, 0, 0]
def k8_25 : Code := .seq k8_58 k8_26
def k8_24 : Code := .seq k8_57 k8_25
def k8_55 := cp kc8 [1, 1, 1, 1, 1, 0, 0, 0, 0, 1, 1, 1, 0, 0, 1, 0, 0]
def k8_56 := cp kc8 [1, 1, 1, 1, 1, 0, 0, 0, 0, 1, 1, 1, 0, 0, 1, 0, 1]
def k8_23 : Code := .block 5 k8_24
def k8_22 := cp kc8 [1, 1, 1, 1, 1, 0, 0, 0, 0, 1, 1, 1, 0, 0, 1, 1, 1]
def k8_21 : Code := .cond (.tmp 43) k8_55 k8_56
def k8_20 : Code := .seq k8_23 k8_22
def k8_47 := cp kc8 [1, 1, 1, 1, 1, 0, 0, 0, 0, 0, 0, 0, 0, 1, 0]
def k8_48 := cp kc8 [1, 1, 1, 1, 1, 0, 0, 0, 0, 0, 0, 0, 0, 1, 1]
def k8_54 := cp kc8 [1, 1, 1, 1, 1, 0, 0, 0, 0, 1, 1, 1, 0, 0, 0]
def k8_19 : Code := .seq k8_21 k8_20
def k8_46 := cp kc8 [1, 1, 1, 1, 1, 0, 0, 0, 0, 0, 0, 0, 0, 0]
def k8_32 : Code := .cond (.tmp 36) k8_47 k8_48
def k8_49 := cp kc8 [1, 1, 1, 1, 1, 0, 0, 0, 0, 0, 0, 0, 1, 0]
def k8_18 : Code := .seq k8_54 k8_19
def k8_31 : Code := .seq k8_46 k8_32
def k8_30 : Code := .block 3 k8_49
def k8_51 := cp kc8 [1, 1, 1, 1, 1, 0, 0, 0, 0, 1, 0, 1, 0]
def k8_52 := cp kc8 [1, 1, 1, 1, 1, 0, 0, 0, 0, 1, 0, 1, 1]
def k8_17 : Code := .loop k8_18
def k8_29 : Code := .seq k8_31 k8_30
def k8_50 := cp kc8 [1, 1, 1, 1, 1, 0, 0, 0, 0, 1, 0, 0]
def k8_15 : Code := .cond (.tmp 39) k8_51 k8_52
def k8_53 := cp kc8 [1, 1, 1, 1, 1, 0, 0, 0, 0, 1, 1, 0]
def k8_16 : Code := .block 4 k8_17
def k8_28 : Code := .loop k8_29
def k8_14 : Code := .seq k8_50 k8_15
def k8_13 : Code := .seq k8_53 k8_16
def k8_27 : Code := .block 2 k8_28
def k8_12 : Code := .seq k8_14 k8_13
def k8_11 : Code := .seq k8_27 k8_12
def k8_62 := cp kc8 [1, 1, 1, 1, 1, 1, 0, 1, 0]
def k8_63 := cp kc8 [1, 1, 1, 1, 1, 1, 0, 1, 1]
def k8_10 : Code := .block 1 k8_11
def k8_61 := cp kc8 [1, 1, 1, 1, 1, 1, 0, 0]
def k8_7 : Code := .cond (.tmp 54) k8_62 k8_63
def k8_64 := cp kc8 [1, 1, 1, 1, 1, 1, 1, 0]
def k8_5 := cp kc8 [1, 1, 1, 1, 1, 1, 1, 1]
def k8_9 : Code := .loop k8_10
def k8_6 : Code := .seq k8_61 k8_7
def k8_4 : Code := .seq k8_64 k8_5
def k8_8 : Code := .block 0 k8_9
def k8_3 : Code := .seq k8_6 k8_4
def k8_43 := cp kc8 [1, 0, 1, 0, 0]
def k8_37 := cp kc8 [1, 0, 1, 0, 1]
def k8_45 := cp kc8 [1, 1, 1, 1, 0]
def k8_2 : Code := .seq k8_8 k8_3
def k8_36 : Code := .seq k8_43 k8_37
def k8_42 := cp kc8 [1, 0, 1, 1]
def k8_44 := cp kc8 [1, 1, 1, 0]
def k8_1 : Code := .seq k8_45 k8_2
def k8_41 := cp kc8 [1, 0, 0]
def k8_35 : Code := .cond (.tmp 10) k8_36 k8_42
def k8_0 : Code := .seq k8_44 k8_1
def k8_34 : Code := .seq k8_41 k8_35
def k8_33 := cp kc8 [1, 1]
def k8_40 := cp kc8 [0]
def k8_38 := cp kc8 [1]
def k8_39 := cp kc8 []
def e8 (cf : CallF) (lf : Nat) (c0 : Value) (c1 : Value) (r2 : Value) (r3 : Value) (v : Value) (h : Heap) : Ans :=
 d18 cf lf c0 c1 v h fun h =>
  bindO (loadA E 22 r2 h) fun tr2 =>
  bindO (loadA E 24 r3 h) fun tr3 =>
  some (.ret (.tuple ⟨[tr2, tr3]⟩), h)
theorem e8_normal (cf : CallF) (lf : Nat) (c0 : Value) (c1 : Value) (T : Tmps) (h : Heap) : finD E cf lf [.cell 2 22, .cell 3 24] Tryd.f18 [c0, c1] .normal T h = e8 cf lf c0 c1 (T 2) (T 3) .nilIface h :=
 (show finD E cf lf [.cell 2 22, .cell 3 24] Tryd.f18 [c0, c1] .normal T h = deferredK E cf lf Tryd.f18 [c0, c1] .nilIface h (fun h => resK E T h [.cell 2 22, .cell 3 24] [] fun v => some (.ret v, h)) by kernel_rfl).trans ((d18_ok cf lf c0 c1 .nilIface h (fun h => resK E T h [.cell 2 22, .cell 3 24] [] fun v => some (.ret v, h))).trans (by kernel_rfl))
theorem e8_ret (cf : CallF) (lf : Nat) (c0 : Value) (c1 : Value) (T : Tmps) (h : Heap) : finD E cf lf [.cell 2 22, .cell 3 24] Tryd.f18 [c0, c1] .ret T h = e8 cf lf c0 c1 (T 2) (T 3) .nilIface h :=
 (show finD E cf lf [.cell 2 22, .cell 3 24] Tryd.f18 [c0, c1] .ret T h = deferredK E cf lf Tryd.f18 [c0, c1] .nilIface h (fun h => resK E T h [.cell 2 22, .cell 3 24] [] fun v => some (.ret v, h)) by kernel_rfl).trans ((d18_ok cf lf c0 c1 .nilIface h (fun h => resK E T h [.cell 2 22, .cell 3 24] [] fun v => some (.ret v, h))).trans (by kernel_rfl))
theorem e8_panic (cf : CallF) (lf : Nat) (c0 : Value) (c1 : Value) (T : Tmps) (h : Heap) (v : Value) : finD E cf lf [.cell 2 22, .cell 3 24] Tryd.f18 [c0, c1] (.panic v) T h = e8 cf lf c0 c1 (T 2) (T 3) v h :=
 (show finD E cf lf [.cell 2 22, .cell 3 24] Tryd.f18 [c0, c1] (.panic v) T h = deferredK E cf lf Tryd.f18 [c0, c1] v h (fun h => resK E T h [.cell 2 22, .cell 3 24] [] fun v => some (.ret v, h)) by kernel_rfl).trans ((d18_ok cf lf c0 c1 v h (fun h => resK E T h [.cell 2 22, .cell 3 24] [] fun v => some (.ret v, h))).trans (by kernel_rfl))
def e8K (cf : CallF) (lf : Nat) (c0 : Value) (c1 : Value) : Kont := fun x T h => match x with
 | .normal => e8 cf lf c0 c1 (T 2) (T 3) .nilIface h
 | .ret => e8 cf lf c0 c1 (T 2) (T 3) .nilIface h
 | .panic v => e8 cf lf c0 c1 (T 2) (T 3) v h
 | .exit _ => none
theorem e8K_ok (cf : CallF) (lf : Nat) (c0 : Value) (c1 : Value) : finD E cf lf [.cell 2 22, .cell 3 24] Tryd.f18 [c0, c1] = e8K cf lf c0 c1 := by
 funext x T h
 cases x with
 | normal => exact e8_normal cf lf c0 c1 T h
 | ret => exact e8_ret cf lf c0 c1 T h
 | panic v => exact e8_panic cf lf c0 c1 T h v
 | exit i => rfl
def p8_4 (cf : CallF) (lf : Nat) (c0 : Value) (c1 : Value) (s2 : Value) (s3 : Value) (s4 : Value) (h : Heap) : Ans :=
 bindO (nilA s4) fun t59 =>
 bindO (fieldAddrA E 57 t59 2) fun t60 =>
 bindO (loadA E 22 t60 h) fun t61 =>
 bindR (skipR (storeA E 22 s2 t61 h)) (fun v h => e8 cf lf c0 c1 s2 s3 v h) fun _ h =>
 bindR (skipR (storeA E 24 s3 (.nilIface) h)) (fun v h => e8 cf lf c0 c1 s2 s3 v h) fun _ h =>
 e8 cf lf c0 c1 s2 s3 .nilIface h
theorem p8_4_ok (cf : CallF) (lf : Nat) (c0 : Value) (c1 : Value) (T : Tmps) (h : Heap) : execK E cf lf 62 k8_4 T h (e8K cf lf c0 c1) = p8_4 cf lf c0 c1 (T 2) (T 3) (T 4) h := by simp only [k8_4, execK_all]; delta p8_4; (try delta e8K); generalize e8 = G0; as_aux_lemma => kernel_rfl
def p8_3 (cf : CallF) (lf : Nat) (c0 : Value) (c1 : Value) (s0 : Value) (s2 : Value) (s3 : Value) (s4 : Value) (h : Heap) : Ans :=
 bindO (nilA s4) fun t50 =>
 bindO (fieldAddrA E 57 t50 3) fun t51 =>
 bindO (loadA E 55 t51 h) fun t52 =>
 bindO (lenA E 55 t52) fun t53 =>
 bindO (binA E 3 .gtr t53 (.int .i64 (0))) fun t54 =>
 condV t54 (
  bindO (lenA E 9 s0) fun t56 =>
  bindR (cf 25 [(.int .i64 (19)), t56] h) (fun v h => e8 cf lf c0 c1 s2 s3 v h) fun t57 h =>
  p8_4 cf lf c0 c1 s2 s3 s4 h
 ) (
  p8_4 cf lf c0 c1 s2 s3 s4 h
 )
theorem p8_3_ok (cf : CallF) (lf : Nat) (c0 : Value) (c1 : Value) (T : Tmps) (h : Heap) : execK E cf lf 62 k8_3 T h (e8K cf lf c0 c1) = p8_3 cf lf c0 c1 (T 0) (T 2) (T 3) (T 4) h := by simp only [k8_3, k8_6, k8_7, execK_all, p8_4_ok]; delta p8_3; (try delta e8K); generalize p8_4 = G0; generalize e8 = G1; as_aux_lemma => kernel_rfl
def p8_18 (cf : CallF) (lf : Nat) (c0 : Value) (c1 : Value) (F9 : Value → Value → Value → Value → Value → Heap → Ans) (F17 : Value → Value → Value → Value → Value → Value → Value → Value → Heap → Ans) (s0 : Value) (s2 : Value) (s3 : Value) (s4 : Value) (s5 : Value) (s40 : Value) (s41 : Value) (s42 : Value) (h : Heap) : Ans :=
 bindO (binB E 3 .lss s42 s41) fun t43 =>
 condV t43 (
  bindO (indexAddrA E 58 s40 s42) fun t44 =>
  bindO (loadA E 34 t44 h) fun t45 =>
  bindR (callA E cf t45 [] h) (fun v h => e8 cf lf c0 c1 s2 s3 v h) fun t47 h =>
  condV t47 (
   F9 s0 s2 s3 s4 s5 h
  ) (
   bindO (binA E 3 .add s42 (.int .i64 (1))) fun t48 =>
   F17 s0 s2 s3 s4 s5 s40 s41 t48 h
  )
 ) (
  F9 s0 s2 s3 s4 s5 h
 )
theorem p8_18_ok (cf : CallF) (lf : Nat) (c0 : Value) (c1 : Value) (F9 : Value → Value → Value → Value → Value → Heap → Ans) (F17 : Value → Value → Value → Value → Value → Value → Value → Value → Heap → Ans) (T : Tmps) (h : Heap) : execK E cf lf 62 k8_18 T h (seqK (fun T h => F17 (T 0) (T 2) (T 3) (T 4) (T 5) (T 40) (T 41) (T 42) h) (blockK 4 (blockK 1 (seqK (fun T h => F9 (T 0) (T 2) (T 3) (T 4) (T 5) h) (blockK 0 (seqK (fun T h => p8_3 cf lf c0 c1 (T 0) (T 2) (T 3) (T 4) h) (e8K cf lf c0 c1))))))) = p8_18 cf lf c0 c1 F9 F17 (T 0) (T 2) (T 3) (T 4) (T 5) (T 40) (T 41) (T 42) h := by simp only [k8_18, k8_19, k8_20, k8_21, k8_23, k8_24, k8_25, k8_26, execK_all]; delta p8_18; (try delta e8K); generalize e8 = G0; as_aux_lemma => kernel_rfl
def l8_17 (cf : CallF) (lf : Nat) (c0 : Value) (c1 : Value) (F9 : Value → Value → Value → Value → Value → Heap → Ans) : Nat → Value → Value → Value → Value → Value → Value → Value → Value → Heap → Ans
 | 0, _, _, _, _, _, _, _, _, _ => none
 | n + 1, s0, s2, s3, s4, s5, s40, s41, s42, h => p8_18 cf lf c0 c1 F9 (l8_17 cf lf c0 c1 F9 n) s0 s2 s3 s4 s5 s40 s41 s42 h
theorem l8_17_ok (cf : CallF) (lf : Nat) (c0 : Value) (c1 : Value) (F9 : Value → Value → Value → Value → Value → Heap → Ans) (n : Nat) : ∀ (T : Tmps) (h : Heap), iterK (fun T h K => execK E cf lf 62 k8_18 T h K) (blockK 4 (blockK 1 (seqK (fun T h => F9 (T 0) (T 2) (T 3) (T 4) (T 5) h) (blockK 0 (seqK (fun T h => p8_3 cf lf c0 c1 (T 0) (T 2) (T 3) (T 4) h) (e8K cf lf c0 c1)))))) n T h = l8_17 cf lf c0 c1 F9 n (T 0) (T 2) (T 3) (T 4) (T 5) (T 40) (T 41) (T 42) h := by
 induction n with
 | zero => intro T h; rfl
 | succ n ih =>
  intro T h
  rw [iterK_succ, show iterK (fun T h K => execK E cf lf 62 k8_18 T h K) (blockK 4 (blockK 1 (seqK (fun T h => F9 (T 0) (T 2) (T 3) (T 4) (T 5) h) (blockK 0 (seqK (fun T h => p8_3 cf lf c0 c1 (T 0) (T 2) (T 3) (T 4) h) (e8K cf lf c0 c1)))))) n = (fun T h => l8_17 cf lf c0 c1 F9 n (T 0) (T 2) (T 3) (T 4) (T 5) (T 40) (T 41) (T 42) h) from funext fun T => funext fun h => ih T h]
  exact p8_18_ok cf lf c0 c1 F9 (l8_17 cf lf c0 c1 F9 n) T h
def p8_12 (cf : CallF) (lf : Nat) (c0 : Value) (c1 : Value) (F9 : Value → Value → Value → Value → Value → Heap → Ans) (s0 : Value) (s2 : Value) (s3 : Value) (s4 : Value) (s5 : Value) (h : Heap) : Ans :=
 bindR (cf 24 [s4] h) (fun v h => e8 cf lf c0 c1 s2 s3 v h) fun t38 h =>
 bindO (unA .not t38) fun t39 =>
 condV t39 (
  p8_3 cf lf c0 c1 s0 s2 s3 s4 h
 ) (
  bindO (lenA E 58 s5) fun t41 =>
  l8_17 cf lf c0 c1 F9 lf s0 s2 s3 s4 s5 s5 t41 (.int .i64 (0)) h
 )
theorem p8_12_ok (cf : CallF) (lf : Nat) (c0 : Value) (c1 : Value) (F9 : Value → Value → Value → Value → Value → Heap → Ans) (T : Tmps) (h : Heap) : execK E cf lf 62 k8_12 T h (blockK 1 (seqK (fun T h => F9 (T 0) (T 2) (T 3) (T 4) (T 5) h) (blockK 0 (seqK (fun T h => p8_3 cf lf c0 c1 (T 0) (T 2) (T 3) (T 4) h) (e8K cf lf c0 c1))))) = p8_12 cf lf c0 c1 F9 (T 0) (T 2) (T 3) (T 4) (T 5) h := by simp only [k8_12, k8_13, k8_14, k8_15, k8_16, k8_17, execK_all, l8_17_ok]; delta p8_12; (try delta e8K); generalize l8_17 = G0; generalize e8 = G1; as_aux_lemma => kernel_rfl
def p8_29 (cf : CallF) (lf : Nat) (c0 : Value) (c1 : Value) (F9 : Value → Value → Value → Value → Value → Heap → Ans) (F28 : Value → Value → Value → Value → Value → Heap → Ans) (s0 : Value) (s2 : Value) (s3 : Value) (s4 : Value) (s5 : Value) (h : Heap) : Ans :=
 bindR (cf 23 [s4, (.string (mkS [32]))] h) (fun v h => e8 cf lf c0 c1 s2 s3 v h) fun t28 h =>
 bindO (gO (boolIs false t28) (some s4)) fun t30 =>
 bindR (gR (boolIs false t28) (cf 23 [t30, (.string (mkS [9]))] h) h) (fun v h => e8 cf lf c0 c1 s2 s3 v h) fun t31 h =>
 bindO (pickA t28 (.bool true) t31) fun t32 =>
 bindO (gO (boolIs false t32) (some s4)) fun t34 =>
 bindR (gR (boolIs false t32) (cf 23 [t34, (.string (mkS [92, 10]))] h) h) (fun v h => e8 cf lf c0 c1 s2 s3 v h) fun t35 h =>
 bindO (pickA t32 (.bool true) t35) fun t36 =>
 condV t36 (
  F28 s0 s2 s3 s4 s5 h
 ) (
  p8_12 cf lf c0 c1 F9 s0 s2 s3 s4 s5 h
 )
theorem p8_29_ok (cf : CallF) (lf : Nat) (c0 : Value) (c1 : Value) (F9 : Value → Value → Value → Value → Value → Heap → Ans) (F28 : Value → Value → Value → Value → Value → Heap → Ans) (T : Tmps) (h : Heap) : execK E cf lf 62 k8_29 T h (seqK (fun T h => F28 (T 0) (T 2) (T 3) (T 4) (T 5) h) (blockK 2 (seqK (fun T h => p8_12 cf lf c0 c1 F9 (T 0) (T 2) (T 3) (T 4) (T 5) h) (blockK 1 (seqK (fun T h => F9 (T 0) (T 2) (T 3) (T 4) (T 5) h) (blockK 0 (seqK (fun T h => p8_3 cf lf c0 c1 (T 0) (T 2) (T 3) (T 4) h) (e8K cf lf c0 c1)))))))) = p8_29 cf lf c0 c1 F9 F28 (T 0) (T 2) (T 3) (T 4) (T 5) h := by simp only [k8_29, k8_30, k8_31, k8_32, execK_all]; delta p8_29; (try delta e8K); generalize e8 = G0; as_aux_lemma => kernel_rfl
def l8_28 (cf : CallF) (lf : Nat) (c0 : Value) (c1 : Value) (F9 : Value → Value → Value → Value → Value → Heap → Ans) : Nat → Value → Value → Value → Value → Value → Heap → Ans
 | 0, _, _, _, _, _, _ => none
 | n + 1, s0, s2, s3, s4, s5, h => p8_29 cf lf c0 c1 F9 (l8_28 cf lf c0 c1 F9 n) s0 s2 s3 s4 s5 h
theorem l8_28_ok (cf : CallF) (lf : Nat) (c0 : Value) (c1 : Value) (F9 : Value → Value → Value → Value → Value → Heap → Ans) (n : Nat) : ∀ (T : Tmps) (h : Heap), iterK (fun T h K => execK E cf lf 62 k8_29 T h K) (blockK 2 (seqK (fun T h => p8_12 cf lf c0 c1 F9 (T 0) (T 2) (T 3) (T 4) (T 5) h) (blockK 1 (seqK (fun T h => F9 (T 0) (T 2) (T 3) (T 4) (T 5) h) (blockK 0 (seqK (fun T h => p8_3 cf lf c0 c1 (T 0) (T 2) (T 3) (T 4) h) (e8K cf lf c0 c1))))))) n T h = l8_28 cf lf c0 c1 F9 n (T 0) (T 2) (T 3) (T 4) (T 5) h := by
 induction n with
 | zero => intro T h; rfl
 | succ n ih =>
  intro T h
  rw [iterK_succ, show iterK (fun T h K => execK E cf lf 62 k8_29 T h K) (blockK 2 (seqK (fun T h => p8_12 cf lf c0 c1 F9 (T 0) (T 2) (T 3) (T 4) (T 5) h) (blockK 1 (seqK (fun T h => F9 (T 0) (T 2) (T 3) (T 4) (T 5) h) (blockK 0 (seqK (fun T h => p8_3 cf lf c0 c1 (T 0) (T 2) (T 3) (T 4) h) (e8K cf lf c0 c1))))))) n = (fun T h => l8_28 cf lf c0 c1 F9 n (T 0) (T 2) (T 3) (T 4) (T 5) h) from funext fun T => funext fun h => ih T h]
  exact p8_29_ok cf lf c0 c1 F9 (l8_28 cf lf c0 c1 F9 n) T h
def p8_10 (cf : CallF) (lf : Nat) (c0 : Value) (c1 : Value) (F9 : Value → Value → Value → Value → Value → Heap → Ans) (s0 : Value) (s2 : Value) (s3 : Value) (s4 : Value) (s5 : Value) (h : Heap) : Ans :=
 l8_28 cf lf c0 c1 F9 lf s0 s2 s3 s4 s5 h
theorem p8_10_ok (cf : CallF) (lf : Nat) (c0 : Value) (c1 : Value) (F9 : Value → Value → Value → Value → Value → Heap → Ans) (T : Tmps) (h : Heap) : execK E cf lf 62 k8_10 T h (seqK (fun T h => F9 (T 0) (T 2) (T 3) (T 4) (T 5) h) (blockK 0 (seqK (fun T h => p8_3 cf lf c0 c1 (T 0) (T 2) (T 3) (T 4) h) (e8K cf lf c0 c1)))) = p8_10 cf lf c0 c1 F9 (T 0) (T 2) (T 3) (T 4) (T 5) h := by simp only [k8_10, k8_11, k8_27, k8_28, execK_all, l8_28_ok, p8_12_ok]; delta p8_10; (try delta e8K); generalize l8_28 = G0; generalize p8_12 = G1; generalize e8 = G2; as_aux_lemma => kernel_rfl
def l8_9 (cf : CallF) (lf : Nat) (c0 : Value) (c1 : Value) : Nat → Value → Value → Value → Value → Value → Heap → Ans
 | 0, _, _, _, _, _, _ => none
 | n + 1, s0, s2, s3, s4, s5, h => p8_10 cf lf c0 c1 (l8_9 cf lf c0 c1 n) s0 s2 s3 s4 s5 h
theorem l8_9_ok (cf : CallF) (lf : Nat) (c0 : Value) (c1 : Value) (n : Nat) : ∀ (T : Tmps) (h : Heap), iterK (fun T h K => execK E cf lf 62 k8_10 T h K) (blockK 0 (seqK (fun T h => p8_3 cf lf c0 c1 (T 0) (T 2) (T 3) (T 4) h) (e8K cf lf c0 c1))) n T h = l8_9 cf lf c0 c1 n (T 0) (T 2) (T 3) (T 4) (T 5) h := by
 induction n with
 | zero => intro T h; rfl
 | succ n ih =>
  intro T h
  rw [iterK_succ, show iterK (fun T h K => execK E cf lf 62 k8_10 T h K) (blockK 0 (seqK (fun T h => p8_3 cf lf c0 c1 (T 0) (T 2) (T 3) (T 4) h) (e8K cf lf c0 c1))) n = (fun T h => l8_9 cf lf c0 c1 n (T 0) (T 2) (T 3) (T 4) (T 5) h) from funext fun T => funext fun h => ih T h]
  exact p8_10_ok cf lf c0 c1 (l8_9 cf lf c0 c1 n) T h
def p8_0 (cf : CallF) (lf : Nat) (c0 : Value) (c1 : Value) (s0 : Value) (s2 : Value) (s3 : Value) (h : Heap) : Ans :=
 bindO (buildA E 57 [(0, s0)]) fun t16 =>
 bindR (valR (some (boxA 57 t16 h))) (fun v h => e8 cf lf c0 c1 s2 s3 v h) fun t17 h =>
 bindR (valR (buildSliceA E 58 4 [(0, (.func (.func 19) ⟨[t17]⟩ ⟨[]⟩)), (1, (.func (.func 20) ⟨[t17]⟩ ⟨[]⟩)), (2, (.func (.func 21) ⟨[t17]⟩ ⟨[]⟩)), (3, (.func (.func 22) ⟨[t17]⟩ ⟨[]⟩))] h)) (fun v h => e8 cf lf c0 c1 s2 s3 v h) fun t26 h =>
 l8_9 cf lf c0 c1 lf s0 s2 s3 t17 t26 h
theorem p8_0_ok (cf : CallF) (lf : Nat) (c0 : Value) (c1 : Value) (T : Tmps) (h : Heap) : execK E cf lf 62 k8_0 T h (e8K cf lf c0 c1) = p8_0 cf lf c0 c1 (T 0) (T 2) (T 3) h := by simp only [k8_0, k8_1, k8_2, k8_8, k8_9, execK_all, l8_9_ok, p8_3_ok]; delta p8_0; (try delta e8K); generalize l8_9 = G0; generalize p8_3 = G1; generalize e8 = G2; as_aux_lemma => kernel_rfl
def q8_2 (cf : CallF) (lf : Nat) (s0 : Value) (s2 : Value) (s3 : Value) (h : Heap) : Ans :=
 p8_0 cf lf s2 s3 s0 s2 s3 h
theorem q8_2_ok (cf : CallF) (lf : Nat) (T : Tmps) (h : Heap) : spineK E cf lf 62 [.cell 2 22, .cell 3 24] k8_33 T h = q8_2 cf lf (T 0) (T 2) (T 3) h := by
 refine Eq.trans (show spineK E cf lf 62 [.cell 2 22, .cell 3 24] k8_33 T h = execK E cf lf 62 k8_0 (putT 62 T (some 14) (.func (.func 18) ⟨[]⟩ ⟨[(T 2), (T 3)]⟩)) h (finD E cf lf [.cell 2 22, .cell 3 24] Tryd.f18 [(T 2), (T 3)]) by kernel_rfl) ?_
 rw [e8K_ok, p8_0_ok]; delta q8_2; generalize p8_0 = G0; as_aux_lemma => kernel_rfl
def q8_1 (cf : CallF) (lf : Nat) (s0 : Value) (s2 : Value) (s3 : Value) (h : Heap) : Ans :=
 bindO (lenA E 9 s0) fun t9 =>
 bindO (binA E 3 .gtr t9 (.int .i64 (4000))) fun t10 =>
 condV t10 (
  bindO (buildA E 52 [(0, (.int .i64 (3))), (1, (.int .i64 (4000)))]) fun t11 =>
  bindR (valR (some (boxA 52 t11 h))) (fun v h => some (.panic v, h)) fun t12 h =>
  bindO (ifaceA E 51 t12) fun t13 =>
  bindR (skipR (storeA E 22 s2 (.slice none 0 0) h)) (fun v h => some (.panic v, h)) fun _ h =>
  bindR (skipR (storeA E 24 s3 t13 h)) (fun v h => some (.panic v, h)) fun _ h =>
  bindO (loadA E 22 s2 h) fun tr2 =>
  bindO (loadA E 24 s3 h) fun tr3 =>
  some (.ret (.tuple ⟨[tr2, tr3]⟩), h)
 ) (
  q8_2 cf lf s0 s2 s3 h
 )
theorem q8_1_ok (cf : CallF) (lf : Nat) (T : Tmps) (h : Heap) : spineK E cf lf 62 [.cell 2 22, .cell 3 24] k8_38 T h = q8_1 cf lf (T 0) (T 2) (T 3) h := by
 refine Eq.trans (show spineK E cf lf 62 [.cell 2 22, .cell 3 24] k8_38 T h = execK E cf lf 62 k8_34 T h (seqK (fun T h => spineK E cf lf 62 [.cell 2 22, .cell 3 24] k8_33 T h) (finK E [.cell 2 22, .cell 3 24])) by kernel_rfl) ?_
 simp only [k8_34, k8_35, k8_36, execK_all, q8_2_ok]; delta q8_1; generalize q8_2 = G0; as_aux_lemma => kernel_rfl
def q8_0 (cf : CallF) (lf : Nat) (s0 : Value) (h : Heap) : Ans :=
 bindR (valR (allocA E 22 h)) (fun v h => some (.panic v, h)) fun t2 h =>
 bindR (valR (allocA E 24 h)) (fun v h => some (.panic v, h)) fun t3 h =>
 q8_1 cf lf s0 t2 t3 h
theorem q8_0_ok (cf : CallF) (lf : Nat) (T : Tmps) (h : Heap) : spineK E cf lf 62 [.cell 2 22, .cell 3 24] k8_39 T h = q8_0 cf lf (T 0) h := by
 refine Eq.trans (show spineK E cf lf 62 [.cell 2 22, .cell 3 24] k8_39 T h = execK E cf lf 62 k8_40 T h (seqK (fun T h => spineK E cf lf 62 [.cell 2 22, .cell 3 24] k8_38 T h) (finK E [.cell 2 22, .cell 3 24])) by kernel_rfl) ?_
 simp only [execK_all, q8_1_ok]; delta q8_0; generalize q8_1 = G0; as_aux_lemma => kernel_rfl
def f8 (cf : CallF) (lf : Nat) (a0 : Value) (h : Heap) : Ans := q8_0 cf lf a0 h
theorem f8_ok (cf : CallF) (lf : Nat) (a0 : Value) (h : Heap) : stepN E cf lf 8 [a0] h = f8 cf lf a0 h :=
 (show stepN E cf lf 8 [a0] h = spineK E cf lf 62 [.cell 2 22, .cell 3 24] k8_39 (T0 [a0]) h by kernel_rfl).trans ((q8_0_ok cf lf (T0 [a0]) h).trans (by kernel_rfl))
noncomputable def kc10 := codeOf Tryd.f10
def k10_12 := cp kc10 [1, 0, 1, 0, 0]
def k10_6 := cp kc10 [1, 0, 1, 0, 1]
def k10_5 : Code := .seq k10_12 k10_6
def k10_11 := cp kc10 [1, 0, 1, 1]
def k10_14 := cp kc10 [1, 1, 1, 0]
def k10_8 := cp kc10 [1, 1, 1, 1]
def k10_10 := cp kc10 [1, 0, 0]
def k10_4 : Code := .cond (.tmp 12) k10_5 k10_11
def k10_13 := cp kc10 [1, 1, 0]
def k10_7 : Code := .seq k10_14 k10_8
def k10_3 : Code := .seq k10_10 k10_4
def k10_2 : Code := .seq k10_13 k10_7
def k10_9 := cp kc10 [0]
def k10_1 : Code := .seq k10_3 k10_2
def k10_0 : Code := .seq k10_9 k10_1
def p10_7 (cf : CallF) (lf : Nat) (s0 : Value) (s3 : Value) (s5 : Value) (h : Heap) : Ans :=
 bindO (ifaceA E 71 s5) fun t21 =>
 bindR (cf 32 [s0, t21] h) (fun v h => some (.panic v, h)) fun t22 h =>
 bindO (gO (boolIs true t22) (loadA E 51 s5 h)) fun t24 =>
 bindO (gO (boolIs true t22) (nilA t24)) fun t25 =>
 bindO (gO (boolIs true t22) (fieldAddrA E 52 t25 0)) fun t26 =>
 bindO (gO (boolIs true t22) (loadA E 27 t26 h)) fun t27 =>
 bindO (gO (boolIs true t22) (fieldAddrA E 29 s3 0)) fun t28 =>
 bindO (gO (boolIs true t22) (loadA E 27 t28 h)) fun t29 =>
 bindO (gO (boolIs true t22) (binB E 27 .eql t27 t29)) fun t30 =>
 bindO (pickA t22 t30 (.bool false)) fun t31 =>
 bindO (gO (boolIs true t31) (loadA E 51 s5 h)) fun t33 =>
 bindO (gO (boolIs true t31) (nilA t33)) fun t34 =>
 bindO (gO (boolIs true t31) (fieldAddrA E 52 t34 1)) fun t35 =>
 bindO (gO (boolIs true t31) (loadA E 3 t35 h)) fun t36 =>
 bindO (gO (boolIs true t31) (fieldAddrA E 29 s3 1)) fun t37 =>
 bindO (gO (boolIs true t31) (loadA E 3 t37 h)) fun t38 =>
 bindO (gO (boolIs true t31) (binB E 3 .eql t36 t38)) fun t39 =>
 bindO (pickA t31 t39 (.bool false)) fun t40 =>
 bindO (gO (boolIs true t40) (some s0)) fun t42 =>
 bindO (gO (boolIs true t40) (fieldAddrA E 29 s3 0)) fun t43 =>
 bindO (gO (boolIs true t40) (loadA E 27 t43 h)) fun t44 =>
 bindO (gO (boolIs true t40) (ifaceA E 27 t44)) fun t45 =>
 bindR (gR (boolIs true t40) (cf 33 [t42, t45] h) h) (fun v h => some (.panic v, h)) fun t46 h =>
 bindO (pickA t40 t46 (.bool false)) fun t47 =>
 some (.ret t47, h)
theorem p10_7_ok (cf : CallF) (lf : Nat) (T : Tmps) (h : Heap) : execK E cf lf 48 k10_7 T h (finK E [.tmp 4]) = p10_7 cf lf (T 0) (T 3) (T 5) h := by kernel_rfl
def p10_0 (cf : CallF) (lf : Nat) (s0 : Value) (s1 : Value) (h : Heap) : Ans :=
 bindR (valR (some (boxA 29 s1 h))) (fun v h => some (.panic v, h)) fun t3 h =>
 bindO (binA E 24 .eql s0 (.nilIface)) fun t7 =>
 bindO (gO (boolIs false t7) (fieldAddrA E 29 t3 0)) fun t9 =>
 bindO (gO (boolIs false t7) (loadA E 27 t9 h)) fun t10 =>
 bindO (gO (boolIs false t7) (binA E 27 .eql t10 (.int .i64 (0)))) fun t11 =>
 bindO (pickA t7 (.bool true) t11) fun t12 =>
 condV t12 (
  bindO (binA E 24 .eql s0 (.nilIface)) fun t14 =>
  bindO (gO (boolIs true t14) (fieldAddrA E 29 t3 0)) fun t16 =>
  bindO (gO (boolIs true t14) (loadA E 27 t16 h)) fun t17 =>
  bindO (gO (boolIs true t14) (binA E 27 .eql t17 (.int .i64 (0)))) fun t18 =>
  bindO (pickA t14 t18 (.bool false)) fun t19 =>
  some (.ret t19, h)
 ) (
  bindR (valR (allocA E 51 h)) (fun v h => some (.panic v, h)) fun t5 h =>
  p10_7 cf lf s0 t3 t5 h
 )
theorem p10_0_ok (cf : CallF) (lf : Nat) (T : Tmps) (h : Heap) : execK E cf lf 48 k10_0 T h (finK E [.tmp 4]) = p10_0 cf lf (T 0) (T 1) h := by simp only [k10_0, k10_1, k10_2, k10_3, k10_4, k10_5, execK_all, p10_7_ok]; delta p10_0; generalize p10_7 = G0; as_aux_lemma => kernel_rfl
def f10 (cf : CallF) (lf : Nat) (a0 : Value) (a1 : Value) (h : Heap) : Ans := p10_0 cf lf a0 a1 h
theorem f10_ok (cf : CallF) (lf : Nat) (a0 a1 : Value) (h : Heap) : stepN E cf lf 10 [a0, a1] h = f10 cf lf a0 a1 h := (show stepN E cf lf 10 [a0, a1] h = execK E cf lf 48 k10_0 (T0 [a0, a1]) h (finK E [.tmp 4]) by kernel_rfl).trans ((p10_0_ok cf lf (T0 [a0, a1]) h).trans (by kernel_rfl))
noncomputable def kc11 := codeOf Tryd.f11
def k11_32 := cp kc11 [1, 1, 0, 1, 0, 0, 1, 0, 0, 1, 0, 0]
def k11_21 := cp kc11 [1, 1, 0, 1, 0, 0, 1, 0, 0, 1, 0, 1]
def k11_20 : Code := .seq k11_32 k11_21
def k11_31 := cp kc11 [1, 1, 0, 1, 0, 0, 1, 0, 0, 1, 1]
def k11_30 := cp kc11 [1, 1, 0, 1, 0, 0, 1, 0, 0, 0]
def k11_19 : Code := .cond (.tmp 80) k11_20 k11_31
def k11_28 := cp kc11 [1, 1, 0, 1, 0, 0, 0, 1, 0]
def k11_29 := cp kc11 [1, 1, 0, 1, 0, 0, 0, 1, 1]
def k11_18 : Code := .seq k11_30 k11_19
def k11_27 := cp kc11 [1, 1, 0, 1, 0, 0, 0, 0]
def k11_15 : Code := .cond (.tmp 14) k11_28 k11_29
def k11_17 : Code := .block 1 k11_18
def k11_16 := cp kc11 [1, 1, 0, 1, 0, 0, 1, 1]
def k11_14 : Code := .seq k11_27 k11_15
def k11_13 : Code := .seq k11_17 k11_16
def k11_12 : Code := .seq k11_14 k11_13
def k11_25 := cp kc11 [1, 0, 1, 0, 0]
def k11_6 := cp kc11 [1, 0, 1, 0, 1]
def k11_11 : Code := .loop k11_12
def k11_5 : Code := .seq k11_25 k11_6
def k11_24 := cp kc11 [1, 0, 1, 1]
def k11_26 := cp kc11 [1, 1, 0, 0]
def k11_10 : Code := .block 0 k11_11
def k11_33 := cp kc11 [1, 1, 1, 0]
def k11_8 := cp kc11 [1, 1, 1, 1]
def k11_23 := cp kc11 [1, 0, 0]
def k11_4 : Code := .cond (.tmp 10) k11_5 k11_24
def k11_9 : Code := .seq k11_26 k11_10
def k11_7 : Code := .seq k11_33 k11_8
def k11_3 : Code := .seq k11_23 k11_4
def k11_2 : Code := .seq k11_9 k11_7
def k11_22 := cp kc11 [0]
def k11_1 : Code := .seq k11_3 k11_2
def k11_0 : Code := .seq k11_22 k11_1
def p11_7 (cf : CallF) (lf : Nat) (h : Heap) : Ans :=
 some (.ret (.bool true), h)
theorem p11_7_ok (cf : CallF) (lf : Nat) (T : Tmps) (h : Heap) : execK E cf lf 81 k11_7 T h (finK E [.tmp 4]) = p11_7 cf lf h := by kernel_rfl
def p11_16 (cf : CallF) (lf : Nat) (F11 : Value → Value → Value → Heap → Ans) (s0 : Value) (s1 : Value) (s5 : Value) (h : Heap) : Ans :=
 bindO (binA E 3 .add s5 (.int .i64 (1))) fun t16 =>
 F11 s0 s1 t16 h
theorem p11_16_ok (cf : CallF) (lf : Nat) (F11 : Value → Value → Value → Heap → Ans) (T : Tmps) (h : Heap) : execK E cf lf 81 k11_16 T h (seqK (fun T h => F11 (T 0) (T 1) (T 5) h) (blockK 0 (seqK (fun T h => p11_7 cf lf h) (finK E [.tmp 4])))) = p11_16 cf lf F11 (T 0) (T 1) (T 5) h := by kernel_rfl
def p11_19 (cf : CallF) (lf : Nat) (F11 : Value → Value → Value → Heap → Ans) (s0 : Value) (s1 : Value) (s5 : Value) (s80 : Value) (h : Heap) : Ans :=
 condV s80 (
  some (.ret (.bool false), h)
 ) (
  p11_16 cf lf F11 s0 s1 s5 h
 )
theorem p11_19_ok (cf : CallF) (lf : Nat) (F11 : Value → Value → Value → Heap → Ans) (T : Tmps) (h : Heap) : execK E cf lf 81 k11_19 T h (blockK 1 (seqK (fun T h => p11_16 cf lf F11 (T 0) (T 1) (T 5) h) (seqK (fun T h => F11 (T 0) (T 1) (T 5) h) (blockK 0 (seqK (fun T h => p11_7 cf lf h) (finK E [.tmp 4])))))) = p11_19 cf lf F11 (T 0) (T 1) (T 5) (T 80) h := by kernel_rfl
def p11_12 (cf : CallF) (lf : Nat) (F11 : Value → Value → Value → Heap → Ans) (s0 : Value) (s1 : Value) (s5 : Value) (h : Heap) : Ans :=
 bindO (lenA E 22 s0) fun t13 =>
 bindO (binB E 3 .lss s5 t13) fun t14 =>
 condV t14 (
  bindO (indexAddrA E 22 s0 s5) fun t19 =>
  bindO (fieldAddrA E 39 t19 0) fun t20 =>
  bindO (loadA E 3 t20 h) fun t21 =>
  bindO (indexAddrA E 22 s1 s5) fun t24 =>
  bindO (fieldAddrA E 39 t24 0) fun t25 =>
  bindO (loadA E 3 t25 h) fun t26 =>
  bindO (binB E 3 .neq t21 t26) fun t27 =>
  bindO (gO (boolIs false t27) (some s0)) fun t29 =>
  bindO (gO (boolIs false t27) (some s5)) fun t30 =>
  bindO (gO (boolIs false t27) (indexAddrA E 22 t29 t30)) fun t31 =>
  bindO (gO (boolIs false t27) (fieldAddrA E 39 t31 1)) fun t32 =>
  bindO (gO (boolIs false t27) (loadA E 9 t32 h)) fun t33 =>
  bindO (gO (boolIs false t27) (some s1)) fun t34 =>
  bindO (gO (boolIs false t27) (some s5)) fun t35 =>
  bindO (gO (boolIs false t27) (indexAddrA E 22 t34 t35)) fun t36 =>
  bindO (gO (boolIs false t27) (fieldAddrA E 39 t36 1)) fun t37 =>
  bindO (gO (boolIs false t27) (loadA E 9 t37 h)) fun t38 =>
  bindO (gO (boolIs false t27) (binB E 9 .neq t33 t38)) fun t39 =>
  bindO (pickA t27 (.bool true) t39) fun t40 =>
  bindO (gO (boolIs false t40) (some s0)) fun t42 =>
  bindO (gO (boolIs false t40) (some s5)) fun t43 =>
  bindO (gO (boolIs false t40) (indexAddrA E 22 t42 t43)) fun t44 =>
  bindO (gO (boolIs false t40) (fieldAddrA E 39 t44 3)) fun t45 =>
  bindO (gO (boolIs false t40) (loadA E 4 t45 h)) fun t46 =>
  bindO (gO (boolIs false t40) (some s1)) fun t47 =>
  bindO (gO (boolIs false t40) (some s5)) fun t48 =>
  bindO (gO (boolIs false t40) (indexAddrA E 22 t47 t48)) fun t49 =>
  bindO (gO (boolIs false t40) (fieldAddrA E 39 t49 3)) fun t50 =>
  bindO (gO (boolIs false t40) (loadA E 4 t50 h)) fun t51 =>
  bindO (gO (boolIs false t40) (binB E 4 .neq t46 t51)) fun t52 =>
  bindO (pickA t40 (.bool true) t52) fun t53 =>
  bindO (gO (boolIs false t53) (some s0)) fun t55 =>
  bindO (gO (boolIs false t53) (some s5)) fun t56 =>
  bindO (gO (boolIs false t53) (indexAddrA E 22 t55 t56)) fun t57 =>
  bindO (gO (boolIs false t53) (fieldAddrA E 39 t57 4)) fun t58 =>
  bindO (gO (boolIs false t53) (loadA E 3 t58 h)) fun t59 =>
  bindO (gO (boolIs false t53) (some s1)) fun t60 =>
  bindO (gO (boolIs false t53) (some s5)) fun t61 =>
  bindO (gO (boolIs false t53) (indexAddrA E 22 t60 t61)) fun t62 =>
  bindO (gO (boolIs false t53) (fieldAddrA E 39 t62 4)) fun t63 =>
  bindO (gO (boolIs false t53) (loadA E 3 t63 h)) fun t64 =>
  bindO (gO (boolIs false t53) (binB E 3 .neq t59 t64)) fun t65 =>
  bindO (pickA t53 (.bool true) t65) fun t66 =>
  bindO (gO (boolIs false t66) (some s0)) fun t68 =>
  bindO (gO (boolIs false t66) (some s5)) fun t69 =>
  bindO (gO (boolIs false t66) (indexAddrA E 22 t68 t69)) fun t70 =>
  bindO (gO (boolIs false t66) (fieldAddrA E 39 t70 2)) fun t71 =>
  bindO (gO (boolIs false t66) (loadA E 37 t71 h)) fun t72 =>
  bindO (gO (boolIs false t66) (some s1)) fun t73 =>
  bindO (gO (boolIs false t66) (some s5)) fun t74 =>
  bindO (gO (boolIs false t66) (indexAddrA E 22 t73 t74)) fun t75 =>
  bindO (gO (boolIs false t66) (fieldAddrA E 39 t75 2)) fun t76 =>
  bindO (gO (boolIs false t66) (loadA E 37 t76 h)) fun t77 =>
  bindR (gR (boolIs false t66) (cf 34 [t72, t77] h) h) (fun v h => some (.panic v, h)) fun t78 h =>
  bindO (gO (boolIs false t66) (unA .not t78)) fun t79 =>
  bindO (pickA t66 (.bool true) t79) fun t80 =>
  p11_19 cf lf F11 s0 s1 s5 t80 h
 ) (
  p11_7 cf lf h
 )
theorem p11_12_ok (cf : CallF) (lf : Nat) (F11 : Value → Value → Value → Heap → Ans) (T : Tmps) (h : Heap) : execK E cf lf 81 k11_12 T h (seqK (fun T h => F11 (T 0) (T 1) (T 5) h) (blockK 0 (seqK (fun T h => p11_7 cf lf h) (finK E [.tmp 4])))) = p11_12 cf lf F11 (T 0) (T 1) (T 5) h := by simp only [k11_12, k11_13, k11_14, k11_15, k11_17, k11_18, execK_all, p11_16_ok, p11_19_ok]; delta p11_12; generalize p11_16 = G0; generalize p11_19 = G1; as_aux_lemma => kernel_rfl
def l11_11 (cf : CallF) (lf : Nat) : Nat → Value → Value → Value → Heap → Ans
 | 0, _, _, _, _ => none
 | n + 1, s0, s1, s5, h => p11_12 cf lf (l11_11 cf lf n) s0 s1 s5 h
theorem l11_11_ok (cf : CallF) (lf : Nat) (n : Nat) : ∀ (T : Tmps) (h : Heap), iterK (fun T h K => execK E cf lf 81 k11_12 T h K) (blockK 0 (seqK (fun T h => p11_7 cf lf h) (finK E [.tmp 4]))) n T h = l11_11 cf lf n (T 0) (T 1) (T 5) h := by
 induction n with
 | zero => intro T h; rfl
 | succ n ih =>
  intro T h
  rw [iterK_succ, show iterK (fun T h K => execK E cf lf 81 k11_12 T h K) (blockK 0 (seqK (fun T h => p11_7 cf lf h) (finK E [.tmp 4]))) n = (fun T h => l11_11 cf lf n (T 0) (T 1) (T 5) h) from funext fun T => funext fun h => ih T h]
  exact p11_12_ok cf lf (l11_11 cf lf n) T h
def p11_10 (cf : CallF) (lf : Nat) (s0 : Value) (s1 : Value) (s5 : Value) (h : Heap) : Ans :=
 l11_11 cf lf lf s0 s1 s5 h
theorem p11_10_ok (cf : CallF) (lf : Nat) (T : Tmps) (h : Heap) : execK E cf lf 81 k11_10 T h (seqK (fun T h => p11_7 cf lf h) (finK E [.tmp 4])) = p11_10 cf lf (T 0) (T 1) (T 5) h := by simp only [k11_10, k11_11, execK_all, l11_11_ok]; delta p11_10; generalize l11_11 = G0; as_aux_lemma => kernel_rfl
def p11_0 (cf : CallF) (lf : Nat) (s0 : Value) (s1 : Value) (h : Heap) : Ans :=
 bindO (lenA E 22 s0) fun t7 =>
 bindO (lenA E 22 s1) fun t9 =>
 bindO (binB E 3 .neq t7 t9) fun t10 =>
 condV t10 (
  some (.ret (.bool false), h)
 ) (
  p11_10 cf lf s0 s1 (.int .i64 (0)) h
 )
theorem p11_0_ok (cf : CallF) (lf : Nat) (T : Tmps) (h : Heap) : execK E cf lf 81 k11_0 T h (finK E [.tmp 4]) = p11_0 cf lf (T 0) (T 1) h := by simp only [k11_0, k11_1, k11_2, k11_3, k11_4, k11_5, k11_9, execK_all, p11_10_ok, p11_7_ok]; delta p11_0; generalize p11_10 = G0; generalize p11_7 = G1; as_aux_lemma => kernel_rfl
def f11 (cf : CallF) (lf : Nat) (a0 : Value) (a1 : Value) (h : Heap) : Ans := p11_0 cf lf a0 a1 h
theorem f11_ok (cf : CallF) (lf : Nat) (a0 a1 : Value) (h : Heap) : stepN E cf lf 11 [a0, a1] h = f11 cf lf a0 a1 h := (show stepN E cf lf 11 [a0, a1] h = execK E cf lf 81 k11_0 (T0 [a0, a1]) h (finK E [.tmp 4]) by kernel_rfl).trans ((p11_0_ok cf lf (T0 [a0, a1]) h).trans (by kernel_rfl))
def f12 (cf : CallF) (lf : Nat) (h : Heap) : Ans :=
 bindR (cf 14 [(.string (mkS [101, 99, 104, 111, 32, 97, 39, 98, 32, 99, 39, 34, 100, 36, 120, 34, 32, 50, 62, 102]))] h) (fun v h => some (.panic v, h)) fun t1 h =>
 bindO (binA E 9 .eql t1 (.string (mkS [91, 101, 99, 104, 111, 93, 91, 97, 46, 113, 98, 32, 99, 46, 113, 81, 100, 46, 36, 81, 120, 93, 32, 50, 62, 32, 91, 102, 93]))) fun t2 =>
 bindR (gR (boolIs true t2) (cf 14 [(.string (mkS [97, 59, 98, 38, 38, 99, 32, 35, 32, 120, 10]))] h) h) (fun v h => some (.panic v, h)) fun t4 h =>
 bindO (gO (boolIs true t2) (binA E 9 .eql t4 (.string (mkS [91, 97, 93, 32, 59, 32, 91, 98, 93, 32, 38, 38, 32, 91, 99, 93, 47])))) fun t5 =>
 bindO (pickA t2 t5 (.bool false)) fun t6 =>
 bindR (gR (boolIs true t6) (cf 14 [(.string (mkS [36, 123, 120, 58, 45, 97, 32, 98, 125, 34, 36, 123, 35, 121, 125, 34, 32, 36, 40, 102, 32, 39, 41, 39, 32, 41]))] h) h) (fun v h => some (.panic v, h)) fun t8 h =>
 bindO (gO (boolIs true t6) (binA E 9 .eql t8 (.string (mkS [91, 36, 120, 58, 45, 60, 97, 32, 98, 62, 46, 36, 81, 121, 108, 101, 110, 93, 91, 40, 102, 32, 39, 41, 39, 32, 93])))) fun t9 =>
 bindO (pickA t6 t9 (.bool false)) fun t10 =>
 bindR (gR (boolIs true t10) (cf 14 [(.string (mkS [99, 97, 116, 32, 60, 60, 69, 59, 120, 10, 104, 105, 32, 36, 121, 10, 69, 10]))] h) h) (fun v h => some (.panic v, h)) fun t12 h =>
 bindO (gO (boolIs true t10) (binA E 9 .eql t12 (.string (mkS [91, 99, 97, 116, 93, 32, 60, 60, 32, 91, 69, 93, 123, 104, 105, 32, 36, 121, 10, 58, 113, 81, 104, 105, 32, 46, 36, 81, 121, 46, 113, 81, 10, 125, 32, 59, 32, 91, 120, 93, 47])))) fun t13 =>
 bindO (pickA t10 t13 (.bool false)) fun t14 =>
 bindR (gR (boolIs true t14) (cf 15 [(.string (mkS [39, 97])), (.int .i64 (19)), (.int .i64 (0))] h) h) (fun v h => some (.panic v, h)) fun t16 h =>
 bindO (pickA t14 t16 (.bool false)) fun t17 =>
 bindR (gR (boolIs true t17) (cf 15 [(.string (mkS [97, 32, 38])), (.int .i64 (19)), (.int .i64 (2))] h) h) (fun v h => some (.panic v, h)) fun t19 h =>
 bindO (pickA t17 t19 (.bool false)) fun t20 =>
 bindR (gR (boolIs true t20) (cf 15 [(.string (mkS [34, 36, 123, 120, 34])), (.int .i64 (19)), (.int .i64 (1))] h) h) (fun v h => some (.panic v, h)) fun t22 h =>
 bindO (pickA t20 t22 (.bool false)) fun t23 =>
 bindR (gR (boolIs true t23) (cf 15 [(.string (mkS [96])), (.int .i64 (19)), (.int .i64 (0))] h) h) (fun v h => some (.panic v, h)) fun t25 h =>
 bindO (pickA t23 t25 (.bool false)) fun t26 =>
 some (.ret t26, h)
theorem f12_ok (cf : CallF) (lf : Nat) (h : Heap) : stepN E cf lf 12 [] h = f12 cf lf  h := by kernel_rfl
def f13 (cf : CallF) (lf : Nat) (a0 : Value) (a1 : Value) (h : Heap) : Ans :=
 bindR (cf 35 [a0, a1] h) (fun v h => some (.panic v, h)) fun t7 h =>
 some (.ret t7, h)
theorem f13_ok (cf : CallF) (lf : Nat) (a0 a1 : Value) (h : Heap) : stepN E cf lf 13 [a0, a1] h = f13 cf lf a0 a1 h := by kernel_rfl
noncomputable def kc14 := codeOf Tryd.f14
def k14_52 := cp kc14 [1, 1, 1, 1, 0, 1, 0, 0, 1, 0, 0, 1, 0, 1, 1, 1, 1, 1, 0, 1, 0, 1, 0]
def k14_53 := cp kc14 [1, 1, 1, 1, 0, 1, 0, 0, 1, 0, 0, 1, 0, 1, 1, 1, 1, 1, 0, 1, 0, 1, 1]
def k14_51 := cp kc14 [1, 1, 1, 1, 0, 1, 0, 0, 1, 0, 0, 1, 0, 1, 1, 1, 1, 1, 0, 1, 0, 0]
def k14_32 : Code := .cond (.tmp 65) k14_52 k14_53
def k14_31 : Code := .seq k14_51 k14_32
def k14_30 := cp kc14 [1, 1, 1, 1, 0, 1, 0, 0, 1, 0, 0, 1, 0, 1, 1, 1, 1, 1, 0, 1, 1]
def k14_50 := cp kc14 [1, 1, 1, 1, 0, 1, 0, 0, 1, 0, 0, 1, 0, 1, 1, 1, 1, 1, 0, 0]
def k14_29 : Code := .seq k14_31 k14_30
def k14_28 : Code := .seq k14_50 k14_29
def k14_49 := cp kc14 [1, 1, 1, 1, 0, 1, 0, 0, 1, 0, 0, 1, 0, 1, 1, 1, 1, 1, 1]
def k14_48 := cp kc14 [1, 1, 1, 1, 0, 1, 0, 0, 1, 0, 0, 1, 0, 1, 1, 1, 1, 0]
def k14_27 : Code := .cond (.tmp 50) k14_28 k14_49
def k14_47 := cp kc14 [1, 1, 1, 1, 0, 1, 0, 0, 1, 0, 0, 1, 0, 1, 1, 1, 0]
def k14_26 : Code := .seq k14_48 k14_27
def k14_46 := cp kc14 [1, 1, 1, 1, 0, 1, 0, 0, 1, 0, 0, 1, 0, 1, 1, 0]
def k14_25 : Code := .cond (.tmp 46) k14_47 k14_26
def k14_45 := cp kc14 [1, 1, 1, 1, 0, 1, 0, 0, 1, 0, 0, 1, 0, 1, 0]
def k14_24 : Code := .seq k14_46 k14_25
def k14_44 := cp kc14 [1, 1, 1, 1, 0, 1, 0, 0, 1, 0, 0, 1, 0, 0]
def k14_23 : Code := .cond (.tmp 34) k14_45 k14_24
def k14_22 : Code := .seq k14_44 k14_23
def k14_43 := cp kc14 [1, 1, 1, 1, 0, 1, 0, 0, 1, 0, 0, 0]
def k14_21 : Code := .block 2 k14_22
def k14_41 := cp kc14 [1, 1, 1, 1, 0, 1, 0, 0, 0, 1, 0]
def k14_42 := cp kc14 [1, 1, 1, 1, 0, 1, 0, 0, 0, 1, 1]
def k14_20 : Code := .seq k14_43 k14_21
def k14_40 := cp kc14 [1, 1, 1, 1, 0, 1, 0, 0, 0, 0]
def k14_17 : Code := .cond (.tmp 17) k14_41 k14_42
def k14_19 : Code := .block 1 k14_20
def k14_18 := cp kc14 [1, 1, 1, 1, 0, 1, 0, 0, 1, 1]
def k14_16 : Code := .seq k14_40 k14_17
def k14_15 : Code := .seq k14_19 k14_18
def k14_14 : Code := .seq k14_16 k14_15
def k14_13 : Code := .loop k14_14
def k14_37 := cp kc14 [1, 1, 0, 1, 0, 0]
def k14_7 := cp kc14 [1, 1, 0, 1, 0, 1]
def k14_39 := cp kc14 [1, 1, 1, 1, 0, 0]
def k14_12 : Code := .block 0 k14_13
def k14_54 := cp kc14 [1, 1, 1, 1, 1, 0]
def k14_10 := cp kc14 [1, 1, 1, 1, 1, 1]
def k14_6 : Code := .seq k14_37 k14_7
def k14_36 := cp kc14 [1, 1, 0, 1, 1]
def k14_11 : Code := .seq k14_39 k14_12
def k14_9 : Code := .seq k14_54 k14_10
def k14_35 := cp kc14 [1, 1, 0, 0]
def k14_5 : Code := .cond (.tmp 13) k14_6 k14_36
def k14_38 := cp kc14 [1, 1, 1, 0]
def k14_8 : Code := .seq k14_11 k14_9
def k14_4 : Code := .seq k14_35 k14_5
def k14_3 : Code := .seq k14_38 k14_8
def k14_34 := cp kc14 [1, 0]
def k14_2 : Code := .seq k14_4 k14_3
def k14_33 := cp kc14 [0]
def k14_1 : Code := .seq k14_34 k14_2
def k14_0 : Code := .seq k14_33 k14_1
def p14_9 (cf : CallF) (lf : Nat) (s5 : Value) (h : Heap) : Ans :=
 some (.ret s5, h)
theorem p14_9_ok (cf : CallF) (lf : Nat) (T : Tmps) (h : Heap) : execK E cf lf 78 k14_9 T h (finK E [.tmp 2]) = p14_9 cf lf (T 5) h := by kernel_rfl
def p14_18 (cf : CallF) (lf : Nat) (F13 : Value → Value → Value → Heap → Ans) (s3 : Value) (s5 : Value) (s6 : Value) (h : Heap) : Ans :=
 bindO (binA E 3 .add s6 (.int .i64 (1))) fun t19 =>
 F13 s3 s5 t19 h
theorem p14_18_ok (cf : CallF) (lf : Nat) (F13 : Value → Value → Value → Heap → Ans) (T : Tmps) (h : Heap) : execK E cf lf 78 k14_18 T h (seqK (fun T h => F13 (T 3) (T 5) (T 6) h) (blockK 0 (seqK (fun T h => p14_9 cf lf (T 5) h) (finK E [.tmp 2])))) = p14_18 cf lf F13 (T 3) (T 5) (T 6) h := by kernel_rfl
def p14_30 (cf : CallF) (lf : Nat) (F13 : Value → Value → Value → Heap → Ans) (s3 : Value) (s5 : Value) (s6 : Value) (h : Heap) : Ans :=
 bindO (binA E 9 .add s5 (.string (mkS [125]))) fun t76 =>
 p14_18 cf lf F13 s3 t76 s6 h
theorem p14_30_ok (cf : CallF) (lf : Nat) (F13 : Value → Value → Value → Heap → Ans) (T : Tmps) (h : Heap) : execK E cf lf 78 k14_30 T h (blockK 2 (blockK 1 (seqK (fun T h => p14_18 cf lf F13 (T 3) (T 5) (T 6) h) (seqK (fun T h => F13 (T 3) (T 5) (T 6) h) (blockK 0 (seqK (fun T h => p14_9 cf lf (T 5) h) (finK E [.tmp 2]))))))) = p14_30 cf lf F13 (T 3) (T 5) (T 6) h := by kernel_rfl
def p14_32 (cf : CallF) (lf : Nat) (F13 : Value → Value → Value → Heap → Ans) (s3 : Value) (s5 : Value) (s6 : Value) (s65 : Value) (h : Heap) : Ans :=
 condV s65 (
  bindO (binA E 9 .add s5 (.string (mkS [58]))) fun t67 =>
  bindO (indexAddrA E 22 s3 s6) fun t70 =>
  bindO (fieldAddrA E 39 t70 2) fun t71 =>
  bindO (loadA E 37 t71 h) fun t72 =>
  bindR (cf 36 [t72] h) (fun v h => some (.panic v, h)) fun t73 h =>
  bindO (binB E 9 .add t67 t73) fun t74 =>
  p14_30 cf lf F13 s3 t74 s6 h
 ) (
  p14_30 cf lf F13 s3 s5 s6 h
 )
theorem p14_32_ok (cf : CallF) (lf : Nat) (F13 : Value → Value → Value → Heap → Ans) (T : Tmps) (h : Heap) : execK E cf lf 78 k14_32 T h (seqK (fun T h => p14_30 cf lf F13 (T 3) (T 5) (T 6) h) (blockK 2 (blockK 1 (seqK (fun T h => p14_18 cf lf F13 (T 3) (T 5) (T 6) h) (seqK (fun T h => F13 (T 3) (T 5) (T 6) h) (blockK 0 (seqK (fun T h => p14_9 cf lf (T 5) h) (finK E [.tmp 2])))))))) = p14_32 cf lf F13 (T 3) (T 5) (T 6) (T 65) h := by kernel_rfl
def p14_21 (cf : CallF) (lf : Nat) (F13 : Value → Value → Value → Heap → Ans) (s3 : Value) (s5 : Value) (s6 : Value) (s24 : Value) (h : Heap) : Ans :=
 bindO (binA E 3 .eql s24 (.int .i64 (0))) fun t35 =>
 condV t35 (
  bindO (binA E 9 .add s5 (.string (mkS [91]))) fun t37 =>
  bindO (indexAddrA E 22 s3 s6) fun t40 =>
  bindO (fieldAddrA E 39 t40 2) fun t41 =>
  bindO (loadA E 37 t41 h) fun t42 =>
  bindR (cf 36 [t42] h) (fun v h => some (.panic v, h)) fun t43 h =>
  bindO (binB E 9 .add t37 t43) fun t44 =>
  bindO (binA E 9 .add t44 (.string (mkS [93]))) fun t45 =>
  p14_18 cf lf F13 s3 t45 s6 h
 ) (
  bindO (binA E 3 .eql s24 (.int .i64 (2))) fun t47 =>
  condV t47 (
   bindO (binA E 9 .add s5 (.string (mkS [47]))) fun t49 =>
   p14_18 cf lf F13 s3 t49 s6 h
  ) (
   bindO (binA E 3 .eql s24 (.int .i64 (3))) fun t51 =>
   condV t51 (
    bindO (binA E 9 .add s5 (.string (mkS [123]))) fun t53 =>
    bindO (indexAddrA E 22 s3 s6) fun t56 =>
    bindO (fieldAddrA E 39 t56 1) fun t57 =>
    bindO (loadA E 9 t57 h) fun t58 =>
    bindO (binB E 9 .add t53 t58) fun t59 =>
    bindO (indexAddrA E 22 s3 s6) fun t62 =>
    bindO (fieldAddrA E 39 t62 3) fun t63 =>
    bindO (loadA E 4 t63 h) fun t64 =>
    bindO (unA .not t64) fun t65 =>
    p14_32 cf lf F13 s3 t59 s6 t65 h
   ) (
    bindO (binA E 9 .add s5 (.string (mkS [32]))) fun t26 =>
    bindO (indexAddrA E 22 s3 s6) fun t29 =>
    bindO (fieldAddrA E 39 t29 1) fun t30 =>
    bindO (loadA E 9 t30 h) fun t31 =>
    bindO (binB E 9 .add t26 t31) fun t32 =>
    bindO (binA E 9 .add t32 (.string (mkS [32]))) fun t33 =>
    p14_18 cf lf F13 s3 t33 s6 h
   )
  )
 )
theorem p14_21_ok (cf : CallF) (lf : Nat) (F13 : Value → Value → Value → Heap → Ans) (T : Tmps) (h : Heap) : execK E cf lf 78 k14_21 T h (blockK 1 (seqK (fun T h => p14_18 cf lf F13 (T 3) (T 5) (T 6) h) (seqK (fun T h => F13 (T 3) (T 5) (T 6) h) (blockK 0 (seqK (fun T h => p14_9 cf lf (T 5) h) (finK E [.tmp 2])))))) = p14_21 cf lf F13 (T 3) (T 5) (T 6) (T 24) h := by simp only [k14_21, k14_22, k14_23, k14_24, k14_25, k14_26, k14_27, k14_28, k14_29, k14_31, execK_all, p14_30_ok, p14_32_ok]; delta p14_21; generalize p14_30 = G0; generalize p14_32 = G1; as_aux_lemma => kernel_rfl
def p14_14 (cf : CallF) (lf : Nat) (F13 : Value → Value → Value → Heap → Ans) (s3 : Value) (s5 : Value) (s6 : Value) (h : Heap) : Ans :=
 bindO (lenA E 22 s3) fun t16 =>
 bindO (binB E 3 .lss s6 t16) fun t17 =>
 condV t17 (
  bindO (indexAddrA E 22 s3 s6) fun t22 =>
  bindO (fieldAddrA E 39 t22 0) fun t23 =>
  bindO (loadA E 3 t23 h) fun t24 =>
  p14_21 cf lf F13 s3 s5 s6 t24 h
 ) (
  p14_9 cf lf s5 h
 )
theorem p14_14_ok (cf : CallF) (lf : Nat) (F13 : Value → Value → Value → Heap → Ans) (T : Tmps) (h : Heap) : execK E cf lf 78 k14_14 T h (seqK (fun T h => F13 (T 3) (T 5) (T 6) h) (blockK 0 (seqK (fun T h => p14_9 cf lf (T 5) h) (finK E [.tmp 2])))) = p14_14 cf lf F13 (T 3) (T 5) (T 6) h := by simp only [k14_14, k14_15, k14_16, k14_17, k14_19, k14_20, execK_all, p14_18_ok, p14_21_ok]; delta p14_14; generalize p14_18 = G0; generalize p14_21 = G1; as_aux_lemma => kernel_rfl
def l14_13 (cf : CallF) (lf : Nat) : Nat → Value → Value → Value → Heap → Ans
 | 0, _, _, _, _ => none
 | n + 1, s3, s5, s6, h => p14_14 cf lf (l14_13 cf lf n) s3 s5 s6 h
theorem l14_13_ok (cf : CallF) (lf : Nat) (n : Nat) : ∀ (T : Tmps) (h : Heap), iterK (fun T h K => execK E cf lf 78 k14_14 T h K) (blockK 0 (seqK (fun T h => p14_9 cf lf (T 5) h) (finK E [.tmp 2]))) n T h = l14_13 cf lf n (T 3) (T 5) (T 6) h := by
 induction n with
 | zero => intro T h; rfl
 | succ n ih =>
  intro T h
  rw [iterK_succ, show iterK (fun T h K => execK E cf lf 78 k14_14 T h K) (blockK 0 (seqK (fun T h => p14_9 cf lf (T 5) h) (finK E [.tmp 2]))) n = (fun T h => l14_13 cf lf n (T 3) (T 5) (T 6) h) from funext fun T => funext fun h => ih T h]
  exact p14_14_ok cf lf (l14_13 cf lf n) T h
def p14_12 (cf : CallF) (lf : Nat) (s3 : Value) (s5 : Value) (s6 : Value) (h : Heap) : Ans :=
 l14_13 cf lf lf s3 s5 s6 h
theorem p14_12_ok (cf : CallF) (lf : Nat) (T : Tmps) (h : Heap) : execK E cf lf 78 k14_12 T h (seqK (fun T h => p14_9 cf lf (T 5) h) (finK E [.tmp 2])) = p14_12 cf lf (T 3) (T 5) (T 6) h := by simp only [k14_12, k14_13, execK_all, l14_13_ok]; delta p14_12; generalize l14_13 = G0; as_aux_lemma => kernel_rfl
def p14_0 (cf : CallF) (lf : Nat) (s0 : Value) (h : Heap) : Ans :=
 bindR (cf 8 [s0] h) (fun v h => some (.panic v, h)) fun t9 h =>
 bindO (extractA t9 0) fun t10 =>
 bindO (extractA t9 1) fun t11 =>
 bindO (binA E 24 .neq t11 (.nilIface)) fun t13 =>
 condV t13 (
  some (.ret (.string (mkS [63])), h)
 ) (
  p14_12 cf lf t10 (.string (mkS [])) (.int .i64 (0)) h
 )
theorem p14_0_ok (cf : CallF) (lf : Nat) (T : Tmps) (h : Heap) : execK E cf lf 78 k14_0 T h (finK E [.tmp 2]) = p14_0 cf lf (T 0) h := by simp only [k14_0, k14_1, k14_11, k14_2, k14_3, k14_4, k14_5, k14_6, k14_8, execK_all, p14_12_ok, p14_9_ok]; delta p14_0; generalize p14_12 = G0; generalize p14_9 = G1; as_aux_lemma => kernel_rfl
def f14 (cf : CallF) (lf : Nat) (a0 : Value) (h : Heap) : Ans := p14_0 cf lf a0 h
theorem f14_ok (cf : CallF) (lf : Nat) (a0 : Value) (h : Heap) : stepN E cf lf 14 [a0] h = f14 cf lf a0 h := (show stepN E cf lf 14 [a0] h = execK E cf lf 78 k14_0 (T0 [a0]) h (finK E [.tmp 2]) by kernel_rfl).trans ((p14_0_ok cf lf (T0 [a0]) h).trans (by kernel_rfl))
def f15 (cf : CallF) (lf : Nat) (a0 : Value) (a1 : Value) (a2 : Value) (h : Heap) : Ans :=
 bindR (cf 8 [a0] h) (fun v h => some (.panic v, h)) fun t11 h =>
 bindO (extractA t11 0) fun t12 =>
 bindO (extractA t11 1) fun t13 =>
 bindO (lenA E 22 t12) fun t15 =>
 bindO (binA E 3 .eql t15 (.int .i64 (0))) fun t16 =>
 bindO (gO (boolIs true t16) (some t13)) fun t18 =>
 bindO (gO (boolIs true t16) (some a1)) fun t19 =>
 bindO (gO (boolIs true t16) (some a2)) fun t20 =>
 bindO (gO (boolIs true t16) (buildA E 29 [(0, t19), (1, t20)])) fun t21 =>
 bindR (gR (boolIs true t16) (cf 10 [t18, t21] h) h) (fun v h => some (.panic v, h)) fun t22 h =>
 bindO (pickA t16 t22 (.bool false)) fun t23 =>
 some (.ret t23, h)
theorem f15_ok (cf : CallF) (lf : Nat) (a0 a1 a2 : Value) (h : Heap) : stepN E cf lf 15 [a0, a1, a2] h = f15 cf lf a0 a1 a2 h := by kernel_rfl
noncomputable def kc19 := codeOf Tryd.f19
def k19_33 := cp kc19 [1, 1, 1, 1, 0, 1, 0, 0, 1, 1, 0, 0, 0]
def k19_22 := cp kc19 [1, 1, 1, 1, 0, 1, 0, 0, 1, 1, 0, 0, 1]
def k19_21 : Code := .seq k19_33 k19_22
def k19_31 := cp kc19 [1, 1, 1, 1, 0, 1, 0, 0, 1, 0, 0]
def k19_32 := cp kc19 [1, 1, 1, 1, 0, 1, 0, 0, 1, 0, 1]
def k19_20 : Code := .block 1 k19_21
def k19_19 := cp kc19 [1, 1, 1, 1, 0, 1, 0, 0, 1, 1, 1]
def k19_18 : Code := .cond (.tmp 35) k19_31 k19_32
def k19_17 : Code := .seq k19_20 k19_19
def k19_30 := cp kc19 [1, 1, 1, 1, 0, 1, 0, 0, 0]
def k19_16 : Code := .seq k19_18 k19_17
def k19_15 : Code := .seq k19_30 k19_16
def k19_14 : Code := .loop k19_15
def k19_35 := cp kc19 [1, 1, 1, 1, 1, 1, 0]
def k19_11 := cp kc19 [1, 1, 1, 1, 1, 1, 1]
def k19_29 := cp kc19 [1, 1, 1, 1, 0, 0]
def k19_13 : Code := .block 0 k19_14
def k19_34 := cp kc19 [1, 1, 1, 1, 1, 0]
def k19_10 : Code := .seq k19_35 k19_11
def k19_26 := cp kc19 [1, 0, 1, 0, 0]
def k19_6 := cp kc19 [1, 0, 1, 0, 1]
def k19_12 : Code := .seq k19_29 k19_13
def k19_9 : Code := .seq k19_34 k19_10
def k19_5 : Code := .seq k19_26 k19_6
def k19_25 := cp kc19 [1, 0, 1, 1]
def k19_28 := cp kc19 [1, 1, 1, 0]
def k19_8 : Code := .seq k19_12 k19_9
def k19_24 := cp kc19 [1, 0, 0]
def k19_4 : Code := .cond (.tmp 7) k19_5 k19_25
def k19_27 := cp kc19 [1, 1, 0]
def k19_7 : Code := .seq k19_28 k19_8
def k19_3 : Code := .seq k19_24 k19_4
def k19_2 : Code := .seq k19_27 k19_7
def k19_23 := cp kc19 [0]
def k19_1 : Code := .seq k19_3 k19_2
def k19_0 : Code := .seq k19_23 k19_1
def p19_9 (cf : CallF) (lf : Nat) (s0 : Value) (h : Heap) : Ans :=
 bindO (nilA s0) fun t43 =>
 bindO (fieldAddrA E 57 t43 3) fun t44 =>
 bindR (skipR (storeA E 55 t44 (.slice none 0 0) h)) (fun v h => some (.panic v, h)) fun _ h =>
 some (.ret (.bool true), h)
theorem p19_9_ok (cf : CallF) (lf : Nat) (T : Tmps) (h : Heap) : execK E cf lf 45 k19_9 T h (finK E [.tmp 2]) = p19_9 cf lf (T 0) h := by kernel_rfl
def p19_15 (cf : CallF) (lf : Nat) (F14 : Value → Value → Value → Value → Heap → Ans) (s0 : Value) (s32 : Value) (s33 : Value) (s34 : Value) (h : Heap) : Ans :=
 bindO (binB E 3 .lss s34 s33) fun t35 =>
 condV t35 (
  bindO (indexAddrA E 55 s32 s34) fun t36 =>
  bindO (loadA E 89 t36 h) fun t37 =>
  bindR (valR (allocA E 89 h)) (fun v h => some (.panic v, h)) fun t4 h =>
  bindR (skipR (storeA E 89 t4 t37 h)) (fun v h => some (.panic v, h)) fun _ h =>
  bindO (loadA E 89 t4 h) fun t39 =>
  bindR (cf 45 [s0, t39] h) (fun v h => some (.panic v, h)) fun t40 h =>
  bindO (binA E 3 .add s34 (.int .i64 (1))) fun t41 =>
  F14 s0 s32 s33 t41 h
 ) (
  p19_9 cf lf s0 h
 )
theorem p19_15_ok (cf : CallF) (lf : Nat) (F14 : Value → Value → Value → Value → Heap → Ans) (T : Tmps) (h : Heap) : execK E cf lf 45 k19_15 T h (seqK (fun T h => F14 (T 0) (T 32) (T 33) (T 34) h) (blockK 0 (seqK (fun T h => p19_9 cf lf (T 0) h) (finK E [.tmp 2])))) = p19_15 cf lf F14 (T 0) (T 32) (T 33) (T 34) h := by kernel_rfl
def l19_14 (cf : CallF) (lf : Nat) : Nat → Value → Value → Value → Value → Heap → Ans
 | 0, _, _, _, _, _ => none
 | n + 1, s0, s32, s33, s34, h => p19_15 cf lf (l19_14 cf lf n) s0 s32 s33 s34 h
theorem l19_14_ok (cf : CallF) (lf : Nat) (n : Nat) : ∀ (T : Tmps) (h : Heap), iterK (fun T h K => execK E cf lf 45 k19_15 T h K) (blockK 0 (seqK (fun T h => p19_9 cf lf (T 0) h) (finK E [.tmp 2]))) n T h = l19_14 cf lf n (T 0) (T 32) (T 33) (T 34) h := by
 induction n with
 | zero => intro T h; rfl
 | succ n ih =>
  intro T h
  rw [iterK_succ, show iterK (fun T h K => execK E cf lf 45 k19_15 T h K) (blockK 0 (seqK (fun T h => p19_9 cf lf (T 0) h) (finK E [.tmp 2]))) n = (fun T h => l19_14 cf lf n (T 0) (T 32) (T 33) (T 34) h) from funext fun T => funext fun h => ih T h]
  exact p19_15_ok cf lf (l19_14 cf lf n) T h
def p19_8 (cf : CallF) (lf : Nat) (s0 : Value) (h : Heap) : Ans :=
 bindO (nilA s0) fun t30 =>
 bindO (fieldAddrA E 57 t30 3) fun t31 =>
 bindO (loadA E 55 t31 h) fun t32 =>
 bindO (lenA E 55 t32) fun t33 =>
 l19_14 cf lf lf s0 t32 t33 (.int .i64 (0)) h
theorem p19_8_ok (cf : CallF) (lf : Nat) (T : Tmps) (h : Heap) : execK E cf lf 45 k19_8 T h (finK E [.tmp 2]) = p19_8 cf lf (T 0) h := by simp only [k19_12, k19_13, k19_14, k19_8, execK_all, l19_14_ok, p19_9_ok]; delta p19_8; generalize l19_14 = G0; generalize p19_9 = G1; as_aux_lemma => kernel_rfl
def p19_0 (cf : CallF) (lf : Nat) (s0 : Value) (h : Heap) : Ans :=
 bindR (cf 44 [s0, (.string (mkS [10]))] h) (fun v h => some (.panic v, h)) fun t6 h =>
 bindO (unA .not t6) fun t7 =>
 condV t7 (
  some (.ret (.bool false), h)
 ) (
  bindO (nilA s0) fun t10 =>
  bindO (fieldAddrA E 57 t10 2) fun t11 =>
  bindO (loadA E 22 t11 h) fun t12 =>
  bindO (nilA s0) fun t14 =>
  bindO (fieldAddrA E 57 t14 1) fun t15 =>
  bindO (loadA E 3 t15 h) fun t16 =>
  bindO (buildA E 39 [(0, (.int .i64 (2))), (4, t16)]) fun t17 =>
  bindR (valR (buildSliceA E 22 1 [(0, t17)] h)) (fun v h => some (.panic v, h)) fun t18 h =>
  bindR (valR (appendA E 22 t12 t18 h)) (fun v h => some (.panic v, h)) fun t19 h =>
  bindO (nilA s0) fun t20 =>
  bindO (fieldAddrA E 57 t20 2) fun t21 =>
  bindR (skipR (storeA E 22 t21 t19 h)) (fun v h => some (.panic v, h)) fun _ h =>
  bindO (nilA s0) fun t23 =>
  bindO (fieldAddrA E 57 t23 1) fun t24 =>
  bindO (loadA E 3 t24 h) fun t25 =>
  bindO (binA E 3 .add t25 (.int .i64 (1))) fun t26 =>
  bindO (nilA s0) fun t27 =>
  bindO (fieldAddrA E 57 t27 1) fun t28 =>
  bindR (skipR (storeA E 3 t28 t26 h)) (fun v h => some (.panic v, h)) fun _ h =>
  p19_8 cf lf s0 h
 )
theorem p19_0_ok (cf : CallF) (lf : Nat) (T : Tmps) (h : Heap) : execK E cf lf 45 k19_0 T h (finK E [.tmp 2]) = p19_0 cf lf (T 0) h := by simp only [k19_0, k19_1, k19_2, k19_3, k19_4, k19_5, k19_7, execK_all, p19_8_ok]; delta p19_0; generalize p19_8 = G0; as_aux_lemma => kernel_rfl
def f19 (cf : CallF) (lf : Nat) (a0 : Value) (h : Heap) : Ans := p19_0 cf lf a0 h
theorem f19_ok (cf : CallF) (lf : Nat) (a0 : Value) (h : Heap) : stepN E cf lf 19 [a0] h = f19 cf lf a0 h := (show stepN E cf lf 19 [a0] h = execK E cf lf 45 k19_0 (T0 [a0]) h (finK E [.tmp 2]) by kernel_rfl).trans ((p19_0_ok cf lf (T0 [a0]) h).trans (by kernel_rfl))
noncomputable def kc20 := codeOf Tryd.f20
def k20_13 := cp kc20 [1, 0, 1, 0, 0]
def k20_6 := cp kc20 [1, 0, 1, 0, 1]
def k20_16 := cp kc20 [1, 1, 1, 1, 0]
def k20_9 := cp kc20 [1, 1, 1, 1, 1]
def k20_5 : Code := .seq k20_13 k20_6
def k20_12 := cp kc20 [1, 0, 1, 1]
def k20_15 := cp kc20 [1, 1, 1, 0]
def k20_8 : Code := .seq k20_16 k20_9
def k20_11 := cp kc20 [1, 0, 0]
def k20_4 : Code := .cond (.tmp 8) k20_5 k20_12
def k20_14 := cp kc20 [1, 1, 0]
def k20_7 : Code := .seq k20_15 k20_8
def k20_3 : Code := .seq k20_11 k20_4
def k20_2 : Code := .seq k20_14 k20_7
def k20_10 := cp kc20 [0]
def k20_1 : Code := .seq k20_3 k20_2
def k20_0 : Code := .seq k20_10 k20_1
def p20_8 (cf : CallF) (lf : Nat) (h : Heap) : Ans :=
 some (.ret (.bool true), h)
theorem p20_8_ok (cf : CallF) (lf : Nat) (T : Tmps) (h : Heap) : execK E cf lf 32 k20_8 T h (finK E [.tmp 2]) = p20_8 cf lf h := by kernel_rfl
def p20_0 (cf : CallF) (lf : Nat) (s0 : Value) (h : Heap) : Ans :=
 bindR (cf 44 [s0, (.string (mkS [35]))] h) (fun v h => some (.panic v, h)) fun t7 h =>
 bindO (unA .not t7) fun t8 =>
 condV t8 (
  some (.ret (.bool false), h)
 ) (
  bindO (nilA s0) fun t11 =>
  bindO (fieldAddrA E 57 t11 0) fun t12 =>
  bindO (loadA E 9 t12 h) fun t13 =>
  bindO (nilA s0) fun t15 =>
  bindO (fieldAddrA E 57 t15 1) fun t16 =>
  bindO (loadA E 3 t16 h) fun t17 =>
  bindO (sliceA E 9 t13 (some t17) none h) fun t18 =>
  bindR (cf 46 [t18, (.string (mkS [10]))] h) (fun v h => some (.panic v, h)) fun t19 h =>
  bindO (extractA t19 0) fun t20 =>
  bindO (extractA t19 1) fun t21 =>
  bindO (extractA t19 2) fun t22 =>
  bindO (nilA s0) fun t24 =>
  bindO (fieldAddrA E 57 t24 1) fun t25 =>
  bindO (loadA E 3 t25 h) fun t26 =>
  bindO (lenA E 9 t20) fun t28 =>
  bindO (binB E 3 .add t26 t28) fun t29 =>
  bindO (nilA s0) fun t30 =>
  bindO (fieldAddrA E 57 t30 1) fun t31 =>
  bindR (skipR (storeA E 3 t31 t29 h)) (fun v h => some (.panic v, h)) fun _ h =>
  p20_8 cf lf h
 )
theorem p20_0_ok (cf : CallF) (lf : Nat) (T : Tmps) (h : Heap) : execK E cf lf 32 k20_0 T h (finK E [.tmp 2]) = p20_0 cf lf (T 0) h := by simp only [k20_0, k20_1, k20_2, k20_3, k20_4, k20_5, k20_7, execK_all, p20_8_ok]; delta p20_0; generalize p20_8 = G0; as_aux_lemma => kernel_rfl
def f20 (cf : CallF) (lf : Nat) (a0 : Value) (h : Heap) : Ans := p20_0 cf lf a0 h
theorem f20_ok (cf : CallF) (lf : Nat) (a0 : Value) (h : Heap) : stepN E cf lf 20 [a0] h = f20 cf lf a0 h := (show stepN E cf lf 20 [a0] h = execK E cf lf 32 k20_0 (T0 [a0]) h (finK E [.tmp 2]) by kernel_rfl).trans ((p20_0_ok cf lf (T0 [a0]) h).trans (by kernel_rfl))
noncomputable def kc21 := codeOf Tryd.f21
def k21_26 := cp kc21 [1, 1, 1, 0, 1, 0, 0, 1, 0]
def k21_27 := cp kc21 [1, 1, 1, 0, 1, 0, 0, 1, 1]
def k21_25 := cp kc21 [1, 1, 1, 0, 1, 0, 0, 0]
def k21_13 : Code := .cond (.tmp 64) k21_26 k21_27
def k21_28 := cp kc21 [1, 1, 1, 0, 1, 0, 1, 0]
def k21_11 := cp kc21 [1, 1, 1, 0, 1, 0, 1, 1]
def k21_12 : Code := .seq k21_25 k21_13
def k21_10 : Code := .seq k21_28 k21_11
def k21_21 := cp kc21 [1, 1, 0, 1, 1, 0]
def k21_22 := cp kc21 [1, 1, 0, 1, 1, 1]
def k21_9 : Code := .seq k21_12 k21_10
def k21_24 := cp kc21 [1, 1, 1, 0, 1, 1]
def k21_30 := cp kc21 [1, 1, 1, 1, 1, 0]
def k21_6 := cp kc21 [1, 1, 1, 1, 1, 1]
def k21_20 := cp kc21 [1, 1, 0, 1, 0]
def k21_16 : Code := .cond (.tmp 50) k21_21 k21_22
def k21_23 := cp kc21 [1, 1, 1, 0, 0]
def k21_8 : Code := .cond (.tmp 62) k21_9 k21_24
def k21_29 := cp kc21 [1, 1, 1, 1, 0]
def k21_5 : Code := .seq k21_30 k21_6
def k21_19 := cp kc21 [1, 1, 0, 0]
def k21_15 : Code := .seq k21_20 k21_16
def k21_7 : Code := .seq k21_23 k21_8
def k21_4 : Code := .seq k21_29 k21_5
def k21_14 : Code := .seq k21_19 k21_15
def k21_3 : Code := .seq k21_7 k21_4
def k21_18 := cp kc21 [1, 0]
def k21_2 : Code := .seq k21_14 k21_3
def k21_17 := cp kc21 [0]
def k21_1 : Code := .seq k21_18 k21_2
def k21_0 : Code := .seq k21_17 k21_1
def p21_4 (cf : CallF) (lf : Nat) (s0 : Value) (s3 : Value) (h : Heap) : Ans :=
 bindO (nilA s0) fun t69 =>
 bindO (fieldAddrA E 57 t69 2) fun t70 =>
 bindO (loadA E 22 t70 h) fun t71 =>
 bindO (nilA s0) fun t73 =>
 bindO (fieldAddrA E 57 t73 0) fun t74 =>
 bindO (loadA E 9 t74 h) fun t75 =>
 bindO (nilA s0) fun t78 =>
 bindO (fieldAddrA E 57 t78 1) fun t79 =>
 bindO (loadA E 3 t79 h) fun t80 =>
 bindO (sliceA E 9 t75 (some s3) (some t80) h) fun t81 =>
 bindO (buildA E 39 [(0, (.int .i64 (1))), (1, t81), (4, s3)]) fun t83 =>
 bindR (valR (buildSliceA E 22 1 [(0, t83)] h)) (fun v h => some (.panic v, h)) fun t84 h =>
 bindR (valR (appendA E 22 t71 t84 h)) (fun v h => some (.panic v, h)) fun t85 h =>
 bindO (nilA s0) fun t86 =>
 bindO (fieldAddrA E 57 t86 2) fun t87 =>
 bindR (skipR (storeA E 22 t87 t85 h)) (fun v h => some (.panic v, h)) fun _ h =>
 some (.ret (.bool true), h)
theorem p21_4_ok (cf : CallF) (lf : Nat) (T : Tmps) (h : Heap) : execK E cf lf 88 k21_4 T h (finK E [.tmp 2]) = p21_4 cf lf (T 0) (T 3) h := by kernel_rfl
def p21_10 (cf : CallF) (lf : Nat) (h : Heap) : Ans :=
 some (.ret (.bool false), h)
theorem p21_10_ok (cf : CallF) (lf : Nat) (T : Tmps) (h : Heap) : execK E cf lf 88 k21_10 T h (seqK (fun T h => p21_4 cf lf (T 0) (T 3) h) (finK E [.tmp 2])) = p21_10 cf lf h := by kernel_rfl
def p21_3 (cf : CallF) (lf : Nat) (s0 : Value) (s3 : Value) (h : Heap) : Ans :=
 bindR (cf 48 [] h) (fun v h => some (.panic v, h)) fun t58 h =>
 bindR (cf 47 [t58, (.func (.func 23) ⟨[s0]⟩ ⟨[]⟩)] h) (fun v h => some (.panic v, h)) fun t61 h =>
 bindO (unA .not t61) fun t62 =>
 condV t62 (
  bindR (cf 44 [s0, (.string (mkS [38]))] h) (fun v h => some (.panic v, h)) fun t64 h =>
  condV t64 (
   bindR (cf 25 [(.int .i64 (19)), s3] h) (fun v h => some (.panic v, h)) fun t66 h =>
   p21_10 cf lf h
  ) (
   p21_10 cf lf h
  )
 ) (
  p21_4 cf lf s0 s3 h
 )
theorem p21_3_ok (cf : CallF) (lf : Nat) (T : Tmps) (h : Heap) : execK E cf lf 88 k21_3 T h (finK E [.tmp 2]) = p21_3 cf lf (T 0) (T 3) h := by simp only [k21_12, k21_13, k21_3, k21_7, k21_8, k21_9, execK_all, p21_10_ok, p21_4_ok]; delta p21_3; generalize p21_10 = G0; generalize p21_4 = G1; as_aux_lemma => kernel_rfl
def p21_16 (cf : CallF) (lf : Nat) (s0 : Value) (s3 : Value) (s50 : Value) (h : Heap) : Ans :=
 condV s50 (
  bindO (nilA s0) fun t52 =>
  bindO (fieldAddrA E 57 t52 1) fun t53 =>
  bindO (loadA E 3 t53 h) fun t54 =>
  bindO (binA E 3 .add t54 (.int .i64 (1))) fun t55 =>
  bindO (nilA s0) fun t56 =>
  bindO (fieldAddrA E 57 t56 1) fun t57 =>
  bindR (skipR (storeA E 3 t57 t55 h)) (fun v h => some (.panic v, h)) fun _ h =>
  p21_3 cf lf s0 s3 h
 ) (
  p21_3 cf lf s0 s3 h
 )
theorem p21_16_ok (cf : CallF) (lf : Nat) (T : Tmps) (h : Heap) : execK E cf lf 88 k21_16 T h (seqK (fun T h => p21_3 cf lf (T 0) (T 3) h) (finK E [.tmp 2])) = p21_16 cf lf (T 0) (T 3) (T 50) h := by kernel_rfl
def p21_15 (cf : CallF) (lf : Nat) (s0 : Value) (s3 : Value) (s4 : Value) (h : Heap) : Ans :=
 bindO (binA E 5 .geq s4 (.int .u8 (48))) fun t16 =>
 bindO (gO (boolIs true t16) (some s4)) fun t18 =>
 bindO (gO (boolIs true t16) (binA E 5 .leq t18 (.int .u8 (50)))) fun t19 =>
 bindO (pickA t16 t19 (.bool false)) fun t20 =>
 bindO (gO (boolIs true t20) (some s3)) fun t22 =>
 bindO (gO (boolIs true t20) (binA E 3 .add t22 (.int .i64 (1)))) fun t23 =>
 bindO (gO (boolIs true t20) (some s0)) fun t24 =>
 bindO (gO (boolIs true t20) (nilA t24)) fun t25 =>
 bindO (gO (boolIs true t20) (fieldAddrA E 57 t25 0)) fun t26 =>
 bindO (gO (boolIs true t20) (loadA E 9 t26 h)) fun t27 =>
 bindO (gO (boolIs true t20) (lenA E 9 t27)) fun t28 =>
 bindO (gO (boolIs true t20) (binB E 3 .lss t23 t28)) fun t29 =>
 bindO (pickA t20 t29 (.bool false)) fun t30 =>
 bindO (gO (boolIs true t30) (some s0)) fun t32 =>
 bindO (gO (boolIs true t30) (nilA t32)) fun t33 =>
 bindO (gO (boolIs true t30) (fieldAddrA E 57 t33 0)) fun t34 =>
 bindO (gO (boolIs true t30) (loadA E 9 t34 h)) fun t35 =>
 bindO (gO (boolIs true t30) (some s3)) fun t36 =>
 bindO (gO (boolIs true t30) (binA E 3 .add t36 (.int .i64 (1)))) fun t37 =>
 bindO (gO (boolIs true t30) (indexA E 9 t35 t37)) fun t38 =>
 bindO (gO (boolIs true t30) (binA E 5 .eql t38 (.int .u8 (60)))) fun t39 =>
 bindO (gO (boolIs true t30) (some t39)) fun t40 =>
 bindO (gO (boolIs false t40) (some s0)) fun t41 =>
 bindO (gO (boolIs false t40) (nilA t41)) fun t42 =>
 bindO (gO (boolIs false t40) (fieldAddrA E 57 t42 0)) fun t43 =>
 bindO (gO (boolIs false t40) (loadA E 9 t43 h)) fun t44 =>
 bindO (gO (boolIs false t40) (some s3)) fun t45 =>
 bindO (gO (boolIs false t40) (binA E 3 .add t45 (.int .i64 (1)))) fun t46 =>
 bindO (gO (boolIs false t40) (indexA E 9 t44 t46)) fun t47 =>
 bindO (gO (boolIs false t40) (binA E 5 .eql t47 (.int .u8 (62)))) fun t48 =>
 bindO (gO (boolIs true t30) (pickA t40 (.bool true) t48)) fun t49 =>
 bindO (pickA t30 t49 (.bool false)) fun t50 =>
 p21_16 cf lf s0 s3 t50 h
theorem p21_15_ok (cf : CallF) (lf : Nat) (T : Tmps) (h : Heap) : execK E cf lf 88 k21_15 T h (seqK (fun T h => p21_3 cf lf (T 0) (T 3) h) (finK E [.tmp 2])) = p21_15 cf lf (T 0) (T 3) (T 4) h := by simp only [k21_15, execK_all, p21_16_ok]; delta p21_15; generalize p21_16 = G0; as_aux_lemma => kernel_rfl
def p21_0 (cf : CallF) (lf : Nat) (s0 : Value) (h : Heap) : Ans :=
 bindO (nilA s0) fun t6 =>
 bindO (fieldAddrA E 57 t6 1) fun t7 =>
 bindO (loadA E 3 t7 h) fun t8 =>
 bindO (nilA s0) fun t10 =>
 bindO (fieldAddrA E 57 t10 0) fun t11 =>
 bindO (loadA E 9 t11 h) fun t12 =>
 bindO (indexA E 9 t12 t8) fun t14 =>
 p21_15 cf lf s0 t8 t14 h
theorem p21_0_ok (cf : CallF) (lf : Nat) (T : Tmps) (h : Heap) : execK E cf lf 88 k21_0 T h (finK E [.tmp 2]) = p21_0 cf lf (T 0) h := by simp only [k21_0, k21_1, k21_14, k21_2, execK_all, p21_15_ok, p21_3_ok]; delta p21_0; generalize p21_15 = G0; generalize p21_3 = G1; as_aux_lemma => kernel_rfl
def f21 (cf : CallF) (lf : Nat) (a0 : Value) (h : Heap) : Ans := p21_0 cf lf a0 h
theorem f21_ok (cf : CallF) (lf : Nat) (a0 : Value) (h : Heap) : stepN E cf lf 21 [a0] h = f21 cf lf a0 h := (show stepN E cf lf 21 [a0] h = execK E cf lf 88 k21_0 (T0 [a0]) h (finK E [.tmp 2]) by kernel_rfl).trans ((p21_0_ok cf lf (T0 [a0]) h).trans (by kernel_rfl))
noncomputable def kc22 := codeOf Tryd.f22
def k22_48 := cp kc22 [1, 1, 1, 1, 1, 1, 1, 1, 0, 1, 0, 0, 1, 1, 0, 0, 1, 0, 1, 0]
def k22_49 := cp kc22 [1, 1, 1, 1, 1, 1, 1, 1, 0, 1, 0, 0, 1, 1, 0, 0, 1, 0, 1, 1]
def k22_47 := cp kc22 [1, 1, 1, 1, 1, 1, 1, 1, 0, 1, 0, 0, 1, 1, 0, 0, 1, 0, 0]
def k22_31 : Code := .cond (.tmp 78) k22_48 k22_49
def k22_50 := cp kc22 [1, 1, 1, 1, 1, 1, 1, 1, 0, 1, 0, 0, 1, 1, 0, 0, 1, 1, 0]
def k22_29 := cp kc22 [1, 1, 1, 1, 1, 1, 1, 1, 0, 1, 0, 0, 1, 1, 0, 0, 1, 1, 1]
def k22_30 : Code := .seq k22_47 k22_31
def k22_28 : Code := .seq k22_50 k22_29
def k22_46 := cp kc22 [1, 1, 1, 1, 1, 1, 1, 1, 0, 1, 0, 0, 1, 1, 0, 0, 0]
def k22_27 : Code := .seq k22_30 k22_28
def k22_26 : Code := .seq k22_46 k22_27
def k22_44 := cp kc22 [1, 1, 1, 1, 1, 1, 1, 1, 0, 1, 0, 0, 1, 0, 0]
def k22_45 := cp kc22 [1, 1, 1, 1, 1, 1, 1, 1, 0, 1, 0, 0, 1, 0, 1]
def k22_25 : Code := .block 1 k22_26
def k22_24 := cp kc22 [1, 1, 1, 1, 1, 1, 1, 1, 0, 1, 0, 0, 1, 1, 1]
def k22_23 : Code := .cond (.tmp 68) k22_44 k22_45
def k22_22 : Code := .seq k22_25 k22_24
def k22_43 := cp kc22 [1, 1, 1, 1, 1, 1, 1, 1, 0, 1, 0, 0, 0]
def k22_21 : Code := .seq k22_23 k22_22
def k22_20 : Code := .seq k22_43 k22_21
def k22_53 := cp kc22 [1, 1, 1, 1, 1, 1, 1, 1, 1, 1, 1, 0]
def k22_16 := cp kc22 [1, 1, 1, 1, 1, 1, 1, 1, 1, 1, 1, 1]
def k22_19 : Code := .loop k22_20
def k22_52 := cp kc22 [1, 1, 1, 1, 1, 1, 1, 1, 1, 1, 0]
def k22_15 : Code := .seq k22_53 k22_16
def k22_40 := cp kc22 [1, 1, 1, 1, 1, 1, 0, 1, 0, 0]
def k22_11 := cp kc22 [1, 1, 1, 1, 1, 1, 0, 1, 0, 1]
def k22_42 := cp kc22 [1, 1, 1, 1, 1, 1, 1, 1, 0, 0]
def k22_18 : Code := .block 0 k22_19
def k22_51 := cp kc22 [1, 1, 1, 1, 1, 1, 1, 1, 1, 0]
def k22_14 : Code := .seq k22_52 k22_15
def k22_10 : Code := .seq k22_40 k22_11
def k22_39 := cp kc22 [1, 1, 1, 1, 1, 1, 0, 1, 1]
def k22_17 : Code := .seq k22_42 k22_18
def k22_13 : Code := .seq k22_51 k22_14
def k22_38 := cp kc22 [1, 1, 1, 1, 1, 1, 0, 0]
def k22_9 : Code := .cond (.tmp 61) k22_10 k22_39
def k22_41 := cp kc22 [1, 1, 1, 1, 1, 1, 1, 0]
def k22_12 : Code := .seq k22_17 k22_13
def k22_8 : Code := .seq k22_38 k22_9
def k22_7 : Code := .seq k22_41 k22_12
def k22_37 := cp kc22 [1, 1, 1, 1, 1, 0]
def k22_6 : Code := .seq k22_8 k22_7
def k22_36 := cp kc22 [1, 1, 1, 1, 0]
def k22_5 : Code := .seq k22_37 k22_6
def k22_35 := cp kc22 [1, 1, 1, 0]
def k22_4 : Code := .seq k22_36 k22_5
def k22_34 := cp kc22 [1, 1, 0]
def k22_3 : Code := .seq k22_35 k22_4
def k22_33 := cp kc22 [1, 0]
def k22_2 : Code := .seq k22_34 k22_3
def k22_32 := cp kc22 [0]
def k22_1 : Code := .seq k22_33 k22_2
def k22_0 : Code := .seq k22_32 k22_1
def p22_13 (cf : CallF) (lf : Nat) (s0 : Value) (s7 : Value) (s8 : Value) (h : Heap) : Ans :=
 bindO (nilA s0) fun t96 =>
 bindO (fieldAddrA E 57 t96 3) fun t97 =>
 bindO (loadA E 55 t97 h) fun t98 =>
 bindO (nilA s0) fun t100 =>
 bindO (fieldAddrA E 57 t100 2) fun t101 =>
 bindO (loadA E 22 t101 h) fun t102 =>
 bindO (lenA E 22 t102) fun t103 =>
 bindO (buildA E 89 [(0, t103), (1, s8)]) fun t105 =>
 bindR (valR (buildSliceA E 55 1 [(0, t105)] h)) (fun v h => some (.panic v, h)) fun t106 h =>
 bindR (valR (appendA E 55 t98 t106 h)) (fun v h => some (.panic v, h)) fun t107 h =>
 bindO (nilA s0) fun t108 =>
 bindO (fieldAddrA E 57 t108 3) fun t109 =>
 bindR (skipR (storeA E 55 t109 t107 h)) (fun v h => some (.panic v, h)) fun _ h =>
 bindO (nilA s0) fun t112 =>
 bindO (fieldAddrA E 57 t112 2) fun t113 =>
 bindO (loadA E 22 t113 h) fun t114 =>
 bindO (loadA E 39 s7 h) fun t115 =>
 bindR (valR (buildSliceA E 22 1 [(0, t115)] h)) (fun v h => some (.panic v, h)) fun t116 h =>
 bindR (valR (appendA E 22 t114 t116 h)) (fun v h => some (.panic v, h)) fun t117 h =>
 bindO (nilA s0) fun t118 =>
 bindO (fieldAddrA E 57 t118 2) fun t119 =>
 bindR (skipR (storeA E 22 t119 t117 h)) (fun v h => some (.panic v, h)) fun _ h =>
 some (.ret (.bool true), h)
theorem p22_13_ok (cf : CallF) (lf : Nat) (T : Tmps) (h : Heap) : execK E cf lf 120 k22_13 T h (finK E [.tmp 2]) = p22_13 cf lf (T 0) (T 7) (T 8) h := by kernel_rfl
def p22_24 (cf : CallF) (lf : Nat) (F19 : Value → Value → Value → Value → Value → Value → Value → Heap → Ans) (s0 : Value) (s3 : Value) (s7 : Value) (s8 : Value) (s65 : Value) (s66 : Value) (s67 : Value) (h : Heap) : Ans :=
 bindO (binA E 3 .add s67 (.int .i64 (1))) fun t93 =>
 F19 s0 s3 s7 s8 s65 s66 t93 h
theorem p22_24_ok (cf : CallF) (lf : Nat) (F19 : Value → Value → Value → Value → Value → Value → Value → Heap → Ans) (T : Tmps) (h : Heap) : execK E cf lf 120 k22_24 T h (seqK (fun T h => F19 (T 0) (T 3) (T 7) (T 8) (T 65) (T 66) (T 67) h) (blockK 0 (seqK (fun T h => p22_13 cf lf (T 0) (T 7) (T 8) h) (finK E [.tmp 2])))) = p22_24 cf lf F19 (T 0) (T 3) (T 7) (T 8) (T 65) (T 66) (T 67) h := by kernel_rfl
def p22_28 (cf : CallF) (lf : Nat) (F19 : Value → Value → Value → Value → Value → Value → Value → Heap → Ans) (s0 : Value) (s3 : Value) (s7 : Value) (s8 : Value) (s10 : Value) (s65 : Value) (s66 : Value) (s67 : Value) (h : Heap) : Ans :=
 bindO (fieldAddrA E 49 s10 1) fun t82 =>
 bindO (loadA E 9 t82 h) fun t83 =>
 bindO (binB E 9 .add s8 t83) fun t84 =>
 bindO (fieldAddrA E 39 s7 3) fun t85 =>
 bindO (loadA E 4 t85 h) fun t86 =>
 bindO (gO (boolIs false t86) (fieldAddrA E 49 s10 0)) fun t88 =>
 bindO (gO (boolIs false t86) (loadA E 3 t88 h)) fun t89 =>
 bindO (gO (boolIs false t86) (binA E 3 .eql t89 (.int .i64 (1)))) fun t90 =>
 bindO (pickA t86 (.bool true) t90) fun t91 =>
 bindO (fieldAddrA E 39 s7 3) fun t92 =>
 bindR (skipR (storeA E 4 t92 t91 h)) (fun v h => some (.panic v, h)) fun _ h =>
 p22_24 cf lf F19 s0 s3 s7 t84 s65 s66 s67 h
theorem p22_28_ok (cf : CallF) (lf : Nat) (F19 : Value → Value → Value → Value → Value → Value → Value → Heap → Ans) (T : Tmps) (h : Heap) : execK E cf lf 120 k22_28 T h (blockK 1 (seqK (fun T h => p22_24 cf lf F19 (T 0) (T 3) (T 7) (T 8) (T 65) (T 66) (T 67) h) (seqK (fun T h => F19 (T 0) (T 3) (T 7) (T 8) (T 65) (T 66) (T 67) h) (blockK 0 (seqK (fun T h => p22_13 cf lf (T 0) (T 7) (T 8) h) (finK E [.tmp 2])))))) = p22_28 cf lf F19 (T 0) (T 3) (T 7) (T 8) (T 10) (T 65) (T 66) (T 67) h := by kernel_rfl
def p22_27 (cf : CallF) (lf : Nat) (F19 : Value → Value → Value → Value → Value → Value → Value → Heap → Ans) (s0 : Value) (s3 : Value) (s7 : Value) (s8 : Value) (s10 : Value) (s65 : Value) (s66 : Value) (s67 : Value) (h : Heap) : Ans :=
 bindO (fieldAddrA E 49 s10 0) fun t71 =>
 bindO (loadA E 3 t71 h) fun t72 =>
 bindO (binA E 3 .neq t72 (.int .i64 (0))) fun t73 =>
 bindO (gO (boolIs true t73) (fieldAddrA E 49 s10 0)) fun t75 =>
 bindO (gO (boolIs true t73) (loadA E 3 t75 h)) fun t76 =>
 bindO (gO (boolIs true t73) (binA E 3 .neq t76 (.int .i64 (1)))) fun t77 =>
 bindO (pickA t73 t77 (.bool false)) fun t78 =>
 condV t78 (
  bindR (cf 25 [(.int .i64 (19)), s3] h) (fun v h => some (.panic v, h)) fun t80 h =>
  p22_28 cf lf F19 s0 s3 s7 s8 s10 s65 s66 s67 h
 ) (
  p22_28 cf lf F19 s0 s3 s7 s8 s10 s65 s66 s67 h
 )
theorem p22_27_ok (cf : CallF) (lf : Nat) (F19 : Value → Value → Value → Value → Value → Value → Value → Heap → Ans) (T : Tmps) (h : Heap) : execK E cf lf 120 k22_27 T h (blockK 1 (seqK (fun T h => p22_24 cf lf F19 (T 0) (T 3) (T 7) (T 8) (T 65) (T 66) (T 67) h) (seqK (fun T h => F19 (T 0) (T 3) (T 7) (T 8) (T 65) (T 66) (T 67) h) (blockK 0 (seqK (fun T h => p22_13 cf lf (T 0) (T 7) (T 8) h) (finK E [.tmp 2])))))) = p22_27 cf lf F19 (T 0) (T 3) (T 7) (T 8) (T 10) (T 65) (T 66) (T 67) h := by simp only [k22_27, k22_30, k22_31, execK_all, p22_28_ok]; delta p22_27; generalize p22_28 = G0; as_aux_lemma => kernel_rfl
def p22_20 (cf : CallF) (lf : Nat) (F19 : Value → Value → Value → Value → Value → Value → Value → Heap → Ans) (s0 : Value) (s3 : Value) (s7 : Value) (s8 : Value) (s65 : Value) (s66 : Value) (s67 : Value) (h : Heap) : Ans :=
 bindO (binB E 3 .lss s67 s66) fun t68 =>
 condV t68 (
  bindO (indexAddrA E 37 s65 s67) fun t69 =>
  bindO (loadA E 49 t69 h) fun t70 =>
  bindR (valR (allocA E 49 h)) (fun v h => some (.panic v, h)) fun t10 h =>
  bindR (skipR (storeA E 49 t10 t70 h)) (fun v h => some (.panic v, h)) fun _ h =>
  p22_27 cf lf F19 s0 s3 s7 s8 t10 s65 s66 s67 h
 ) (
  p22_13 cf lf s0 s7 s8 h
 )
theorem p22_20_ok (cf : CallF) (lf : Nat) (F19 : Value → Value → Value → Value → Value → Value → Value → Heap → Ans) (T : Tmps) (h : Heap) : execK E cf lf 120 k22_20 T h (seqK (fun T h => F19 (T 0) (T 3) (T 7) (T 8) (T 65) (T 66) (T 67) h) (blockK 0 (seqK (fun T h => p22_13 cf lf (T 0) (T 7) (T 8) h) (finK E [.tmp 2])))) = p22_20 cf lf F19 (T 0) (T 3) (T 7) (T 8) (T 65) (T 66) (T 67) h := by simp only [k22_20, k22_21, k22_22, k22_23, k22_25, k22_26, execK_all, p22_24_ok, p22_27_ok]; delta p22_20; generalize p22_24 = G0; generalize p22_27 = G1; as_aux_lemma => kernel_rfl
def l22_19 (cf : CallF) (lf : Nat) : Nat → Value → Value → Value → Value → Value → Value → Value → Heap → Ans
 | 0, _, _, _, _, _, _, _, _ => none
 | n + 1, s0, s3, s7, s8, s65, s66, s67, h => p22_20 cf lf (l22_19 cf lf n) s0 s3 s7 s8 s65 s66 s67 h
theorem l22_19_ok (cf : CallF) (lf : Nat) (n : Nat) : ∀ (T : Tmps) (h : Heap), iterK (fun T h K => execK E cf lf 120 k22_20 T h K) (blockK 0 (seqK (fun T h => p22_13 cf lf (T 0) (T 7) (T 8) h) (finK E [.tmp 2]))) n T h = l22_19 cf lf n (T 0) (T 3) (T 7) (T 8) (T 65) (T 66) (T 67) h := by
 induction n with
 | zero => intro T h; rfl
 | succ n ih =>
  intro T h
  rw [iterK_succ, show iterK (fun T h K => execK E cf lf 120 k22_20 T h K) (blockK 0 (seqK (fun T h => p22_13 cf lf (T 0) (T 7) (T 8) h) (finK E [.tmp 2]))) n = (fun T h => l22_19 cf lf n (T 0) (T 3) (T 7) (T 8) (T 65) (T 66) (T 67) h) from funext fun T => funext fun h => ih T h]
  exact p22_20_ok cf lf (l22_19 cf lf n) T h
def p22_18 (cf : CallF) (lf : Nat) (s0 : Value) (s3 : Value) (s7 : Value) (s8 : Value) (s65 : Value) (s66 : Value) (s67 : Value) (h : Heap) : Ans :=
 l22_19 cf lf lf s0 s3 s7 s8 s65 s66 s67 h
theorem p22_18_ok (cf : CallF) (lf : Nat) (T : Tmps) (h : Heap) : execK E cf lf 120 k22_18 T h (seqK (fun T h => p22_13 cf lf (T 0) (T 7) (T 8) h) (finK E [.tmp 2])) = p22_18 cf lf (T 0) (T 3) (T 7) (T 8) (T 65) (T 66) (T 67) h := by simp only [k22_18, k22_19, execK_all, l22_19_ok]; delta p22_18; generalize l22_19 = G0; as_aux_lemma => kernel_rfl
def p22_4 (cf : CallF) (lf : Nat) (s0 : Value) (s3 : Value) (s5 : Value) (h : Heap) : Ans :=
 bindR (cf 49 [s0, (.int .i64 (0)), (.int .i64 (0))] h) (fun v h => some (.panic v, h)) fun t47 h =>
 bindO (buildA E 39 [(0, (.int .i64 (0))), (2, t47), (4, s3)]) fun t49 =>
 bindR (valR (allocA E 39 h)) (fun v h => some (.panic v, h)) fun t6 h =>
 bindR (skipR (storeA E 39 t6 t49 h)) (fun v h => some (.panic v, h)) fun _ h =>
 bindO (nilA s0) fun t52 =>
 bindO (fieldAddrA E 57 t52 2) fun t53 =>
 bindO (loadA E 22 t53 h) fun t54 =>
 bindO (loadA E 39 t6 h) fun t55 =>
 bindR (valR (buildSliceA E 22 1 [(0, t55)] h)) (fun v h => some (.panic v, h)) fun t56 h =>
 bindR (valR (appendA E 22 t54 t56 h)) (fun v h => some (.panic v, h)) fun t57 h =>
 bindO (nilA s0) fun t58 =>
 bindO (fieldAddrA E 57 t58 2) fun t59 =>
 bindR (skipR (storeA E 22 t59 t57 h)) (fun v h => some (.panic v, h)) fun _ h =>
 bindO (unA .not s5) fun t61 =>
 condV t61 (
  some (.ret (.bool true), h)
 ) (
  bindO (buildA E 39 [(0, (.int .i64 (3))), (4, s3)]) fun t63 =>
  bindR (valR (allocA E 39 h)) (fun v h => some (.panic v, h)) fun t7 h =>
  bindR (skipR (storeA E 39 t7 t63 h)) (fun v h => some (.panic v, h)) fun _ h =>
  bindO (fieldAddrA E 39 t6 2) fun t64 =>
  bindO (loadA E 37 t64 h) fun t65 =>
  bindO (lenA E 37 t65) fun t66 =>
  p22_18 cf lf s0 s3 t7 (.string (mkS [])) t65 t66 (.int .i64 (0)) h
 )
theorem p22_4_ok (cf : CallF) (lf : Nat) (T : Tmps) (h : Heap) : execK E cf lf 120 k22_4 T h (finK E [.tmp 2]) = p22_4 cf lf (T 0) (T 3) (T 5) h := by simp only [k22_10, k22_12, k22_17, k22_4, k22_5, k22_6, k22_7, k22_8, k22_9, execK_all, p22_13_ok, p22_18_ok]; delta p22_4; generalize p22_13 = G0; generalize p22_18 = G1; as_aux_lemma => kernel_rfl
def p22_0 (cf : CallF) (lf : Nat) (s0 : Value) (h : Heap) : Ans :=
 bindO (nilA s0) fun t12 =>
 bindO (fieldAddrA E 57 t12 1) fun t13 =>
 bindO (loadA E 3 t13 h) fun t14 =>
 bindO (nilA s0) fun t16 =>
 bindO (fieldAddrA E 57 t16 2) fun t17 =>
 bindO (loadA E 22 t17 h) fun t18 =>
 bindO (lenA E 22 t18) fun t19 =>
 bindO (binA E 3 .gtr t19 (.int .i64 (0))) fun t21 =>
 bindO (gO (boolIs true t21) (some s0)) fun t23 =>
 bindO (gO (boolIs true t21) (nilA t23)) fun t24 =>
 bindO (gO (boolIs true t21) (fieldAddrA E 57 t24 2)) fun t25 =>
 bindO (gO (boolIs true t21) (loadA E 22 t25 h)) fun t26 =>
 bindO (gO (boolIs true t21) (some t19)) fun t27 =>
 bindO (gO (boolIs true t21) (binA E 3 .sub t27 (.int .i64 (1)))) fun t28 =>
 bindO (gO (boolIs true t21) (indexAddrA E 22 t26 t28)) fun t29 =>
 bindO (gO (boolIs true t21) (fieldAddrA E 39 t29 0)) fun t30 =>
 bindO (gO (boolIs true t21) (loadA E 3 t30 h)) fun t31 =>
 bindO (gO (boolIs true t21) (binA E 3 .eql t31 (.int .i64 (1)))) fun t32 =>
 bindO (pickA t21 t32 (.bool false)) fun t33 =>
 bindO (gO (boolIs true t33) (some s0)) fun t35 =>
 bindO (gO (boolIs true t33) (nilA t35)) fun t36 =>
 bindO (gO (boolIs true t33) (fieldAddrA E 57 t36 2)) fun t37 =>
 bindO (gO (boolIs true t33) (loadA E 22 t37 h)) fun t38 =>
 bindO (gO (boolIs true t33) (some t19)) fun t39 =>
 bindO (gO (boolIs true t33) (binA E 3 .sub t39 (.int .i64 (1)))) fun t40 =>
 bindO (gO (boolIs true t33) (indexAddrA E 22 t38 t40)) fun t41 =>
 bindO (gO (boolIs true t33) (fieldAddrA E 39 t41 1)) fun t42 =>
 bindO (gO (boolIs true t33) (loadA E 9 t42 h)) fun t43 =>
 bindR (gR (boolIs true t33) (cf 13 [t43, (.string (mkS [60, 60]))] h) h) (fun v h => some (.panic v, h)) fun t44 h =>
 bindO (pickA t33 t44 (.bool false)) fun t45 =>
 p22_4 cf lf s0 t14 t45 h
theorem p22_0_ok (cf : CallF) (lf : Nat) (T : Tmps) (h : Heap) : execK E cf lf 120 k22_0 T h (finK E [.tmp 2]) = p22_0 cf lf (T 0) h := by simp only [k22_0, k22_1, k22_2, k22_3, execK_all, p22_4_ok]; delta p22_0; generalize p22_4 = G0; as_aux_lemma => kernel_rfl
def f22 (cf : CallF) (lf : Nat) (a0 : Value) (h : Heap) : Ans := p22_0 cf lf a0 h
theorem f22_ok (cf : CallF) (lf : Nat) (a0 : Value) (h : Heap) : stepN E cf lf 22 [a0] h = f22 cf lf a0 h := (show stepN E cf lf 22 [a0] h = execK E cf lf 120 k22_0 (T0 [a0]) h (finK E [.tmp 2]) by kernel_rfl).trans ((p22_0_ok cf lf (T0 [a0]) h).trans (by kernel_rfl))
def f23 (cf : CallF) (lf : Nat) (a0 : Value) (a1 : Value) (h : Heap) : Ans :=
 bindR (cf 44 [a0, a1] h) (fun v h => some (.panic v, h)) fun t7 h =>
 bindO (unA .not t7) fun t8 =>
 condV t8 (
  some (.ret (.bool false), h)
 ) (
  bindO (nilA a0) fun t10 =>
  bindO (fieldAddrA E 57 t10 1) fun t11 =>
  bindO (loadA E 3 t11 h) fun t12 =>
  bindO (lenA E 9 a1) fun t14 =>
  bindO (binB E 3 .add t12 t14) fun t15 =>
  bindO (nilA a0) fun t16 =>
  bindO (fieldAddrA E 57 t16 1) fun t17 =>
  bindR (skipR (storeA E 3 t17 t15 h)) (fun v h => some (.panic v, h)) fun _ h =>
  some (.ret (.bool true), h)
 )
theorem f23_ok (cf : CallF) (lf : Nat) (a0 a1 : Value) (h : Heap) : stepN E cf lf 23 [a0, a1] h = f23 cf lf a0 a1 h := by kernel_rfl
def f24 (cf : CallF) (lf : Nat) (a0 : Value) (h : Heap) : Ans :=
 bindO (nilA a0) fun t4 =>
 bindO (fieldAddrA E 57 t4 1) fun t5 =>
 bindO (loadA E 3 t5 h) fun t6 =>
 bindO (nilA a0) fun t8 =>
 bindO (fieldAddrA E 57 t8 0) fun t9 =>
 bindO (loadA E 9 t9 h) fun t10 =>
 bindO (lenA E 9 t10) fun t11 =>
 bindO (binB E 3 .lss t6 t11) fun t12 =>
 some (.ret t12, h)
theorem f24_ok (cf : CallF) (lf : Nat) (a0 : Value) (h : Heap) : stepN E cf lf 24 [a0] h = f24 cf lf a0 h := by kernel_rfl
def f25 (cf : CallF) (lf : Nat) (a0 : Value) (a1 : Value) (h : Heap) : Ans :=
 bindO (buildA E 52 [(0, a0), (1, a1)]) fun t6 =>
 bindR (valR (some (boxA 52 t6 h))) (fun v h => some (.panic v, h)) fun t7 h =>
 bindO (ifaceA E 51 t7) fun t8 =>
 bindR (panicA t8 h) (fun v h => some (.panic v, h)) fun _ h =>
 some (.ret (.tuple ⟨[]⟩), h)
theorem f25_ok (cf : CallF) (lf : Nat) (a0 a1 : Value) (h : Heap) : stepN E cf lf 25 [a0, a1] h = f25 cf lf a0 a1 h := by kernel_rfl
noncomputable def kc34 := codeOf Tryd.f34
def k34_32 := cp kc34 [1, 1, 0, 1, 0, 0, 1, 0, 0, 1, 0, 0]
def k34_21 := cp kc34 [1, 1, 0, 1, 0, 0, 1, 0, 0, 1, 0, 1]
def k34_20 : Code := .seq k34_32 k34_21
def k34_31 := cp kc34 [1, 1, 0, 1, 0, 0, 1, 0, 0, 1, 1]
def k34_30 := cp kc34 [1, 1, 0, 1, 0, 0, 1, 0, 0, 0]
def k34_19 : Code := .cond (.tmp 80) k34_20 k34_31
def k34_28 := cp kc34 [1, 1, 0, 1, 0, 0, 0, 1, 0]
def k34_29 := cp kc34 [1, 1, 0, 1, 0, 0, 0, 1, 1]
def k34_18 : Code := .seq k34_30 k34_19
def k34_27 := cp kc34 [1, 1, 0, 1, 0, 0, 0, 0]
def k34_15 : Code := .cond (.tmp 14) k34_28 k34_29
def k34_17 : Code := .block 1 k34_18
def k34_16 := cp kc34 [1, 1, 0, 1, 0, 0, 1, 1]
def k34_14 : Code := .seq k34_27 k34_15
def k34_13 : Code := .seq k34_17 k34_16
def k34_12 : Code := .seq k34_14 k34_13
def k34_25 := cp kc34 [1, 0, 1, 0, 0]
def k34_6 := cp kc34 [1, 0, 1, 0, 1]
def k34_11 : Code := .loop k34_12
def k34_5 : Code := .seq k34_25 k34_6
def k34_24 := cp kc34 [1, 0, 1, 1]
def k34_26 := cp kc34 [1, 1, 0, 0]
def k34_10 : Code := .block 0 k34_11
def k34_33 := cp kc34 [1, 1, 1, 0]
def k34_8 := cp kc34 [1, 1, 1, 1]
def k34_23 := cp kc34 [1, 0, 0]
def k34_4 : Code := .cond (.tmp 10) k34_5 k34_24
def k34_9 : Code := .seq k34_26 k34_10
def k34_7 : Code := .seq k34_33 k34_8
def k34_3 : Code := .seq k34_23 k34_4
def k34_2 : Code := .seq k34_9 k34_7
def k34_22 := cp kc34 [0]
def k34_1 : Code := .seq k34_3 k34_2
def k34_0 : Code := .seq k34_22 k34_1
def p34_7 (cf : CallF) (lf : Nat) (h : Heap) : Ans :=
 some (.ret (.bool true), h)
theorem p34_7_ok (cf : CallF) (lf : Nat) (T : Tmps) (h : Heap) : execK E cf lf 81 k34_7 T h (finK E [.tmp 4]) = p34_7 cf lf h := by kernel_rfl
def p34_16 (cf : CallF) (lf : Nat) (F11 : Value → Value → Value → Heap → Ans) (s0 : Value) (s1 : Value) (s5 : Value) (h : Heap) : Ans :=
 bindO (binA E 3 .add s5 (.int .i64 (1))) fun t16 =>
 F11 s0 s1 t16 h
theorem p34_16_ok (cf : CallF) (lf : Nat) (F11 : Value → Value → Value → Heap → Ans) (T : Tmps) (h : Heap) : execK E cf lf 81 k34_16 T h (seqK (fun T h => F11 (T 0) (T 1) (T 5) h) (blockK 0 (seqK (fun T h => p34_7 cf lf h) (finK E [.tmp 4])))) = p34_16 cf lf F11 (T 0) (T 1) (T 5) h := by kernel_rfl
def p34_19 (cf : CallF) (lf : Nat) (F11 : Value → Value → Value → Heap → Ans) (s0 : Value) (s1 : Value) (s5 : Value) (s80 : Value) (h : Heap) : Ans :=
 condV s80 (
  some (.ret (.bool false), h)
 ) (
  p34_16 cf lf F11 s0 s1 s5 h
 )
theorem p34_19_ok (cf : CallF) (lf : Nat) (F11 : Value → Value → Value → Heap → Ans) (T : Tmps) (h : Heap) : execK E cf lf 81 k34_19 T h (blockK 1 (seqK (fun T h => p34_16 cf lf F11 (T 0) (T 1) (T 5) h) (seqK (fun T h => F11 (T 0) (T 1) (T 5) h) (blockK 0 (seqK (fun T h => p34_7 cf lf h) (finK E [.tmp 4])))))) = p34_19 cf lf F11 (T 0) (T 1) (T 5) (T 80) h := by kernel_rfl
def p34_12 (cf : CallF) (lf : Nat) (F11 : Value → Value → Value → Heap → Ans) (s0 : Value) (s1 : Value) (s5 : Value) (h : Heap) : Ans :=
 bindO (lenA E 37 s0) fun t13 =>
 bindO (binB E 3 .lss s5 t13) fun t14 =>
 condV t14 (
  bindO (indexAddrA E 37 s0 s5) fun t19 =>
  bindO (fieldAddrA E 49 t19 0) fun t20 =>
  bindO (loadA E 3 t20 h) fun t21 =>
  bindO (indexAddrA E 37 s1 s5) fun t24 =>
  bindO (fieldAddrA E 49 t24 0) fun t25 =>
  bindO (loadA E 3 t25 h) fun t26 =>
  bindO (binB E 3 .neq t21 t26) fun t27 =>
  bindO (gO (boolIs false t27) (some s0)) fun t29 =>
  bindO (gO (boolIs false t27) (some s5)) fun t30 =>
  bindO (gO (boolIs false t27) (indexAddrA E 37 t29 t30)) fun t31 =>
  bindO (gO (boolIs false t27) (fieldAddrA E 49 t31 1)) fun t32 =>
  bindO (gO (boolIs false t27) (loadA E 9 t32 h)) fun t33 =>
  bindO (gO (boolIs false t27) (some s1)) fun t34 =>
  bindO (gO (boolIs false t27) (some s5)) fun t35 =>
  bindO (gO (boolIs false t27) (indexAddrA E 37 t34 t35)) fun t36 =>
  bindO (gO (boolIs false t27) (fieldAddrA E 49 t36 1)) fun t37 =>
  bindO (gO (boolIs false t27) (loadA E 9 t37 h)) fun t38 =>
  bindO (gO (boolIs false t27) (binB E 9 .neq t33 t38)) fun t39 =>
  bindO (pickA t27 (.bool true) t39) fun t40 =>
  bindO (gO (boolIs false t40) (some s0)) fun t42 =>
  bindO (gO (boolIs false t40) (some s5)) fun t43 =>
  bindO (gO (boolIs false t40) (indexAddrA E 37 t42 t43)) fun t44 =>
  bindO (gO (boolIs false t40) (fieldAddrA E 49 t44 2)) fun t45 =>
  bindO (gO (boolIs false t40) (loadA E 9 t45 h)) fun t46 =>
  bindO (gO (boolIs false t40) (some s1)) fun t47 =>
  bindO (gO (boolIs false t40) (some s5)) fun t48 =>
  bindO (gO (boolIs false t40) (indexAddrA E 37 t47 t48)) fun t49 =>
  bindO (gO (boolIs false t40) (fieldAddrA E 49 t49 2)) fun t50 =>
  bindO (gO (boolIs false t40) (loadA E 9 t50 h)) fun t51 =>
  bindO (gO (boolIs false t40) (binB E 9 .neq t46 t51)) fun t52 =>
  bindO (pickA t40 (.bool true) t52) fun t53 =>
  bindO (gO (boolIs false t53) (some s0)) fun t55 =>
  bindO (gO (boolIs false t53) (some s5)) fun t56 =>
  bindO (gO (boolIs false t53) (indexAddrA E 37 t55 t56)) fun t57 =>
  bindO (gO (boolIs false t53) (fieldAddrA E 49 t57 3)) fun t58 =>
  bindO (gO (boolIs false t53) (loadA E 4 t58 h)) fun t59 =>
  bindO (gO (boolIs false t53) (some s1)) fun t60 =>
  bindO (gO (boolIs false t53) (some s5)) fun t61 =>
  bindO (gO (boolIs false t53) (indexAddrA E 37 t60 t61)) fun t62 =>
  bindO (gO (boolIs false t53) (fieldAddrA E 49 t62 3)) fun t63 =>
  bindO (gO (boolIs false t53) (loadA E 4 t63 h)) fun t64 =>
  bindO (gO (boolIs false t53) (binB E 4 .neq t59 t64)) fun t65 =>
  bindO (pickA t53 (.bool true) t65) fun t66 =>
  bindO (gO (boolIs false t66) (some s0)) fun t68 =>
  bindO (gO (boolIs false t66) (some s5)) fun t69 =>
  bindO (gO (boolIs false t66) (indexAddrA E 37 t68 t69)) fun t70 =>
  bindO (gO (boolIs false t66) (fieldAddrA E 49 t70 4)) fun t71 =>
  bindO (gO (boolIs false t66) (loadA E 37 t71 h)) fun t72 =>
  bindO (gO (boolIs false t66) (some s1)) fun t73 =>
  bindO (gO (boolIs false t66) (some s5)) fun t74 =>
  bindO (gO (boolIs false t66) (indexAddrA E 37 t73 t74)) fun t75 =>
  bindO (gO (boolIs false t66) (fieldAddrA E 49 t75 4)) fun t76 =>
  bindO (gO (boolIs false t66) (loadA E 37 t76 h)) fun t77 =>
  bindR (gR (boolIs false t66) (cf 34 [t72, t77] h) h) (fun v h => some (.panic v, h)) fun t78 h =>
  bindO (gO (boolIs false t66) (unA .not t78)) fun t79 =>
  bindO (pickA t66 (.bool true) t79) fun t80 =>
  p34_19 cf lf F11 s0 s1 s5 t80 h
 ) (
  p34_7 cf lf h
 )
theorem p34_12_ok (cf : CallF) (lf : Nat) (F11 : Value → Value → Value → Heap → Ans) (T : Tmps) (h : Heap) : execK E cf lf 81 k34_12 T h (seqK (fun T h => F11 (T 0) (T 1) (T 5) h) (blockK 0 (seqK (fun T h => p34_7 cf lf h) (finK E [.tmp 4])))) = p34_12 cf lf F11 (T 0) (T 1) (T 5) h := by simp only [k34_12, k34_13, k34_14, k34_15, k34_17, k34_18, execK_all, p34_16_ok, p34_19_ok]; delta p34_12; generalize p34_16 = G0; generalize p34_19 = G1; as_aux_lemma => kernel_rfl
def l34_11 (cf : CallF) (lf : Nat) : Nat → Value → Value → Value → Heap → Ans
 | 0, _, _, _, _ => none
 | n + 1, s0, s1, s5, h => p34_12 cf lf (l34_11 cf lf n) s0 s1 s5 h
theorem l34_11_ok (cf : CallF) (lf : Nat) (n : Nat) : ∀ (T : Tmps) (h : Heap), iterK (fun T h K => execK E cf lf 81 k34_12 T h K) (blockK 0 (seqK (fun T h => p34_7 cf lf h) (finK E [.tmp 4]))) n T h = l34_11 cf lf n (T 0) (T 1) (T 5) h := by
 induction n with
 | zero => intro T h; rfl
 | succ n ih =>
  intro T h
  rw [iterK_succ, show iterK (fun T h K => execK E cf lf 81 k34_12 T h K) (blockK 0 (seqK (fun T h => p34_7 cf lf h) (finK E [.tmp 4]))) n = (fun T h => l34_11 cf lf n (T 0) (T 1) (T 5) h) from funext fun T => funext fun h => ih T h]
  exact p34_12_ok cf lf (l34_11 cf lf n) T h
def p34_10 (cf : CallF) (lf : Nat) (s0 : Value) (s1 : Value) (s5 : Value) (h : Heap) : Ans :=
 l34_11 cf lf lf s0 s1 s5 h
theorem p34_10_ok (cf : CallF) (lf : Nat) (T : Tmps) (h : Heap) : execK E cf lf 81 k34_10 T h (seqK (fun T h => p34_7 cf lf h) (finK E [.tmp 4])) = p34_10 cf lf (T 0) (T 1) (T 5) h := by simp only [k34_10, k34_11, execK_all, l34_11_ok]; delta p34_10; generalize l34_11 = G0; as_aux_lemma => kernel_rfl
def p34_0 (cf : CallF) (lf : Nat) (s0 : Value) (s1 : Value) (h : Heap) : Ans :=
 bindO (lenA E 37 s0) fun t7 =>
 bindO (lenA E 37 s1) fun t9 =>
 bindO (binB E 3 .neq t7 t9) fun t10 =>
 condV t10 (
  some (.ret (.bool false), h)
 ) (
  p34_10 cf lf s0 s1 (.int .i64 (0)) h
 )
theorem p34_0_ok (cf : CallF) (lf : Nat) (T : Tmps) (h : Heap) : execK E cf lf 81 k34_0 T h (finK E [.tmp 4]) = p34_0 cf lf (T 0) (T 1) h := by simp only [k34_0, k34_1, k34_2, k34_3, k34_4, k34_5, k34_9, execK_all, p34_10_ok, p34_7_ok]; delta p34_0; generalize p34_10 = G0; generalize p34_7 = G1; as_aux_lemma => kernel_rfl
def f34 (cf : CallF) (lf : Nat) (a0 : Value) (a1 : Value) (h : Heap) : Ans := p34_0 cf lf a0 a1 h
theorem f34_ok (cf : CallF) (lf : Nat) (a0 a1 : Value) (h : Heap) : stepN E cf lf 34 [a0, a1] h = f34 cf lf a0 a1 h := (show stepN E cf lf 34 [a0, a1] h = execK E cf lf 81 k34_0 (T0 [a0, a1]) h (finK E [.tmp 4]) by kernel_rfl).trans ((p34_0_ok cf lf (T0 [a0, a1]) h).trans (by kernel_rfl))
def f35 (cf : CallF) (lf : Nat) (a0 : Value) (a1 : Value) (h : Heap) : Ans :=
 bindO (lenA E 9 a0) fun t6 =>
 bindO (lenA E 9 a1) fun t8 =>
 bindO (binB E 3 .geq t6 t8) fun t9 =>
 bindO (gO (boolIs true t9) (some a0)) fun t11 =>
 bindO (gO (boolIs true t9) (some a0)) fun t12 =>
 bindO (gO (boolIs true t9) (lenA E 9 t12)) fun t13 =>
 bindO (gO (boolIs true t9) (some a1)) fun t14 =>
 bindO (gO (boolIs true t9) (lenA E 9 t14)) fun t15 =>
 bindO (gO (boolIs true t9) (binB E 3 .sub t13 t15)) fun t16 =>
 bindO (gO (boolIs true t9) (sliceA E 9 t11 (some t16) none h)) fun t17 =>
 bindO (gO (boolIs true t9) (some a1)) fun t18 =>
 bindO (gO (boolIs true t9) (binB E 9 .eql t17 t18)) fun t19 =>
 bindO (pickA t9 t19 (.bool false)) fun t20 =>
 some (.ret t20, h)
theorem f35_ok (cf : CallF) (lf : Nat) (a0 a1 : Value) (h : Heap) : stepN E cf lf 35 [a0, a1] h = f35 cf lf a0 a1 h := by kernel_rfl
noncomputable def kc36 := codeOf Tryd.f36
def k36_38 := cp kc36 [1, 1, 0, 1, 0, 0, 1, 0, 0, 1, 1, 1, 1, 0, 1, 0]
def k36_39 := cp kc36 [1, 1, 0, 1, 0, 0, 1, 0, 0, 1, 1, 1, 1, 0, 1, 1]
def k36_41 := cp kc36 [1, 1, 0, 1, 0, 0, 1, 0, 0, 1, 1, 1, 1, 1, 1, 0]
def k36_42 := cp kc36 [1, 1, 0, 1, 0, 0, 1, 0, 0, 1, 1, 1, 1, 1, 1, 1]
def k36_37 := cp kc36 [1, 1, 0, 1, 0, 0, 1, 0, 0, 1, 1, 1, 1, 0, 0]
def k36_22 : Code := .cond (.tmp 39) k36_38 k36_39
def k36_40 := cp kc36 [1, 1, 0, 1, 0, 0, 1, 0, 0, 1, 1, 1, 1, 1, 0]
def k36_20 : Code := .cond (.tmp 51) k36_41 k36_42
def k36_34 := cp kc36 [1, 1, 0, 1, 0, 0, 1, 0, 0, 1, 1, 0, 1, 0]
def k36_35 := cp kc36 [1, 1, 0, 1, 0, 0, 1, 0, 0, 1, 1, 0, 1, 1]
def k36_21 : Code := .seq k36_37 k36_22
def k36_19 : Code := .seq k36_40 k36_20
def k36_33 := cp kc36 [1, 1, 0, 1, 0, 0, 1, 0, 0, 1, 1, 0, 0]
def k36_24 : Code := .cond (.tmp 24) k36_34 k36_35
def k36_36 := cp kc36 [1, 1, 0, 1, 0, 0, 1, 0, 0, 1, 1, 1, 0]
def k36_18 : Code := .seq k36_21 k36_19
def k36_23 : Code := .seq k36_33 k36_24
def k36_17 : Code := .seq k36_36 k36_18
def k36_32 := cp kc36 [1, 1, 0, 1, 0, 0, 1, 0, 0, 1, 0]
def k36_16 : Code := .seq k36_23 k36_17
def k36_31 := cp kc36 [1, 1, 0, 1, 0, 0, 1, 0, 0, 0]
def k36_15 : Code := .seq k36_32 k36_16
def k36_29 := cp kc36 [1, 1, 0, 1, 0, 0, 0, 1, 0]
def k36_30 := cp kc36 [1, 1, 0, 1, 0, 0, 0, 1, 1]
def k36_14 : Code := .seq k36_31 k36_15
def k36_28 := cp kc36 [1, 1, 0, 1, 0, 0, 0, 0]
def k36_11 : Code := .cond (.tmp 10) k36_29 k36_30
def k36_13 : Code := .block 1 k36_14
def k36_12 := cp kc36 [1, 1, 0, 1, 0, 0, 1, 1]
def k36_10 : Code := .seq k36_28 k36_11
def k36_9 : Code := .seq k36_13 k36_12
def k36_8 : Code := .seq k36_10 k36_9
def k36_7 : Code := .loop k36_8
def k36_27 := cp kc36 [1, 1, 0, 0]
def k36_6 : Code := .block 0 k36_7
def k36_43 := cp kc36 [1, 1, 1, 0]
def k36_4 := cp kc36 [1, 1, 1, 1]
def k36_5 : Code := .seq k36_27 k36_6
def k36_3 : Code := .seq k36_43 k36_4
def k36_26 := cp kc36 [1, 0]
def k36_2 : Code := .seq k36_5 k36_3
def k36_25 := cp kc36 [0]
def k36_1 : Code := .seq k36_26 k36_2
def k36_0 : Code := .seq k36_25 k36_1
def p36_3 (cf : CallF) (lf : Nat) (s3 : Value) (h : Heap) : Ans :=
 some (.ret s3, h)
theorem p36_3_ok (cf : CallF) (lf : Nat) (T : Tmps) (h : Heap) : execK E cf lf 55 k36_3 T h (finK E [.tmp 2]) = p36_3 cf lf (T 3) h := by kernel_rfl
def p36_12 (cf : CallF) (lf : Nat) (F7 : Value → Value → Value → Heap → Ans) (s0 : Value) (s3 : Value) (s4 : Value) (h : Heap) : Ans :=
 bindO (binA E 3 .add s4 (.int .i64 (1))) fun t12 =>
 F7 s0 s3 t12 h
theorem p36_12_ok (cf : CallF) (lf : Nat) (F7 : Value → Value → Value → Heap → Ans) (T : Tmps) (h : Heap) : execK E cf lf 55 k36_12 T h (seqK (fun T h => F7 (T 0) (T 3) (T 4) h) (blockK 0 (seqK (fun T h => p36_3 cf lf (T 3) h) (finK E [.tmp 2])))) = p36_12 cf lf F7 (T 0) (T 3) (T 4) h := by kernel_rfl
def p36_19 (cf : CallF) (lf : Nat) (F7 : Value → Value → Value → Heap → Ans) (s0 : Value) (s3 : Value) (s4 : Value) (h : Heap) : Ans :=
 bindO (binA E 3 .add s4 (.int .i64 (1))) fun t48 =>
 bindO (lenA E 37 s0) fun t50 =>
 bindO (binB E 3 .lss t48 t50) fun t51 =>
 condV t51 (
  bindO (binA E 9 .add s3 (.string (mkS [46]))) fun t53 =>
  p36_12 cf lf F7 s0 t53 s4 h
 ) (
  p36_12 cf lf F7 s0 s3 s4 h
 )
theorem p36_19_ok (cf : CallF) (lf : Nat) (F7 : Value → Value → Value → Heap → Ans) (T : Tmps) (h : Heap) : execK E cf lf 55 k36_19 T h (blockK 1 (seqK (fun T h => p36_12 cf lf F7 (T 0) (T 3) (T 4) h) (seqK (fun T h => F7 (T 0) (T 3) (T 4) h) (blockK 0 (seqK (fun T h => p36_3 cf lf (T 3) h) (finK E [.tmp 2])))))) = p36_19 cf lf F7 (T 0) (T 3) (T 4) h := by kernel_rfl
def p36_17 (cf : CallF) (lf : Nat) (F7 : Value → Value → Value → Heap → Ans) (s0 : Value) (s3 : Value) (s4 : Value) (s5 : Value) (s6 : Value) (h : Heap) : Ans :=
 bindO (binB E 9 .add s3 s6) fun t29 =>
 bindO (fieldAddrA E 49 s5 1) fun t30 =>
 bindO (loadA E 9 t30 h) fun t31 =>
 bindO (binB E 9 .add t29 t31) fun t32 =>
 bindO (fieldAddrA E 49 s5 2) fun t33 =>
 bindO (loadA E 9 t33 h) fun t34 =>
 bindO (binB E 9 .add t32 t34) fun t35 =>
 bindO (fieldAddrA E 49 s5 4) fun t36 =>
 bindO (loadA E 37 t36 h) fun t37 =>
 bindO (lenA E 37 t37) fun t38 =>
 bindO (binA E 3 .gtr t38 (.int .i64 (0))) fun t39 =>
 condV t39 (
  bindO (binA E 9 .add t35 (.string (mkS [60]))) fun t41 =>
  bindO (fieldAddrA E 49 s5 4) fun t42 =>
  bindO (loadA E 37 t42 h) fun t43 =>
  bindR (cf 36 [t43] h) (fun v h => some (.panic v, h)) fun t44 h =>
  bindO (binB E 9 .add t41 t44) fun t45 =>
  bindO (binA E 9 .add t45 (.string (mkS [62]))) fun t46 =>
  p36_19 cf lf F7 s0 t46 s4 h
 ) (
  p36_19 cf lf F7 s0 t35 s4 h
 )
theorem p36_17_ok (cf : CallF) (lf : Nat) (F7 : Value → Value → Value → Heap → Ans) (T : Tmps) (h : Heap) : execK E cf lf 55 k36_17 T h (blockK 1 (seqK (fun T h => p36_12 cf lf F7 (T 0) (T 3) (T 4) h) (seqK (fun T h => F7 (T 0) (T 3) (T 4) h) (blockK 0 (seqK (fun T h => p36_3 cf lf (T 3) h) (finK E [.tmp 2])))))) = p36_17 cf lf F7 (T 0) (T 3) (T 4) (T 5) (T 6) h := by simp only [k36_17, k36_18, k36_21, k36_22, execK_all, p36_19_ok]; delta p36_17; generalize p36_19 = G0; as_aux_lemma => kernel_rfl
def p36_15 (cf : CallF) (lf : Nat) (F7 : Value → Value → Value → Heap → Ans) (s0 : Value) (s3 : Value) (s4 : Value) (s5 : Value) (h : Heap) : Ans :=
 bindO (buildA E 114 [(0, (.string (mkS []))), (1, (.string (mkS [113]))), (2, (.string (mkS [36]))), (3, (.string (mkS [40])))]) fun t17 =>
 bindO (fieldAddrA E 49 s5 0) fun t18 =>
 bindO (loadA E 3 t18 h) fun t19 =>
 bindO (minL [t19, (.int .i64 (3))]) fun t20 =>
 bindO (maxL [t20, (.int .i64 (0))]) fun t21 =>
 bindO (indexA E 114 t17 t21) fun t22 =>
 bindO (fieldAddrA E 49 s5 3) fun t23 =>
 bindO (loadA E 4 t23 h) fun t24 =>
 condV t24 (
  bindO (binA E 9 .add t22 (.string (mkS [81]))) fun t26 =>
  p36_17 cf lf F7 s0 s3 s4 s5 t26 h
 ) (
  p36_17 cf lf F7 s0 s3 s4 s5 t22 h
 )
theorem p36_15_ok (cf : CallF) (lf : Nat) (F7 : Value → Value → Value → Heap → Ans) (T : Tmps) (h : Heap) : execK E cf lf 55 k36_15 T h (blockK 1 (seqK (fun T h => p36_12 cf lf F7 (T 0) (T 3) (T 4) h) (seqK (fun T h => F7 (T 0) (T 3) (T 4) h) (blockK 0 (seqK (fun T h => p36_3 cf lf (T 3) h) (finK E [.tmp 2])))))) = p36_15 cf lf F7 (T 0) (T 3) (T 4) (T 5) h := by simp only [k36_15, k36_16, k36_23, k36_24, execK_all, p36_17_ok]; delta p36_15; generalize p36_17 = G0; as_aux_lemma => kernel_rfl
def p36_8 (cf : CallF) (lf : Nat) (F7 : Value → Value → Value → Heap → Ans) (s0 : Value) (s3 : Value) (s4 : Value) (h : Heap) : Ans :=
 bindO (lenA E 37 s0) fun t9 =>
 bindO (binB E 3 .lss s4 t9) fun t10 =>
 condV t10 (
  bindO (indexAddrA E 37 s0 s4) fun t15 =>
  bindO (loadA E 49 t15 h) fun t16 =>
  bindR (valR (allocA E 49 h)) (fun v h => some (.panic v, h)) fun t5 h =>
  bindR (skipR (storeA E 49 t5 t16 h)) (fun v h => some (.panic v, h)) fun _ h =>
  p36_15 cf lf F7 s0 s3 s4 t5 h
 ) (
  p36_3 cf lf s3 h
 )
theorem p36_8_ok (cf : CallF) (lf : Nat) (F7 : Value → Value → Value → Heap → Ans) (T : Tmps) (h : Heap) : execK E cf lf 55 k36_8 T h (seqK (fun T h => F7 (T 0) (T 3) (T 4) h) (blockK 0 (seqK (fun T h => p36_3 cf lf (T 3) h) (finK E [.tmp 2])))) = p36_8 cf lf F7 (T 0) (T 3) (T 4) h := by simp only [k36_10, k36_11, k36_13, k36_14, k36_8, k36_9, execK_all, p36_12_ok, p36_15_ok]; delta p36_8; generalize p36_12 = G0; generalize p36_15 = G1; as_aux_lemma => kernel_rfl
def l36_7 (cf : CallF) (lf : Nat) : Nat → Value → Value → Value → Heap → Ans
 | 0, _, _, _, _ => none
 | n + 1, s0, s3, s4, h => p36_8 cf lf (l36_7 cf lf n) s0 s3 s4 h
theorem l36_7_ok (cf : CallF) (lf : Nat) (n : Nat) : ∀ (T : Tmps) (h : Heap), iterK (fun T h K => execK E cf lf 55 k36_8 T h K) (blockK 0 (seqK (fun T h => p36_3 cf lf (T 3) h) (finK E [.tmp 2]))) n T h = l36_7 cf lf n (T 0) (T 3) (T 4) h := by
 induction n with
 | zero => intro T h; rfl
 | succ n ih =>
  intro T h
  rw [iterK_succ, show iterK (fun T h K => execK E cf lf 55 k36_8 T h K) (blockK 0 (seqK (fun T h => p36_3 cf lf (T 3) h) (finK E [.tmp 2]))) n = (fun T h => l36_7 cf lf n (T 0) (T 3) (T 4) h) from funext fun T => funext fun h => ih T h]
  exact p36_8_ok cf lf (l36_7 cf lf n) T h
def p36_6 (cf : CallF) (lf : Nat) (s0 : Value) (s3 : Value) (s4 : Value) (h : Heap) : Ans :=
 l36_7 cf lf lf s0 s3 s4 h
theorem p36_6_ok (cf : CallF) (lf : Nat) (T : Tmps) (h : Heap) : execK E cf lf 55 k36_6 T h (seqK (fun T h => p36_3 cf lf (T 3) h) (finK E [.tmp 2])) = p36_6 cf lf (T 0) (T 3) (T 4) h := by simp only [k36_6, k36_7, execK_all, l36_7_ok]; delta p36_6; generalize l36_7 = G0; as_aux_lemma => kernel_rfl
def p36_0 (cf : CallF) (lf : Nat) (s0 : Value) (h : Heap) : Ans :=
 p36_6 cf lf s0 (.string (mkS [])) (.int .i64 (0)) h
theorem p36_0_ok (cf : CallF) (lf : Nat) (T : Tmps) (h : Heap) : execK E cf lf 55 k36_0 T h (finK E [.tmp 2]) = p36_0 cf lf (T 0) h := by simp only [k36_0, k36_1, k36_2, k36_5, execK_all, p36_3_ok, p36_6_ok]; delta p36_0; generalize p36_3 = G0; generalize p36_6 = G1; as_aux_lemma => kernel_rfl
def f36 (cf : CallF) (lf : Nat) (a0 : Value) (h : Heap) : Ans := p36_0 cf lf a0 h
theorem f36_ok (cf : CallF) (lf : Nat) (a0 : Value) (h : Heap) : stepN E cf lf 36 [a0] h = f36 cf lf a0 h := (show stepN E cf lf 36 [a0] h = execK E cf lf 55 k36_0 (T0 [a0]) h (finK E [.tmp 2]) by kernel_rfl).trans ((p36_0_ok cf lf (T0 [a0]) h).trans (by kernel_rfl))
def f38 (cf : CallF) (lf : Nat) (a0 : Value) (a1 : Value) (h : Heap) : Ans :=
 bindR (cf 60 [a0, a1] h) (fun v h => some (.panic v, h)) fun t7 h =>
 some (.ret t7, h)
theorem f38_ok (cf : CallF) (lf : Nat) (a0 a1 : Value) (h : Heap) : stepN E cf lf 38 [a0, a1] h = f38 cf lf a0 a1 h := by kernel_rfl
def f44 (cf : CallF) (lf : Nat) (a0 : Value) (a1 : Value) (h : Heap) : Ans :=
 bindO (nilA a0) fun t6 =>
 bindO (fieldAddrA E 57 t6 0) fun t7 =>
 bindO (loadA E 9 t7 h) fun t8 =>
 bindO (nilA a0) fun t10 =>
 bindO (fieldAddrA E 57 t10 1) fun t11 =>
 bindO (loadA E 3 t11 h) fun t12 =>
 bindO (sliceA E 9 t8 (some t12) none h) fun t13 =>
 bindR (cf 38 [t13, a1] h) (fun v h => some (.panic v, h)) fun t15 h =>
 some (.ret t15, h)
theorem f44_ok (cf : CallF) (lf : Nat) (a0 a1 : Value) (h : Heap) : stepN E cf lf 44 [a0, a1] h = f44 cf lf a0 a1 h := by kernel_rfl
noncomputable def kc45 := codeOf Tryd.f45
def k45_43 := cp kc45 [1, 1, 0, 0, 0, 1, 1, 1, 1, 1, 1, 1, 1, 0, 1, 0, 0]
def k45_20 := cp kc45 [1, 1, 0, 0, 0, 1, 1, 1, 1, 1, 1, 1, 1, 0, 1, 0, 1]
def k45_19 : Code := .seq k45_43 k45_20
def k45_42 := cp kc45 [1, 1, 0, 0, 0, 1, 1, 1, 1, 1, 1, 1, 1, 0, 1, 1]
def k45_41 := cp kc45 [1, 1, 0, 0, 0, 1, 1, 1, 1, 1, 1, 1, 1, 0, 0]
def k45_18 : Code := .cond (.tmp 81) k45_19 k45_42
def k45_17 : Code := .seq k45_41 k45_18
def k45_16 := cp kc45 [1, 1, 0, 0, 0, 1, 1, 1, 1, 1, 1, 1, 1, 1]
def k45_37 := cp kc45 [1, 1, 0, 0, 0, 1, 1, 1, 1, 1, 0, 1, 0]
def k45_38 := cp kc45 [1, 1, 0, 0, 0, 1, 1, 1, 1, 1, 0, 1, 1]
def k45_40 := cp kc45 [1, 1, 0, 0, 0, 1, 1, 1, 1, 1, 1, 1, 0]
def k45_15 : Code := .seq k45_17 k45_16
def k45_34 := cp kc45 [1, 1, 0, 0, 0, 1, 1, 1, 1, 0, 1, 0]
def k45_35 := cp kc45 [1, 1, 0, 0, 0, 1, 1, 1, 1, 0, 1, 1]
def k45_36 := cp kc45 [1, 1, 0, 0, 0, 1, 1, 1, 1, 1, 0, 0]
def k45_13 : Code := .cond (.tmp 59) k45_37 k45_38
def k45_39 := cp kc45 [1, 1, 0, 0, 0, 1, 1, 1, 1, 1, 1, 0]
def k45_14 : Code := .seq k45_40 k45_15
def k45_33 := cp kc45 [1, 1, 0, 0, 0, 1, 1, 1, 1, 0, 0]
def k45_22 : Code := .cond (.tmp 48) k45_34 k45_35
def k45_12 : Code := .seq k45_36 k45_13
def k45_11 : Code := .seq k45_39 k45_14
def k45_21 : Code := .seq k45_33 k45_22
def k45_10 : Code := .seq k45_12 k45_11
def k45_32 := cp kc45 [1, 1, 0, 0, 0, 1, 1, 1, 0]
def k45_9 : Code := .seq k45_21 k45_10
def k45_28 := cp kc45 [1, 1, 0, 0, 0, 0, 1, 0]
def k45_29 := cp kc45 [1, 1, 0, 0, 0, 0, 1, 1]
def k45_31 := cp kc45 [1, 1, 0, 0, 0, 1, 1, 0]
def k45_8 : Code := .seq k45_32 k45_9
def k45_27 := cp kc45 [1, 1, 0, 0, 0, 0, 0]
def k45_24 : Code := .cond (.tmp 17) k45_28 k45_29
def k45_30 := cp kc45 [1, 1, 0, 0, 0, 1, 0]
def k45_7 : Code := .seq k45_31 k45_8
def k45_23 : Code := .seq k45_27 k45_24
def k45_6 : Code := .seq k45_30 k45_7
def k45_5 : Code := .seq k45_23 k45_6
def k45_4 : Code := .block 1 k45_5
def k45_3 : Code := .loop k45_4
def k45_26 := cp kc45 [1, 0]
def k45_2 : Code := .block 0 k45_3
def k45_25 := cp kc45 [0]
def k45_1 : Code := .seq k45_26 k45_2
def k45_0 : Code := .seq k45_25 k45_1
def p45_18 (cf : CallF) (lf : Nat) (F3 : Value → Value → Value → Heap → Ans) (s0 : Value) (s4 : Value) (s5 : Value) (s9 : Value) (s81 : Value) (h : Heap) : Ans :=
 condV s81 (
  bindO (nilA s0) fun t83 =>
  bindO (fieldAddrA E 57 t83 0) fun t84 =>
  bindO (loadA E 9 t84 h) fun t85 =>
  bindO (sliceA E 9 t85 none (some s5) h) fun t87 =>
  bindO (buildA E 57 [(0, t87), (1, s4)]) fun t89 =>
  bindR (valR (some (boxA 57 t89 h))) (fun v h => some (.panic v, h)) fun t90 h =>
  bindR (cf 49 [t90, (.int .i64 (2)), (.int .i64 (0))] h) (fun v h => some (.panic v, h)) fun t93 h =>
  bindO (nilA s9) fun t94 =>
  bindO (fieldAddrA E 39 t94 2) fun t95 =>
  bindR (skipR (storeA E 37 t95 t93 h)) (fun v h => some (.panic v, h)) fun _ h =>
  some (.ret (.tuple ⟨[]⟩), h)
 ) (
  some (.ret (.tuple ⟨[]⟩), h)
 )
theorem p45_18_ok (cf : CallF) (lf : Nat) (F3 : Value → Value → Value → Heap → Ans) (T : Tmps) (h : Heap) : execK E cf lf 96 k45_18 T h (seqK (fun T h => execK E cf lf 96 k45_16 T h (blockK 1 (seqK (fun T h => F3 (T 0) (T 3) (T 4) h) (blockK 0 (finK E []))))) (blockK 1 (seqK (fun T h => F3 (T 0) (T 3) (T 4) h) (blockK 0 (finK E []))))) = p45_18 cf lf F3 (T 0) (T 4) (T 5) (T 9) (T 81) h := by kernel_rfl
def p45_10 (cf : CallF) (lf : Nat) (F3 : Value → Value → Value → Heap → Ans) (s0 : Value) (s3 : Value) (s4 : Value) (s5 : Value) (s6 : Value) (h : Heap) : Ans :=
 bindO (fieldAddrA E 89 s3 1) fun t57 =>
 bindO (loadA E 9 t57 h) fun t58 =>
 bindO (binB E 9 .neq s6 t58) fun t59 =>
 condV t59 (
  F3 s0 s3 s4 h
 ) (
  bindO (nilA s0) fun t61 =>
  bindO (fieldAddrA E 57 t61 2) fun t62 =>
  bindO (loadA E 22 t62 h) fun t63 =>
  bindO (fieldAddrA E 89 s3 0) fun t64 =>
  bindO (loadA E 3 t64 h) fun t65 =>
  bindO (indexAddrA E 22 t63 t65) fun t66 =>
  bindO (nilA s0) fun t69 =>
  bindO (fieldAddrA E 57 t69 0) fun t70 =>
  bindO (loadA E 9 t70 h) fun t71 =>
  bindO (sliceA E 9 t71 (some s4) (some s5) h) fun t74 =>
  bindO (nilA t66) fun t75 =>
  bindO (fieldAddrA E 39 t75 1) fun t76 =>
  bindR (skipR (storeA E 9 t76 t74 h)) (fun v h => some (.panic v, h)) fun _ h =>
  bindO (nilA t66) fun t78 =>
  bindO (fieldAddrA E 39 t78 3) fun t79 =>
  bindO (loadA E 4 t79 h) fun t80 =>
  bindO (unA .not t80) fun t81 =>
  p45_18 cf lf F3 s0 s4 s5 t66 t81 h
 )
theorem p45_10_ok (cf : CallF) (lf : Nat) (F3 : Value → Value → Value → Heap → Ans) (T : Tmps) (h : Heap) : execK E cf lf 96 k45_10 T h (blockK 1 (seqK (fun T h => F3 (T 0) (T 3) (T 4) h) (blockK 0 (finK E [])))) = p45_10 cf lf F3 (T 0) (T 3) (T 4) (T 5) (T 6) h := by simp only [k45_10, k45_11, k45_12, k45_13, k45_14, k45_15, k45_17, execK_all, p45_18_ok]; delta p45_10; generalize p45_18 = G0; as_aux_lemma => kernel_rfl
def p45_22 (cf : CallF) (lf : Nat) (F3 : Value → Value → Value → Heap → Ans) (s0 : Value) (s3 : Value) (s4 : Value) (s5 : Value) (s6 : Value) (s48 : Value) (h : Heap) : Ans :=
 condV s48 (
  bindO (nilA s0) fun t50 =>
  bindO (fieldAddrA E 57 t50 1) fun t51 =>
  bindO (loadA E 3 t51 h) fun t52 =>
  bindO (binA E 3 .add t52 (.int .i64 (1))) fun t53 =>
  bindO (nilA s0) fun t54 =>
  bindO (fieldAddrA E 57 t54 1) fun t55 =>
  bindR (skipR (storeA E 3 t55 t53 h)) (fun v h => some (.panic v, h)) fun _ h =>
  p45_10 cf lf F3 s0 s3 s4 s5 s6 h
 ) (
  p45_10 cf lf F3 s0 s3 s4 s5 s6 h
 )
theorem p45_22_ok (cf : CallF) (lf : Nat) (F3 : Value → Value → Value → Heap → Ans) (T : Tmps) (h : Heap) : execK E cf lf 96 k45_22 T h (seqK (fun T h => p45_10 cf lf F3 (T 0) (T 3) (T 4) (T 5) (T 6) h) (blockK 1 (seqK (fun T h => F3 (T 0) (T 3) (T 4) h) (blockK 0 (finK E []))))) = p45_22 cf lf F3 (T 0) (T 3) (T 4) (T 5) (T 6) (T 48) h := by kernel_rfl
def p45_6 (cf : CallF) (lf : Nat) (F3 : Value → Value → Value → Heap → Ans) (s0 : Value) (s3 : Value) (s4 : Value) (h : Heap) : Ans :=
 bindO (nilA s0) fun t25 =>
 bindO (fieldAddrA E 57 t25 1) fun t26 =>
 bindO (loadA E 3 t26 h) fun t27 =>
 bindO (nilA s0) fun t30 =>
 bindO (fieldAddrA E 57 t30 0) fun t31 =>
 bindO (loadA E 9 t31 h) fun t32 =>
 bindO (sliceA E 9 t32 (some t27) none h) fun t34 =>
 bindR (cf 46 [t34, (.string (mkS [10]))] h) (fun v h => some (.panic v, h)) fun t35 h =>
 bindO (extractA t35 0) fun t36 =>
 bindO (extractA t35 1) fun t37 =>
 bindO (extractA t35 2) fun t38 =>
 bindO (nilA s0) fun t40 =>
 bindO (fieldAddrA E 57 t40 1) fun t41 =>
 bindO (loadA E 3 t41 h) fun t42 =>
 bindO (lenA E 9 t36) fun t44 =>
 bindO (binB E 3 .add t42 t44) fun t45 =>
 bindO (nilA s0) fun t46 =>
 bindO (fieldAddrA E 57 t46 1) fun t47 =>
 bindR (skipR (storeA E 3 t47 t45 h)) (fun v h => some (.panic v, h)) fun _ h =>
 p45_22 cf lf F3 s0 s3 s4 t27 t36 t38 h
theorem p45_6_ok (cf : CallF) (lf : Nat) (F3 : Value → Value → Value → Heap → Ans) (T : Tmps) (h : Heap) : execK E cf lf 96 k45_6 T h (blockK 1 (seqK (fun T h => F3 (T 0) (T 3) (T 4) h) (blockK 0 (finK E [])))) = p45_6 cf lf F3 (T 0) (T 3) (T 4) h := by simp only [k45_21, k45_6, k45_7, k45_8, k45_9, execK_all, p45_10_ok, p45_22_ok]; delta p45_6; generalize p45_10 = G0; generalize p45_22 = G1; as_aux_lemma => kernel_rfl
def p45_4 (cf : CallF) (lf : Nat) (F3 : Value → Value → Value → Heap → Ans) (s0 : Value) (s3 : Value) (s4 : Value) (h : Heap) : Ans :=
 bindR (cf 24 [s0] h) (fun v h => some (.panic v, h)) fun t16 h =>
 bindO (unA .not t16) fun t17 =>
 condV t17 (
  bindO (nilA s0) fun t19 =>
  bindO (fieldAddrA E 57 t19 0) fun t20 =>
  bindO (loadA E 9 t20 h) fun t21 =>
  bindO (lenA E 9 t21) fun t22 =>
  bindR (cf 25 [(.int .i64 (19)), t22] h) (fun v h => some (.panic v, h)) fun t23 h =>
  p45_6 cf lf F3 s0 s3 s4 h
 ) (
  p45_6 cf lf F3 s0 s3 s4 h
 )
theorem p45_4_ok (cf : CallF) (lf : Nat) (F3 : Value → Value → Value → Heap → Ans) (T : Tmps) (h : Heap) : execK E cf lf 96 k45_4 T h (seqK (fun T h => F3 (T 0) (T 3) (T 4) h) (blockK 0 (finK E []))) = p45_4 cf lf F3 (T 0) (T 3) (T 4) h := by simp only [k45_23, k45_24, k45_4, k45_5, execK_all, p45_6_ok]; delta p45_4; generalize p45_6 = G0; as_aux_lemma => kernel_rfl
def l45_3 (cf : CallF) (lf : Nat) : Nat → Value → Value → Value → Heap → Ans
 | 0, _, _, _, _ => none
 | n + 1, s0, s3, s4, h => p45_4 cf lf (l45_3 cf lf n) s0 s3 s4 h
theorem l45_3_ok (cf : CallF) (lf : Nat) (n : Nat) : ∀ (T : Tmps) (h : Heap), iterK (fun T h K => execK E cf lf 96 k45_4 T h K) (blockK 0 (finK E [])) n T h = l45_3 cf lf n (T 0) (T 3) (T 4) h := by
 induction n with
 | zero => intro T h; rfl
 | succ n ih =>
  intro T h
  rw [iterK_succ, show iterK (fun T h K => execK E cf lf 96 k45_4 T h K) (blockK 0 (finK E [])) n = (fun T h => l45_3 cf lf n (T 0) (T 3) (T 4) h) from funext fun T => funext fun h => ih T h]
  exact p45_4_ok cf lf (l45_3 cf lf n) T h
def p45_0 (cf : CallF) (lf : Nat) (s0 : Value) (s1 : Value) (h : Heap) : Ans :=
 bindR (valR (some (boxA 89 s1 h))) (fun v h => some (.panic v, h)) fun t3 h =>
 bindO (nilA s0) fun t12 =>
 bindO (fieldAddrA E 57 t12 1) fun t13 =>
 bindO (loadA E 3 t13 h) fun t14 =>
 l45_3 cf lf lf s0 t3 t14 h
theorem p45_0_ok (cf : CallF) (lf : Nat) (T : Tmps) (h : Heap) : execK E cf lf 96 k45_0 T h (finK E []) = p45_0 cf lf (T 0) (T 1) h := by simp only [k45_0, k45_1, k45_2, k45_3, execK_all, l45_3_ok]; delta p45_0; generalize l45_3 = G0; as_aux_lemma => kernel_rfl
def f45 (cf : CallF) (lf : Nat) (a0 : Value) (a1 : Value) (h : Heap) : Ans := p45_0 cf lf a0 a1 h
theorem f45_ok (cf : CallF) (lf : Nat) (a0 a1 : Value) (h : Heap) : stepN E cf lf 45 [a0, a1] h = f45 cf lf a0 a1 h := (show stepN E cf lf 45 [a0, a1] h = execK E cf lf 96 k45_0 (T0 [a0, a1]) h (finK E []) by kernel_rfl).trans ((p45_0_ok cf lf (T0 [a0, a1]) h).trans (by kernel_rfl))
def f46 (cf : CallF) (lf : Nat) (a0 : Value) (a1 : Value) (h : Heap) : Ans :=
 bindR (cf 66 [a0, a1] h) (fun v h => some (.panic v, h)) fun t9 h =>
 bindO (extractA t9 0) fun t10 =>
 bindO (extractA t9 1) fun t11 =>
 bindO (extractA t9 2) fun t12 =>
 some (.ret (.tuple ⟨[t10, t11, t12]⟩), h)
theorem f46_ok (cf : CallF) (lf : Nat) (a0 a1 : Value) (h : Heap) : stepN E cf lf 46 [a0, a1] h = f46 cf lf a0 a1 h := by kernel_rfl
def f47 (cf : CallF) (lf : Nat) (a0 : Value) (a1 : Value) (h : Heap) : Ans :=
 bindR (cf 67 [a0, a1] h) (fun v h => some (.panic v, h)) fun t7 h =>
 bindO (binA E 3 .geq t7 (.int .i64 (0))) fun t8 =>
 some (.ret t8, h)
theorem f47_ok (cf : CallF) (lf : Nat) (a0 a1 : Value) (h : Heap) : stepN E cf lf 47 [a0, a1] h = f47 cf lf a0 a1 h := by kernel_rfl
def f48 (cf : CallF) (lf : Nat) (h : Heap) : Ans :=
 bindR (valR (buildSliceA E 40 12 [(0, (.string (mkS [59, 59]))), (1, (.string (mkS [59]))), (2, (.string (mkS [38, 38]))), (3, (.string (mkS [124, 124]))), (4, (.string (mkS [124]))), (5, (.string (mkS [40]))), (6, (.string (mkS [41]))), (7, (.string (mkS [60, 60]))), (8, (.string (mkS [60]))), (9, (.string (mkS [62, 62]))), (10, (.string (mkS [62, 38]))), (11, (.string (mkS [62])))] h)) (fun v h => some (.panic v, h)) fun t1 h =>
 some (.ret t1, h)
theorem f48_ok (cf : CallF) (lf : Nat) (h : Heap) : stepN E cf lf 48 [] h = f48 cf lf  h := by kernel_rfl
noncomputable def kc49 := codeOf Tryd.f49
def k49_100 := cp kc49 [1, 1, 1, 1, 1, 1, 0, 0, 0, 1, 0, 1, 0, 1, 1, 1, 1, 1, 1, 1, 1, 1, 1, 1, 1, 1, 0, 1, 1, 1, 0, 1, 0]
def k49_101 := cp kc49 [1, 1, 1, 1, 1, 1, 0, 0, 0, 1, 0, 1, 0, 1, 1, 1, 1, 1, 1, 1, 1, 1, 1, 1, 1, 1, 0, 1, 1, 1, 0, 1, 1]
def k49_97 := cp kc49 [1, 1, 1, 1, 1, 1, 0, 0, 0, 1, 0, 1, 0, 1, 1, 1, 1, 1, 1, 1, 1, 1, 1, 1, 1, 1, 0, 1, 1, 0, 1, 0]
def k49_98 := cp kc49 [1, 1, 1, 1, 1, 1, 0, 0, 0, 1, 0, 1, 0, 1, 1, 1, 1, 1, 1, 1, 1, 1, 1, 1, 1, 1, 0, 1, 1, 0, 1, 1]
def k49_99 := cp kc49 [1, 1, 1, 1, 1, 1, 0, 0, 0, 1, 0, 1, 0, 1, 1, 1, 1, 1, 1, 1, 1, 1, 1, 1, 1, 1, 0, 1, 1, 1, 0, 0]
def k49_52 : Code := .cond (.tmp 200) k49_100 k49_101
def k49_96 := cp kc49 [1, 1, 1, 1, 1, 1, 0, 0, 0, 1, 0, 1, 0, 1, 1, 1, 1, 1, 1, 1, 1, 1, 1, 1, 1, 1, 0, 1, 1, 0, 0]
def k49_54 : Code := .cond (.tmp 195) k49_97 k49_98
def k49_51 : Code := .seq k49_99 k49_52
def k49_50 := cp kc49 [1, 1, 1, 1, 1, 1, 0, 0, 0, 1, 0, 1, 0, 1, 1, 1, 1, 1, 1, 1, 1, 1, 1, 1, 1, 1, 0, 1, 1, 1, 1]
def k49_53 : Code := .seq k49_96 k49_54
def k49_49 : Code := .seq k49_51 k49_50
def k49_90 := cp kc49 [1, 1, 1, 1, 1, 1, 0, 0, 0, 1, 0, 1, 0, 1, 1, 1, 1, 1, 1, 1, 1, 1, 1, 1, 0, 1, 0, 1, 0]
def k49_91 := cp kc49 [1, 1, 1, 1, 1, 1, 0, 0, 0, 1, 0, 1, 0, 1, 1, 1, 1, 1, 1, 1, 1, 1, 1, 1, 0, 1, 0, 1, 1]
def k49_95 := cp kc49 [1, 1, 1, 1, 1, 1, 0, 0, 0, 1, 0, 1, 0, 1, 1, 1, 1, 1, 1, 1, 1, 1, 1, 1, 1, 1, 0, 1, 0]
def k49_48 : Code := .seq k49_53 k49_49
def k49_89 := cp kc49 [1, 1, 1, 1, 1, 1, 0, 0, 0, 1, 0, 1, 0, 1, 1, 1, 1, 1, 1, 1, 1, 1, 1, 1, 0, 1, 0, 0]
def k49_43 : Code := .cond (.tmp 149) k49_90 k49_91
def k49_92 := cp kc49 [1, 1, 1, 1, 1, 1, 0, 0, 0, 1, 0, 1, 0, 1, 1, 1, 1, 1, 1, 1, 1, 1, 1, 1, 0, 1, 1, 0]
def k49_41 := cp kc49 [1, 1, 1, 1, 1, 1, 0, 0, 0, 1, 0, 1, 0, 1, 1, 1, 1, 1, 1, 1, 1, 1, 1, 1, 0, 1, 1, 1]
def k49_94 := cp kc49 [1, 1, 1, 1, 1, 1, 0, 0, 0, 1, 0, 1, 0, 1, 1, 1, 1, 1, 1, 1, 1, 1, 1, 1, 1, 1, 0, 0]
def k49_47 : Code := .seq k49_95 k49_48
def k49_102 := cp kc49 [1, 1, 1, 1, 1, 1, 0, 0, 0, 1, 0, 1, 0, 1, 1, 1, 1, 1, 1, 1, 1, 1, 1, 1, 1, 1, 1, 0]
def k49_56 := cp kc49 [1, 1, 1, 1, 1, 1, 0, 0, 0, 1, 0, 1, 0, 1, 1, 1, 1, 1, 1, 1, 1, 1, 1, 1, 1, 1, 1, 1]
def k49_42 : Code := .seq k49_89 k49_43
def k49_40 : Code := .seq k49_92 k49_41
def k49_46 : Code := .seq k49_94 k49_47
def k49_55 : Code := .seq k49_102 k49_56
def k49_88 := cp kc49 [1, 1, 1, 1, 1, 1, 0, 0, 0, 1, 0, 1, 0, 1, 1, 1, 1, 1, 1, 1, 1, 1, 1, 1, 0, 0]
def k49_39 : Code := .seq k49_42 k49_40
def k49_93 := cp kc49 [1, 1, 1, 1, 1, 1, 0, 0, 0, 1, 0, 1, 0, 1, 1, 1, 1, 1, 1, 1, 1, 1, 1, 1, 1, 0]
def k49_45 : Code := .cond (.tmp 176) k49_46 k49_55
def k49_38 : Code := .seq k49_88 k49_39
def k49_44 : Code := .seq k49_93 k49_45
def k49_81 := cp kc49 [1, 1, 1, 1, 1, 1, 0, 0, 0, 1, 0, 1, 0, 1, 1, 1, 1, 1, 1, 1, 0, 1, 1, 0]
def k49_82 := cp kc49 [1, 1, 1, 1, 1, 1, 0, 0, 0, 1, 0, 1, 0, 1, 1, 1, 1, 1, 1, 1, 0, 1, 1, 1]
def k49_84 := cp kc49 [1, 1, 1, 1, 1, 1, 0, 0, 0, 1, 0, 1, 0, 1, 1, 1, 1, 1, 1, 1, 1, 0, 1, 0]
def k49_85 := cp kc49 [1, 1, 1, 1, 1, 1, 0, 0, 0, 1, 0, 1, 0, 1, 1, 1, 1, 1, 1, 1, 1, 0, 1, 1]
def k49_87 := cp kc49 [1, 1, 1, 1, 1, 1, 0, 0, 0, 1, 0, 1, 0, 1, 1, 1, 1, 1, 1, 1, 1, 1, 1, 0]
def k49_37 : Code := .cond (.tmp 133) k49_38 k49_44
def k49_80 := cp kc49 [1, 1, 1, 1, 1, 1, 0, 0, 0, 1, 0, 1, 0, 1, 1, 1, 1, 1, 1, 1, 0, 1, 0]
def k49_33 : Code := .cond (.tmp 113) k49_81 k49_82
def k49_83 := cp kc49 [1, 1, 1, 1, 1, 1, 0, 0, 0, 1, 0, 1, 0, 1, 1, 1, 1, 1, 1, 1, 1, 0, 0]
def k49_58 : Code := .cond (.tmp 122) k49_84 k49_85
def k49_86 := cp kc49 [1, 1, 1, 1, 1, 1, 0, 0, 0, 1, 0, 1, 0, 1, 1, 1, 1, 1, 1, 1, 1, 1, 0]
def k49_36 : Code := .seq k49_87 k49_37
def k49_79 := cp kc49 [1, 1, 1, 1, 1, 1, 0, 0, 0, 1, 0, 1, 0, 1, 1, 1, 1, 1, 1, 1, 0, 0]
def k49_32 : Code := .seq k49_80 k49_33
def k49_57 : Code := .seq k49_83 k49_58
def k49_35 : Code := .cond (.tmp 122) k49_86 k49_36
def k49_74 := cp kc49 [1, 1, 1, 1, 1, 1, 0, 0, 0, 1, 0, 1, 0, 1, 1, 1, 0, 1, 0, 1, 0]
def k49_75 := cp kc49 [1, 1, 1, 1, 1, 1, 0, 0, 0, 1, 0, 1, 0, 1, 1, 1, 0, 1, 0, 1, 1]
def k49_31 : Code := .seq k49_79 k49_32
def k49_34 : Code := .seq k49_57 k49_35
def k49_73 := cp kc49 [1, 1, 1, 1, 1, 1, 0, 0, 0, 1, 0, 1, 0, 1, 1, 1, 0, 1, 0, 0]
def k49_26 : Code := .cond (.tmp 84) k49_74 k49_75
def k49_78 := cp kc49 [1, 1, 1, 1, 1, 1, 0, 0, 0, 1, 0, 1, 0, 1, 1, 1, 1, 1, 1, 0]
def k49_30 : Code := .cond (.tmp 103) k49_31 k49_34
def k49_25 : Code := .seq k49_73 k49_26
def k49_24 := cp kc49 [1, 1, 1, 1, 1, 1, 0, 0, 0, 1, 0, 1, 0, 1, 1, 1, 0, 1, 1]
def k49_77 := cp kc49 [1, 1, 1, 1, 1, 1, 0, 0, 0, 1, 0, 1, 0, 1, 1, 1, 1, 1, 0]
def k49_29 : Code := .seq k49_78 k49_30
def k49_72 := cp kc49 [1, 1, 1, 1, 1, 1, 0, 0, 0, 1, 0, 1, 0, 1, 1, 1, 0, 0]
def k49_23 : Code := .seq k49_25 k49_24
def k49_76 := cp kc49 [1, 1, 1, 1, 1, 1, 0, 0, 0, 1, 0, 1, 0, 1, 1, 1, 1, 0]
def k49_28 : Code := .cond (.tmp 92) k49_77 k49_29
def k49_22 : Code := .seq k49_72 k49_23
def k49_27 : Code := .seq k49_76 k49_28
def k49_71 := cp kc49 [1, 1, 1, 1, 1, 1, 0, 0, 0, 1, 0, 1, 0, 1, 1, 0]
def k49_21 : Code := .cond (.tmp 66) k49_22 k49_27
def k49_70 := cp kc49 [1, 1, 1, 1, 1, 1, 0, 0, 0, 1, 0, 1, 0, 1, 0]
def k49_20 : Code := .seq k49_71 k49_21
def k49_69 := cp kc49 [1, 1, 1, 1, 1, 1, 0, 0, 0, 1, 0, 1, 0, 0]
def k49_19 : Code := .cond (.tmp 63) k49_70 k49_20
def k49_18 : Code := .seq k49_69 k49_19
def k49_66 := cp kc49 [1, 1, 1, 1, 1, 1, 0, 0, 0, 0, 1, 0]
def k49_67 := cp kc49 [1, 1, 1, 1, 1, 1, 0, 0, 0, 0, 1, 1]
def k49_68 := cp kc49 [1, 1, 1, 1, 1, 1, 0, 0, 0, 1, 0, 0]
def k49_17 : Code := .block 2 k49_18
def k49_65 := cp kc49 [1, 1, 1, 1, 1, 1, 0, 0, 0, 0, 0]
def k49_15 : Code := .cond (.tmp 38) k49_66 k49_67
def k49_16 : Code := .seq k49_68 k49_17
def k49_14 : Code := .seq k49_65 k49_15
def k49_13 : Code := .block 1 k49_16
def k49_12 : Code := .seq k49_14 k49_13
def k49_104 := cp kc49 [1, 1, 1, 1, 1, 1, 1, 1, 0]
def k49_9 := cp kc49 [1, 1, 1, 1, 1, 1, 1, 1, 1]
def k49_11 : Code := .loop k49_12
def k49_103 := cp kc49 [1, 1, 1, 1, 1, 1, 1, 0]
def k49_8 : Code := .seq k49_104 k49_9
def k49_10 : Code := .block 0 k49_11
def k49_7 : Code := .seq k49_103 k49_8
def k49_64 := cp kc49 [1, 1, 1, 1, 1, 0]
def k49_6 : Code := .seq k49_10 k49_7
def k49_63 := cp kc49 [1, 1, 1, 1, 0]
def k49_5 : Code := .seq k49_64 k49_6
def k49_62 := cp kc49 [1, 1, 1, 0]
def k49_4 : Code := .seq k49_63 k49_5
def k49_61 := cp kc49 [1, 1, 0]
def k49_3 : Code := .seq k49_62 k49_4
def k49_60 := cp kc49 [1, 0]
def k49_2 : Code := .seq k49_61 k49_3
def k49_59 := cp kc49 [0]
def k49_1 : Code := .seq k49_60 k49_2
def k49_0 : Code := .seq k49_59 k49_1
def p49_7 (cf : CallF) (lf : Nat) (s7 : Value) (s10 : Value) (h : Heap) : Ans :=
 bindO (loadA E 1 s10 h) fun t206 =>
 bindR (callA E cf t206 [] h) (fun v h => some (.panic v, h)) fun t207 h =>
 bindO (loadA E 37 s7 h) fun t208 =>
 some (.ret t208, h)
theorem p49_7_ok (cf : CallF) (lf : Nat) (T : Tmps) (h : Heap) : execK E cf lf 209 k49_7 T h (finK E [.tmp 6]) = p49_7 cf lf (T 7) (T 10) h := by kernel_rfl
def p49_24 (cf : CallF) (lf : Nat) (F11 : Value → Value → Value → Value → Value → Value → Value → Value → Heap → Ans) (s0 : Value) (s1 : Value) (s2 : Value) (s7 : Value) (s8 : Value) (s9 : Value) (s10 : Value) (s11 : Value) (s14 : Value) (h : Heap) : Ans :=
 bindO (loadA E 79 s8 h) fun t88 =>
 bindR (valR (buildSliceA E 79 1 [(0, s14)] h)) (fun v h => some (.panic v, h)) fun t90 h =>
 bindR (valR (appendA E 79 t88 t90 h)) (fun v h => some (.panic v, h)) fun t91 h =>
 bindR (skipR (storeA E 79 s8 t91 h)) (fun v h => some (.panic v, h)) fun _ h =>
 F11 s0 s1 s2 s7 s8 s9 s10 s11 h
theorem p49_24_ok (cf : CallF) (lf : Nat) (F11 : Value → Value → Value → Value → Value → Value → Value → Value → Heap → Ans) (T : Tmps) (h : Heap) : execK E cf lf 209 k49_24 T h (blockK 2 (blockK 1 (seqK (fun T h => F11 (T 0) (T 1) (T 2) (T 7) (T 8) (T 9) (T 10) (T 11) h) (blockK 0 (seqK (fun T h => p49_7 cf lf (T 7) (T 10) h) (finK E [.tmp 6])))))) = p49_24 cf lf F11 (T 0) (T 1) (T 2) (T 7) (T 8) (T 9) (T 10) (T 11) (T 14) h := by kernel_rfl
def p49_26 (cf : CallF) (lf : Nat) (F11 : Value → Value → Value → Value → Value → Value → Value → Value → Heap → Ans) (s0 : Value) (s1 : Value) (s2 : Value) (s7 : Value) (s8 : Value) (s9 : Value) (s10 : Value) (s11 : Value) (s14 : Value) (s84 : Value) (h : Heap) : Ans :=
 condV s84 (
  bindO (loadA E 79 s8 h) fun t85 =>
  bindR (valR (buildSliceA E 79 1 [(0, (.int .u8 (92)))] h)) (fun v h => some (.panic v, h)) fun t86 h =>
  bindR (valR (appendA E 79 t85 t86 h)) (fun v h => some (.panic v, h)) fun t87 h =>
  bindR (skipR (storeA E 79 s8 t87 h)) (fun v h => some (.panic v, h)) fun _ h =>
  p49_24 cf lf F11 s0 s1 s2 s7 s8 s9 s10 s11 s14 h
 ) (
  p49_24 cf lf F11 s0 s1 s2 s7 s8 s9 s10 s11 s14 h
 )
theorem p49_26_ok (cf : CallF) (lf : Nat) (F11 : Value → Value → Value → Value → Value → Value → Value → Value → Heap → Ans) (T : Tmps) (h : Heap) : execK E cf lf 209 k49_26 T h (seqK (fun T h => p49_24 cf lf F11 (T 0) (T 1) (T 2) (T 7) (T 8) (T 9) (T 10) (T 11) (T 14) h) (blockK 2 (blockK 1 (seqK (fun T h => F11 (T 0) (T 1) (T 2) (T 7) (T 8) (T 9) (T 10) (T 11) h) (blockK 0 (seqK (fun T h => p49_7 cf lf (T 7) (T 10) h) (finK E [.tmp 6]))))))) = p49_26 cf lf F11 (T 0) (T 1) (T 2) (T 7) (T 8) (T 9) (T 10) (T 11) (T 14) (T 84) h := by kernel_rfl
def p49_40 (cf : CallF) (lf : Nat) (F11 : Value → Value → Value → Value → Value → Value → Value → Value → Heap → Ans) (s0 : Value) (s1 : Value) (s2 : Value) (s7 : Value) (s8 : Value) (s9 : Value) (s10 : Value) (s11 : Value) (s12 : Value) (s17 : Value) (h : Heap) : Ans :=
 bindO (nilA s0) fun t154 =>
 bindO (fieldAddrA E 57 t154 0) fun t155 =>
 bindO (loadA E 9 t155 h) fun t156 =>
 bindO (binA E 3 .add s12 (.int .i64 (1))) fun t158 =>
 bindO (binA E 3 .add s12 (.int .i64 (1))) fun t160 =>
 bindO (binB E 3 .add t160 s17) fun t162 =>
 bindO (sliceA E 9 t156 (some t158) (some t162) h) fun t163 =>
 bindO (buildA E 49 [(0, (.int .i64 (1))), (1, t163)]) fun t164 =>
 bindR (valR (buildSliceA E 37 1 [(0, t164)] h)) (fun v h => some (.panic v, h)) fun t165 h =>
 bindR (callA E cf s11 [t165] h) (fun v h => some (.panic v, h)) fun t166 h =>
 bindO (nilA s0) fun t168 =>
 bindO (fieldAddrA E 57 t168 1) fun t169 =>
 bindO (loadA E 3 t169 h) fun t170 =>
 bindO (binA E 3 .add s17 (.int .i64 (2))) fun t172 =>
 bindO (binB E 3 .add t170 t172) fun t173 =>
 bindO (nilA s0) fun t174 =>
 bindO (fieldAddrA E 57 t174 1) fun t175 =>
 bindR (skipR (storeA E 3 t175 t173 h)) (fun v h => some (.panic v, h)) fun _ h =>
 F11 s0 s1 s2 s7 s8 s9 s10 s11 h
theorem p49_40_ok (cf : CallF) (lf : Nat) (F11 : Value → Value → Value → Value → Value → Value → Value → Value → Heap → Ans) (T : Tmps) (h : Heap) : execK E cf lf 209 k49_40 T h (blockK 2 (blockK 1 (seqK (fun T h => F11 (T 0) (T 1) (T 2) (T 7) (T 8) (T 9) (T 10) (T 11) h) (blockK 0 (seqK (fun T h => p49_7 cf lf (T 7) (T 10) h) (finK E [.tmp 6])))))) = p49_40 cf lf F11 (T 0) (T 1) (T 2) (T 7) (T 8) (T 9) (T 10) (T 11) (T 12) (T 17) h := by kernel_rfl
def p49_50 (cf : CallF) (lf : Nat) (F11 : Value → Value → Value → Value → Value → Value → Value → Value → Heap → Ans) (s0 : Value) (s1 : Value) (s2 : Value) (s7 : Value) (s8 : Value) (s9 : Value) (s10 : Value) (s11 : Value) (s18 : Value) (h : Heap) : Ans :=
 bindR (callA E cf s11 [s18] h) (fun v h => some (.panic v, h)) fun t205 h =>
 F11 s0 s1 s2 s7 s8 s9 s10 s11 h
theorem p49_50_ok (cf : CallF) (lf : Nat) (F11 : Value → Value → Value → Value → Value → Value → Value → Value → Heap → Ans) (T : Tmps) (h : Heap) : execK E cf lf 209 k49_50 T h (blockK 2 (blockK 1 (seqK (fun T h => F11 (T 0) (T 1) (T 2) (T 7) (T 8) (T 9) (T 10) (T 11) h) (blockK 0 (seqK (fun T h => p49_7 cf lf (T 7) (T 10) h) (finK E [.tmp 6])))))) = p49_50 cf lf F11 (T 0) (T 1) (T 2) (T 7) (T 8) (T 9) (T 10) (T 11) (T 18) h := by kernel_rfl
def p49_49 (cf : CallF) (lf : Nat) (F11 : Value → Value → Value → Value → Value → Value → Value → Value → Heap → Ans) (s0 : Value) (s1 : Value) (s2 : Value) (s7 : Value) (s8 : Value) (s9 : Value) (s10 : Value) (s11 : Value) (s18 : Value) (h : Heap) : Ans :=
 bindO (lenA E 37 s18) fun t199 =>
 bindO (binA E 3 .eql t199 (.int .i64 (0))) fun t200 =>
 condV t200 (
  bindO (buildA E 49 [(0, (.int .i64 (1))), (3, (.bool true))]) fun t201 =>
  bindR (valR (buildSliceA E 37 1 [(0, t201)] h)) (fun v h => some (.panic v, h)) fun t202 h =>
  p49_50 cf lf F11 s0 s1 s2 s7 s8 s9 s10 s11 t202 h
 ) (
  p49_50 cf lf F11 s0 s1 s2 s7 s8 s9 s10 s11 s18 h
 )
theorem p49_49_ok (cf : CallF) (lf : Nat) (F11 : Value → Value → Value → Value → Value → Value → Value → Value → Heap → Ans) (T : Tmps) (h : Heap) : execK E cf lf 209 k49_49 T h (blockK 2 (blockK 1 (seqK (fun T h => F11 (T 0) (T 1) (T 2) (T 7) (T 8) (T 9) (T 10) (T 11) h) (blockK 0 (seqK (fun T h => p49_7 cf lf (T 7) (T 10) h) (finK E [.tmp 6])))))) = p49_49 cf lf F11 (T 0) (T 1) (T 2) (T 7) (T 8) (T 9) (T 10) (T 11) (T 18) h := by simp only [k49_49, k49_51, k49_52, execK_all, p49_50_ok]; delta p49_49; generalize p49_50 = G0; as_aux_lemma => kernel_rfl
def p49_47 (cf : CallF) (lf : Nat) (F11 : Value → Value → Value → Value → Value → Value → Value → Value → Heap → Ans) (s0 : Value) (s1 : Value) (s2 : Value) (s7 : Value) (s8 : Value) (s9 : Value) (s10 : Value) (s11 : Value) (s12 : Value) (h : Heap) : Ans :=
 bindR (cf 49 [s0, (.int .i64 (1)), s2] h) (fun v h => some (.panic v, h)) fun t192 h =>
 bindR (cf 23 [s0, (.string (mkS [34]))] h) (fun v h => some (.panic v, h)) fun t194 h =>
 bindO (unA .not t194) fun t195 =>
 condV t195 (
  bindR (cf 25 [(.int .i64 (19)), s12] h) (fun v h => some (.panic v, h)) fun t197 h =>
  p49_49 cf lf F11 s0 s1 s2 s7 s8 s9 s10 s11 t192 h
 ) (
  p49_49 cf lf F11 s0 s1 s2 s7 s8 s9 s10 s11 t192 h
 )
theorem p49_47_ok (cf : CallF) (lf : Nat) (F11 : Value → Value → Value → Value → Value → Value → Value → Value → Heap → Ans) (T : Tmps) (h : Heap) : execK E cf lf 209 k49_47 T h (blockK 2 (blockK 1 (seqK (fun T h => F11 (T 0) (T 1) (T 2) (T 7) (T 8) (T 9) (T 10) (T 11) h) (blockK 0 (seqK (fun T h => p49_7 cf lf (T 7) (T 10) h) (finK E [.tmp 6])))))) = p49_47 cf lf F11 (T 0) (T 1) (T 2) (T 7) (T 8) (T 9) (T 10) (T 11) (T 12) h := by simp only [k49_47, k49_48, k49_53, k49_54, execK_all, p49_49_ok]; delta p49_47; generalize p49_49 = G0; as_aux_lemma => kernel_rfl
def p49_56 (cf : CallF) (lf : Nat) (F11 : Value → Value → Value → Value → Value → Value → Value → Value → Heap → Ans) (s0 : Value) (s1 : Value) (s2 : Value) (s7 : Value) (s8 : Value) (s9 : Value) (s10 : Value) (s11 : Value) (h : Heap) : Ans :=
 bindO (nilA s0) fun t57 =>
 bindO (fieldAddrA E 57 t57 1) fun t58 =>
 bindO (loadA E 3 t58 h) fun t59 =>
 bindO (binA E 3 .add t59 (.int .i64 (1))) fun t60 =>
 bindO (nilA s0) fun t61 =>
 bindO (fieldAddrA E 57 t61 1) fun t62 =>
 bindR (skipR (storeA E 3 t62 t60 h)) (fun v h => some (.panic v, h)) fun _ h =>
 F11 s0 s1 s2 s7 s8 s9 s10 s11 h
theorem p49_56_ok (cf : CallF) (lf : Nat) (F11 : Value → Value → Value → Value → Value → Value → Value → Value → Heap → Ans) (T : Tmps) (h : Heap) : execK E cf lf 209 k49_56 T h (blockK 2 (blockK 1 (seqK (fun T h => F11 (T 0) (T 1) (T 2) (T 7) (T 8) (T 9) (T 10) (T 11) h) (blockK 0 (seqK (fun T h => p49_7 cf lf (T 7) (T 10) h) (finK E [.tmp 6])))))) = p49_56 cf lf F11 (T 0) (T 1) (T 2) (T 7) (T 8) (T 9) (T 10) (T 11) h := by kernel_rfl
def p49_35 (cf : CallF) (lf : Nat) (F11 : Value → Value → Value → Value → Value → Value → Value → Value → Heap → Ans) (s0 : Value) (s1 : Value) (s2 : Value) (s7 : Value) (s8 : Value) (s9 : Value) (s10 : Value) (s11 : Value) (s12 : Value) (s13 : Value) (s122 : Value) (h : Heap) : Ans :=
 condV s122 (
  bindR (cf 25 [(.int .i64 (19)), s12] h) (fun v h => some (.panic v, h)) fun t132 h =>
  F11 s0 s1 s2 s7 s8 s9 s10 s11 h
 ) (
  bindO (binA E 5 .eql s13 (.int .u8 (39))) fun t135 =>
  bindO (gO (boolIs true t135) (loadA E 4 s9 h)) fun t137 =>
  bindO (gO (boolIs true t135) (unA .not t137)) fun t138 =>
  bindO (pickA t135 t138 (.bool false)) fun t139 =>
  condV t139 (
   bindO (nilA s0) fun t141 =>
   bindO (fieldAddrA E 57 t141 0) fun t142 =>
   bindO (loadA E 9 t142 h) fun t143 =>
   bindO (binA E 3 .add s12 (.int .i64 (1))) fun t145 =>
   bindO (sliceA E 9 t143 (some t145) none h) fun t146 =>
   bindR (cf 73 [t146, (.int .u8 (39))] h) (fun v h => some (.panic v, h)) fun t147 h =>
   bindO (binA E 3 .lss t147 (.int .i64 (0))) fun t149 =>
   condV t149 (
    bindR (cf 25 [(.int .i64 (19)), s12] h) (fun v h => some (.panic v, h)) fun t151 h =>
    p49_40 cf lf F11 s0 s1 s2 s7 s8 s9 s10 s11 s12 t147 h
   ) (
    p49_40 cf lf F11 s0 s1 s2 s7 s8 s9 s10 s11 s12 t147 h
   )
  ) (
   bindO (binA E 5 .eql s13 (.int .u8 (34))) fun t178 =>
   bindO (gO (boolIs true t178) (loadA E 4 s9 h)) fun t180 =>
   bindO (gO (boolIs true t178) (unA .not t180)) fun t181 =>
   bindO (pickA t178 t181 (.bool false)) fun t182 =>
   condV t182 (
    bindO (nilA s0) fun t184 =>
    bindO (fieldAddrA E 57 t184 1) fun t185 =>
    bindO (loadA E 3 t185 h) fun t186 =>
    bindO (binA E 3 .add t186 (.int .i64 (1))) fun t187 =>
    bindO (nilA s0) fun t188 =>
    bindO (fieldAddrA E 57 t188 1) fun t189 =>
    bindR (skipR (storeA E 3 t189 t187 h)) (fun v h => some (.panic v, h)) fun _ h =>
    p49_47 cf lf F11 s0 s1 s2 s7 s8 s9 s10 s11 s12 h
   ) (
    bindO (loadA E 79 s8 h) fun t52 =>
    bindR (valR (buildSliceA E 79 1 [(0, s13)] h)) (fun v h => some (.panic v, h)) fun t54 h =>
    bindR (valR (appendA E 79 t52 t54 h)) (fun v h => some (.panic v, h)) fun t55 h =>
    bindR (skipR (storeA E 79 s8 t55 h)) (fun v h => some (.panic v, h)) fun _ h =>
    p49_56 cf lf F11 s0 s1 s2 s7 s8 s9 s10 s11 h
   )
  )
 )
theorem p49_35_ok (cf : CallF) (lf : Nat) (F11 : Value → Value → Value → Value → Value → Value → Value → Value → Heap → Ans) (T : Tmps) (h : Heap) : execK E cf lf 209 k49_35 T h (blockK 2 (blockK 1 (seqK (fun T h => F11 (T 0) (T 1) (T 2) (T 7) (T 8) (T 9) (T 10) (T 11) h) (blockK 0 (seqK (fun T h => p49_7 cf lf (T 7) (T 10) h) (finK E [.tmp 6])))))) = p49_35 cf lf F11 (T 0) (T 1) (T 2) (T 7) (T 8) (T 9) (T 10) (T 11) (T 12) (T 13) (T 122) h := by simp only [k49_35, k49_36, k49_37, k49_38, k49_39, k49_42, k49_43, k49_44, k49_45, k49_46, k49_55, execK_all, p49_40_ok, p49_47_ok, p49_56_ok]; delta p49_35; generalize p49_40 = G0; generalize p49_47 = G1; generalize p49_56 = G2; as_aux_lemma => kernel_rfl
def p49_28 (cf : CallF) (lf : Nat) (F11 : Value → Value → Value → Value → Value → Value → Value → Value → Heap → Ans) (s0 : Value) (s1 : Value) (s2 : Value) (s7 : Value) (s8 : Value) (s9 : Value) (s10 : Value) (s11 : Value) (s12 : Value) (s13 : Value) (s92 : Value) (h : Heap) : Ans :=
 condV s92 (
  bindR (cf 72 [s0] h) (fun v h => some (.panic v, h)) fun t97 h =>
  bindR (valR (buildSliceA E 79 1 [(0, t97)] h)) (fun v h => some (.panic v, h)) fun t98 h =>
  bindR (valR (convA E 79 9 t98 h)) (fun v h => some (.panic v, h)) fun t99 h =>
  bindO (buildA E 49 [(0, (.int .i64 (1))), (1, t99)]) fun t100 =>
  bindR (valR (buildSliceA E 37 1 [(0, t100)] h)) (fun v h => some (.panic v, h)) fun t101 h =>
  bindR (callA E cf s11 [t101] h) (fun v h => some (.panic v, h)) fun t102 h =>
  F11 s0 s1 s2 s7 s8 s9 s10 s11 h
 ) (
  bindO (binA E 5 .eql s13 (.int .u8 (36))) fun t105 =>
  condV t105 (
   bindR (cf 74 [s0, s1, s2] h) (fun v h => some (.panic v, h)) fun t110 h =>
   bindO (extractA t110 0) fun t111 =>
   bindO (extractA t110 1) fun t112 =>
   bindR (valR (allocA E 49 h)) (fun v h => some (.panic v, h)) fun t15 h =>
   bindR (skipR (storeA E 49 t15 t111 h)) (fun v h => some (.panic v, h)) fun _ h =>
   condV t112 (
    bindO (loadA E 49 t15 h) fun t115 =>
    bindR (valR (buildSliceA E 37 1 [(0, t115)] h)) (fun v h => some (.panic v, h)) fun t116 h =>
    bindR (callA E cf s11 [t116] h) (fun v h => some (.panic v, h)) fun t117 h =>
    F11 s0 s1 s2 s7 s8 s9 s10 s11 h
   ) (
    bindO (loadA E 79 s8 h) fun t118 =>
    bindR (valR (buildSliceA E 79 1 [(0, s13)] h)) (fun v h => some (.panic v, h)) fun t120 h =>
    bindR (valR (appendA E 79 t118 t120 h)) (fun v h => some (.panic v, h)) fun t121 h =>
    bindR (skipR (storeA E 79 s8 t121 h)) (fun v h => some (.panic v, h)) fun _ h =>
    F11 s0 s1 s2 s7 s8 s9 s10 s11 h
   )
  ) (
   bindO (binA E 5 .eql s13 (.int .u8 (96))) fun t124 =>
   condV t124 (
    p49_35 cf lf F11 s0 s1 s2 s7 s8 s9 s10 s11 s12 s13 t124 h
   ) (
    bindO (binA E 5 .eql s13 (.int .u8 (34))) fun t126 =>
    bindO (gO (boolIs true t126) (some s1)) fun t128 =>
    bindO (gO (boolIs true t126) (binA E 96 .eql t128 (.int .i64 (4)))) fun t129 =>
    bindO (pickA t126 t129 (.bool false)) fun t130 =>
    p49_35 cf lf F11 s0 s1 s2 s7 s8 s9 s10 s11 s12 s13 t130 h
   )
  )
 )
theorem p49_28_ok (cf : CallF) (lf : Nat) (F11 : Value → Value → Value → Value → Value → Value → Value → Value → Heap → Ans) (T : Tmps) (h : Heap) : execK E cf lf 209 k49_28 T h (blockK 2 (blockK 1 (seqK (fun T h => F11 (T 0) (T 1) (T 2) (T 7) (T 8) (T 9) (T 10) (T 11) h) (blockK 0 (seqK (fun T h => p49_7 cf lf (T 7) (T 10) h) (finK E [.tmp 6])))))) = p49_28 cf lf F11 (T 0) (T 1) (T 2) (T 7) (T 8) (T 9) (T 10) (T 11) (T 12) (T 13) (T 92) h := by simp only [k49_28, k49_29, k49_30, k49_31, k49_32, k49_33, k49_34, k49_57, k49_58, execK_all, p49_35_ok]; delta p49_28; generalize p49_35 = G0; as_aux_lemma => kernel_rfl
def p49_15 (cf : CallF) (lf : Nat) (F11 : Value → Value → Value → Value → Value → Value → Value → Value → Heap → Ans) (s0 : Value) (s1 : Value) (s2 : Value) (s7 : Value) (s8 : Value) (s9 : Value) (s10 : Value) (s11 : Value) (s38 : Value) (h : Heap) : Ans :=
 condV s38 (
  bindO (nilA s0) fun t40 =>
  bindO (fieldAddrA E 57 t40 1) fun t41 =>
  bindO (loadA E 3 t41 h) fun t42 =>
  bindO (nilA s0) fun t44 =>
  bindO (fieldAddrA E 57 t44 0) fun t45 =>
  bindO (loadA E 9 t45 h) fun t46 =>
  bindO (nilA s0) fun t48 =>
  bindO (fieldAddrA E 57 t48 1) fun t49 =>
  bindO (loadA E 3 t49 h) fun t50 =>
  bindO (indexA E 9 t46 t50) fun t51 =>
  bindR (cf 23 [s0, (.string (mkS [92, 10]))] h) (fun v h => some (.panic v, h)) fun t65 h =>
  condV t65 (
   F11 s0 s1 s2 s7 s8 s9 s10 s11 h
  ) (
   bindO (binA E 5 .eql t51 (.int .u8 (92))) fun t68 =>
   bindO (gO (boolIs true t68) (loadA E 4 s9 h)) fun t70 =>
   bindO (pickA t68 t70 (.bool false)) fun t71 =>
   condV t71 (
    bindR (cf 72 [s0] h) (fun v h => some (.panic v, h)) fun t73 h =>
    bindR (cf 73 [(.string (mkS [36, 96, 92])), t73] h) (fun v h => some (.panic v, h)) fun t75 h =>
    bindO (binA E 3 .lss t75 (.int .i64 (0))) fun t76 =>
    bindO (gO (boolIs true t76) (some t73)) fun t78 =>
    bindO (gO (boolIs true t76) (binA E 5 .neq t78 (.int .u8 (34)))) fun t79 =>
    bindO (gO (boolIs true t76) (some t79)) fun t80 =>
    bindO (gO (boolIs false t80) (some s1)) fun t81 =>
    bindO (gO (boolIs false t80) (binA E 96 .eql t81 (.int .i64 (2)))) fun t82 =>
    bindO (gO (boolIs true t76) (pickA t80 (.bool true) t82)) fun t83 =>
    bindO (pickA t76 t83 (.bool false)) fun t84 =>
    p49_26 cf lf F11 s0 s1 s2 s7 s8 s9 s10 s11 t73 t84 h
   ) (
    bindO (binA E 5 .eql t51 (.int .u8 (92))) fun t94 =>
    p49_28 cf lf F11 s0 s1 s2 s7 s8 s9 s10 s11 t42 t51 t94 h
   )
  )
 ) (
  p49_7 cf lf s7 s10 h
 )
theorem p49_15_ok (cf : CallF) (lf : Nat) (F11 : Value → Value → Value → Value → Value → Value → Value → Value → Heap → Ans) (T : Tmps) (h : Heap) : execK E cf lf 209 k49_15 T h (seqK (fun T h => execK E cf lf 209 k49_13 T h (seqK (fun T h => F11 (T 0) (T 1) (T 2) (T 7) (T 8) (T 9) (T 10) (T 11) h) (blockK 0 (seqK (fun T h => p49_7 cf lf (T 7) (T 10) h) (finK E [.tmp 6]))))) (seqK (fun T h => F11 (T 0) (T 1) (T 2) (T 7) (T 8) (T 9) (T 10) (T 11) h) (blockK 0 (seqK (fun T h => p49_7 cf lf (T 7) (T 10) h) (finK E [.tmp 6]))))) = p49_15 cf lf F11 (T 0) (T 1) (T 2) (T 7) (T 8) (T 9) (T 10) (T 11) (T 38) h := by simp only [k49_13, k49_15, k49_16, k49_17, k49_18, k49_19, k49_20, k49_21, k49_22, k49_23, k49_25, k49_27, execK_all, p49_24_ok, p49_26_ok, p49_28_ok]; delta p49_15; generalize p49_24 = G0; generalize p49_26 = G1; generalize p49_28 = G2; as_aux_lemma => kernel_rfl
def p49_12 (cf : CallF) (lf : Nat) (F11 : Value → Value → Value → Value → Value → Value → Value → Value → Heap → Ans) (s0 : Value) (s1 : Value) (s2 : Value) (s7 : Value) (s8 : Value) (s9 : Value) (s10 : Value) (s11 : Value) (h : Heap) : Ans :=
 bindR (cf 24 [s0] h) (fun v h => some (.panic v, h)) fun t24 h =>
 bindO (gO (boolIs true t24) (some s1)) fun t26 =>
 bindO (gO (boolIs true t24) (some s0)) fun t27 =>
 bindO (gO (boolIs true t24) (nilA t27)) fun t28 =>
 bindO (gO (boolIs true t24) (fieldAddrA E 57 t28 0)) fun t29 =>
 bindO (gO (boolIs true t24) (loadA E 9 t29 h)) fun t30 =>
 bindO (gO (boolIs true t24) (some s0)) fun t31 =>
 bindO (gO (boolIs true t24) (nilA t31)) fun t32 =>
 bindO (gO (boolIs true t24) (fieldAddrA E 57 t32 1)) fun t33 =>
 bindO (gO (boolIs true t24) (loadA E 3 t33 h)) fun t34 =>
 bindO (gO (boolIs true t24) (indexA E 9 t30 t34)) fun t35 =>
 bindR (gR (boolIs true t24) (cf 71 [t26, t35] h) h) (fun v h => some (.panic v, h)) fun t36 h =>
 bindO (gO (boolIs true t24) (unA .not t36)) fun t37 =>
 bindO (pickA t24 t37 (.bool false)) fun t38 =>
 p49_15 cf lf F11 s0 s1 s2 s7 s8 s9 s10 s11 t38 h
theorem p49_12_ok (cf : CallF) (lf : Nat) (F11 : Value → Value → Value → Value → Value → Value → Value → Value → Heap → Ans) (T : Tmps) (h : Heap) : execK E cf lf 209 k49_12 T h (seqK (fun T h => F11 (T 0) (T 1) (T 2) (T 7) (T 8) (T 9) (T 10) (T 11) h) (blockK 0 (seqK (fun T h => p49_7 cf lf (T 7) (T 10) h) (finK E [.tmp 6])))) = p49_12 cf lf F11 (T 0) (T 1) (T 2) (T 7) (T 8) (T 9) (T 10) (T 11) h := by simp only [k49_12, k49_14, execK_all, p49_15_ok]; delta p49_12; generalize p49_15 = G0; as_aux_lemma => kernel_rfl
def l49_11 (cf : CallF) (lf : Nat) : Nat → Value → Value → Value → Value → Value → Value → Value → Value → Heap → Ans
 | 0, _, _, _, _, _, _, _, _, _ => none
 | n + 1, s0, s1, s2, s7, s8, s9, s10, s11, h => p49_12 cf lf (l49_11 cf lf n) s0 s1 s2 s7 s8 s9 s10 s11 h
theorem l49_11_ok (cf : CallF) (lf : Nat) (n : Nat) : ∀ (T : Tmps) (h : Heap), iterK (fun T h K => execK E cf lf 209 k49_12 T h K) (blockK 0 (seqK (fun T h => p49_7 cf lf (T 7) (T 10) h) (finK E [.tmp 6]))) n T h = l49_11 cf lf n (T 0) (T 1) (T 2) (T 7) (T 8) (T 9) (T 10) (T 11) h := by
 induction n with
 | zero => intro T h; rfl
 | succ n ih =>
  intro T h
  rw [iterK_succ, show iterK (fun T h K => execK E cf lf 209 k49_12 T h K) (blockK 0 (seqK (fun T h => p49_7 cf lf (T 7) (T 10) h) (finK E [.tmp 6]))) n = (fun T h => l49_11 cf lf n (T 0) (T 1) (T 2) (T 7) (T 8) (T 9) (T 10) (T 11) h) from funext fun T => funext fun h => ih T h]
  exact p49_12_ok cf lf (l49_11 cf lf n) T h
def p49_0 (cf : CallF) (lf : Nat) (s0 : Value) (s1 : Value) (s2 : Value) (h : Heap) : Ans :=
 bindR (valR (allocA E 37 h)) (fun v h => some (.panic v, h)) fun t7 h =>
 bindR (valR (allocA E 79 h)) (fun v h => some (.panic v, h)) fun t8 h =>
 bindR (cf 68 [s1] h) (fun v h => some (.panic v, h)) fun t20 h =>
 bindR (valR (allocA E 4 h)) (fun v h => some (.panic v, h)) fun t9 h =>
 bindR (skipR (storeA E 4 t9 t20 h)) (fun v h => some (.panic v, h)) fun _ h =>
 bindR (valR (allocA E 1 h)) (fun v h => some (.panic v, h)) fun t10 h =>
 bindR (skipR (storeA E 1 t10 (.func (.func 69) ⟨[]⟩ ⟨[t8, t9, t7]⟩) h)) (fun v h => some (.panic v, h)) fun _ h =>
 l49_11 cf lf lf s0 s1 s2 t7 t8 t9 t10 (.func (.func 70) ⟨[]⟩ ⟨[t10, t7]⟩) h
theorem p49_0_ok (cf : CallF) (lf : Nat) (T : Tmps) (h : Heap) : execK E cf lf 209 k49_0 T h (finK E [.tmp 6]) = p49_0 cf lf (T 0) (T 1) (T 2) h := by simp only [k49_0, k49_1, k49_10, k49_11, k49_2, k49_3, k49_4, k49_5, k49_6, execK_all, l49_11_ok, p49_7_ok]; delta p49_0; generalize l49_11 = G0; generalize p49_7 = G1; as_aux_lemma => kernel_rfl
def f49 (cf : CallF) (lf : Nat) (a0 : Value) (a1 : Value) (a2 : Value) (h : Heap) : Ans := p49_0 cf lf a0 a1 a2 h
theorem f49_ok (cf : CallF) (lf : Nat) (a0 a1 a2 : Value) (h : Heap) : stepN E cf lf 49 [a0, a1, a2] h = f49 cf lf a0 a1 a2 h := (show stepN E cf lf 49 [a0, a1, a2] h = execK E cf lf 209 k49_0 (T0 [a0, a1, a2]) h (finK E [.tmp 6]) by kernel_rfl).trans ((p49_0_ok cf lf (T0 [a0, a1, a2]) h).trans (by kernel_rfl))
def f60 (cf : CallF) (lf : Nat) (a0 : Value) (a1 : Value) (h : Heap) : Ans :=
 bindO (lenA E 9 a0) fun t6 =>
 bindO (lenA E 9 a1) fun t8 =>
 bindO (binB E 3 .geq t6 t8) fun t9 =>
 bindO (gO (boolIs true t9) (some a0)) fun t11 =>
 bindO (gO (boolIs true t9) (some a1)) fun t12 =>
 bindO (gO (boolIs true t9) (lenA E 9 t12)) fun t13 =>
 bindO (gO (boolIs true t9) (sliceA E 9 t11 none (some t13) h)) fun t14 =>
 bindO (gO (boolIs true t9) (some a1)) fun t15 =>
 bindO (gO (boolIs true t9) (binB E 9 .eql t14 t15)) fun t16 =>
 bindO (pickA t9 t16 (.bool false)) fun t17 =>
 some (.ret t17, h)
theorem f60_ok (cf : CallF) (lf : Nat) (a0 a1 : Value) (h : Heap) : stepN E cf lf 60 [a0, a1] h = f60 cf lf a0 a1 h := by kernel_rfl
def f66 (cf : CallF) (lf : Nat) (a0 : Value) (a1 : Value) (h : Heap) : Ans :=
 bindR (cf 85 [a0, a1] h) (fun v h => some (.panic v, h)) fun t10 h =>
 bindO (binA E 3 .geq t10 (.int .i64 (0))) fun t12 =>
 condV t12 (
  bindO (sliceA E 9 a0 none (some t10) h) fun t15 =>
  bindO (lenA E 9 a1) fun t19 =>
  bindO (binB E 3 .add t10 t19) fun t20 =>
  bindO (sliceA E 9 a0 (some t20) none h) fun t21 =>
  some (.ret (.tuple ⟨[t15, t21, (.bool true)]⟩), h)
 ) (
  some (.ret (.tuple ⟨[a0, (.string (mkS [])), (.bool false)]⟩), h)
 )
theorem f66_ok (cf : CallF) (lf : Nat) (a0 a1 : Value) (h : Heap) : stepN E cf lf 66 [a0, a1] h = f66 cf lf a0 a1 h := by kernel_rfl
noncomputable def kc67 := codeOf Tryd.f67
def k67_26 := cp kc67 [1, 0, 1, 0, 0, 1, 1, 0, 0, 1, 1, 0, 0]
def k67_17 := cp kc67 [1, 0, 1, 0, 0, 1, 1, 0, 0, 1, 1, 0, 1]
def k67_16 : Code := .seq k67_26 k67_17
def k67_25 := cp kc67 [1, 0, 1, 0, 0, 1, 1, 0, 0, 1, 1, 1]
def k67_24 := cp kc67 [1, 0, 1, 0, 0, 1, 1, 0, 0, 1, 0]
def k67_15 : Code := .cond (.tmp 16) k67_16 k67_25
def k67_23 := cp kc67 [1, 0, 1, 0, 0, 1, 1, 0, 0, 0]
def k67_14 : Code := .seq k67_24 k67_15
def k67_13 : Code := .seq k67_23 k67_14
def k67_21 := cp kc67 [1, 0, 1, 0, 0, 1, 0, 0]
def k67_22 := cp kc67 [1, 0, 1, 0, 0, 1, 0, 1]
def k67_12 : Code := .block 1 k67_13
def k67_11 := cp kc67 [1, 0, 1, 0, 0, 1, 1, 1]
def k67_10 : Code := .cond (.tmp 9) k67_21 k67_22
def k67_9 : Code := .seq k67_12 k67_11
def k67_20 := cp kc67 [1, 0, 1, 0, 0, 0]
def k67_8 : Code := .seq k67_10 k67_9
def k67_7 : Code := .seq k67_20 k67_8
def k67_6 : Code := .loop k67_7
def k67_19 := cp kc67 [1, 0, 0]
def k67_5 : Code := .block 0 k67_6
def k67_27 := cp kc67 [1, 1, 0]
def k67_3 := cp kc67 [1, 1, 1]
def k67_4 : Code := .seq k67_19 k67_5
def k67_2 : Code := .seq k67_27 k67_3
def k67_18 := cp kc67 [0]
def k67_1 : Code := .seq k67_4 k67_2
def k67_0 : Code := .seq k67_18 k67_1
def p67_2 (cf : CallF) (lf : Nat) (h : Heap) : Ans :=
 some (.ret (.int .i64 (-1)), h)
theorem p67_2_ok (cf : CallF) (lf : Nat) (T : Tmps) (h : Heap) : execK E cf lf 19 k67_2 T h (finK E [.tmp 4]) = p67_2 cf lf h := by kernel_rfl
def p67_7 (cf : CallF) (lf : Nat) (F6 : Value → Value → Value → Value → Heap → Ans) (s0 : Value) (s1 : Value) (s7 : Value) (s8 : Value) (h : Heap) : Ans :=
 bindO (binB E 3 .lss s8 s7) fun t9 =>
 condV t9 (
  bindO (indexAddrA E 40 s0 s8) fun t14 =>
  bindO (loadA E 9 t14 h) fun t15 =>
  bindR (callA E cf s1 [t15] h) (fun v h => some (.panic v, h)) fun t16 h =>
  condV t16 (
   some (.ret s8, h)
  ) (
   bindO (binA E 3 .add s8 (.int .i64 (1))) fun t18 =>
   F6 s0 s1 s7 t18 h
  )
 ) (
  p67_2 cf lf h
 )
theorem p67_7_ok (cf : CallF) (lf : Nat) (F6 : Value → Value → Value → Value → Heap → Ans) (T : Tmps) (h : Heap) : execK E cf lf 19 k67_7 T h (seqK (fun T h => F6 (T 0) (T 1) (T 7) (T 8) h) (blockK 0 (seqK (fun T h => p67_2 cf lf h) (finK E [.tmp 4])))) = p67_7 cf lf F6 (T 0) (T 1) (T 7) (T 8) h := by kernel_rfl
def l67_6 (cf : CallF) (lf : Nat) : Nat → Value → Value → Value → Value → Heap → Ans
 | 0, _, _, _, _, _ => none
 | n + 1, s0, s1, s7, s8, h => p67_7 cf lf (l67_6 cf lf n) s0 s1 s7 s8 h
theorem l67_6_ok (cf : CallF) (lf : Nat) (n : Nat) : ∀ (T : Tmps) (h : Heap), iterK (fun T h K => execK E cf lf 19 k67_7 T h K) (blockK 0 (seqK (fun T h => p67_2 cf lf h) (finK E [.tmp 4]))) n T h = l67_6 cf lf n (T 0) (T 1) (T 7) (T 8) h := by
 induction n with
 | zero => intro T h; rfl
 | succ n ih =>
  intro T h
  rw [iterK_succ, show iterK (fun T h K => execK E cf lf 19 k67_7 T h K) (blockK 0 (seqK (fun T h => p67_2 cf lf h) (finK E [.tmp 4]))) n = (fun T h => l67_6 cf lf n (T 0) (T 1) (T 7) (T 8) h) from funext fun T => funext fun h => ih T h]
  exact p67_7_ok cf lf (l67_6 cf lf n) T h
def p67_0 (cf : CallF) (lf : Nat) (s0 : Value) (s1 : Value) (h : Heap) : Ans :=
 bindO (lenA E 40 s0) fun t7 =>
 l67_6 cf lf lf s0 s1 t7 (.int .i64 (0)) h
theorem p67_0_ok (cf : CallF) (lf : Nat) (T : Tmps) (h : Heap) : execK E cf lf 19 k67_0 T h (finK E [.tmp 4]) = p67_0 cf lf (T 0) (T 1) h := by simp only [k67_0, k67_1, k67_4, k67_5, k67_6, execK_all, l67_6_ok, p67_2_ok]; delta p67_0; generalize l67_6 = G0; generalize p67_2 = G1; as_aux_lemma => kernel_rfl
def f67 (cf : CallF) (lf : Nat) (a0 : Value) (a1 : Value) (h : Heap) : Ans := p67_0 cf lf a0 a1 h
theorem f67_ok (cf : CallF) (lf : Nat) (a0 a1 : Value) (h : Heap) : stepN E cf lf 67 [a0, a1] h = f67 cf lf a0 a1 h := (show stepN E cf lf 67 [a0, a1] h = execK E cf lf 19 k67_0 (T0 [a0, a1]) h (finK E [.tmp 4]) by kernel_rfl).trans ((p67_0_ok cf lf (T0 [a0, a1]) h).trans (by kernel_rfl))
def f68 (cf : CallF) (lf : Nat) (a0 : Value) (h : Heap) : Ans :=
 bindO (binA E 96 .neq a0 (.int .i64 (0))) fun t4 =>
 bindO (gO (boolIs true t4) (some a0)) fun t6 =>
 bindO (gO (boolIs true t4) (binA E 96 .neq t6 (.int .i64 (3)))) fun t7 =>
 bindO (pickA t4 t7 (.bool false)) fun t8 =>
 some (.ret t8, h)
theorem f68_ok (cf : CallF) (lf : Nat) (a0 : Value) (h : Heap) : stepN E cf lf 68 [a0] h = f68 cf lf a0 h := by kernel_rfl
noncomputable def kc69 := codeOf Tryd.f69
def k69_13 := cp kc69 [1, 1, 0, 1, 0]
def k69_14 := cp kc69 [1, 1, 0, 1, 1]
def k69_12 := cp kc69 [1, 1, 0, 0]
def k69_7 : Code := .cond (.tmp 11) k69_13 k69_14
def k69_9 := cp kc69 [0, 1, 0]
def k69_10 := cp kc69 [0, 1, 1]
def k69_6 : Code := .seq k69_12 k69_7
def k69_5 := cp kc69 [1, 1, 1]
def k69_8 := cp kc69 [0, 0]
def k69_3 : Code := .cond (.tmp 6) k69_9 k69_10
def k69_11 := cp kc69 [1, 0]
def k69_4 : Code := .seq k69_6 k69_5
def k69_2 : Code := .seq k69_8 k69_3
def k69_1 : Code := .seq k69_11 k69_4
def k69_0 : Code := .seq k69_2 k69_1
def p69_5 (cf : CallF) (lf : Nat) (s0 : Value) (s2 : Value) (s3 : Value) (h : Heap) : Ans :=
 bindO (loadA E 37 s2 h) fun t13 =>
 bindO (loadA E 49 s3 h) fun t14 =>
 bindR (valR (buildSliceA E 37 1 [(0, t14)] h)) (fun v h => some (.panic v, h)) fun t15 h =>
 bindR (valR (appendA E 37 t13 t15 h)) (fun v h => some (.panic v, h)) fun t16 h =>
 bindR (skipR (storeA E 37 s2 t16 h)) (fun v h => some (.panic v, h)) fun _ h =>
 bindR (skipR (storeA E 79 s0 (.slice none 0 0) h)) (fun v h => some (.panic v, h)) fun _ h =>
 some (.ret (.tuple ⟨[]⟩), h)
theorem p69_5_ok (cf : CallF) (lf : Nat) (T : Tmps) (h : Heap) : execK E cf lf 17 k69_5 T h (finK E []) = p69_5 cf lf (T 0) (T 2) (T 3) h := by kernel_rfl
def p69_0 (cf : CallF) (lf : Nat) (s0 : Value) (s1 : Value) (s2 : Value) (h : Heap) : Ans :=
 bindO (loadA E 79 s0 h) fun t4 =>
 bindO (lenA E 79 t4) fun t5 =>
 bindO (binA E 3 .eql t5 (.int .i64 (0))) fun t6 =>
 condV t6 (
  some (.ret (.tuple ⟨[]⟩), h)
 ) (
  bindO (loadA E 79 s0 h) fun t7 =>
  bindR (valR (convA E 79 9 t7 h)) (fun v h => some (.panic v, h)) fun t8 h =>
  bindO (loadA E 4 s1 h) fun t9 =>
  bindO (buildA E 49 [(0, (.int .i64 (0))), (1, t8), (3, t9)]) fun t10 =>
  bindR (valR (allocA E 49 h)) (fun v h => some (.panic v, h)) fun t3 h =>
  bindR (skipR (storeA E 49 t3 t10 h)) (fun v h => some (.panic v, h)) fun _ h =>
  bindO (loadA E 4 s1 h) fun t11 =>
  condV t11 (
   bindO (fieldAddrA E 49 t3 0) fun t12 =>
   bindR (skipR (storeA E 3 t12 (.int .i64 (1)) h)) (fun v h => some (.panic v, h)) fun _ h =>
   p69_5 cf lf s0 s2 t3 h
  ) (
   p69_5 cf lf s0 s2 t3 h
  )
 )
theorem p69_0_ok (cf : CallF) (lf : Nat) (T : Tmps) (h : Heap) : execK E cf lf 17 k69_0 T h (finK E []) = p69_0 cf lf (T 0) (T 1) (T 2) h := by simp only [k69_0, k69_1, k69_2, k69_3, k69_4, k69_6, k69_7, execK_all, p69_5_ok]; delta p69_0; generalize p69_5 = G0; as_aux_lemma => kernel_rfl
def f69 (cf : CallF) (lf : Nat) (a0 : Value) (a1 : Value) (a2 : Value) (h : Heap) : Ans := p69_0 cf lf a0 a1 a2 h
theorem f69_ok (cf : CallF) (lf : Nat) (a0 a1 a2 : Value) (h : Heap) : stepN E cf lf 69 [a0, a1, a2] h = f69 cf lf a0 a1 a2 h := (show stepN E cf lf 69 [a0, a1, a2] h = execK E cf lf 17 k69_0 (T0 [a0, a1, a2]) h (finK E []) by kernel_rfl).trans ((p69_0_ok cf lf (T0 [a0, a1, a2]) h).trans (by kernel_rfl))
def f70 (cf : CallF) (lf : Nat) (a0 : Value) (a1 : Value) (a2 : Value) (h : Heap) : Ans :=
 bindO (loadA E 1 a1 h) fun t4 =>
 bindR (callA E cf t4 [] h) (fun v h => some (.panic v, h)) fun t5 h =>
 bindO (loadA E 37 a2 h) fun t6 =>
 bindR (valR (appendA E 37 t6 a0 h)) (fun v h => some (.panic v, h)) fun t8 h =>
 bindR (skipR (storeA E 37 a2 t8 h)) (fun v h => some (.panic v, h)) fun _ h =>
 some (.ret (.tuple ⟨[]⟩), h)
theorem f70_ok (cf : CallF) (lf : Nat) (a0 a1 a2 : Value) (h : Heap) : stepN E cf lf 70 [a0, a1, a2] h = f70 cf lf a0 a1 a2 h := by kernel_rfl
def f71 (cf : CallF) (lf : Nat) (a0 : Value) (a1 : Value) (h : Heap) : Ans :=
 bindO (binA E 96 .eql a0 (.int .i64 (0))) fun t7 =>
 condV t7 (
  bindR (cf 73 [(.string (mkS [32, 9, 10, 59, 38, 124, 40, 41, 60, 62])), a1] h) (fun v h => some (.panic v, h)) fun t9 h =>
  bindO (binA E 3 .geq t9 (.int .i64 (0))) fun t10 =>
  some (.ret t10, h)
 ) (
  bindO (binA E 96 .eql a0 (.int .i64 (1))) fun t12 =>
  condV t12 (
   bindO (binA E 5 .eql a1 (.int .u8 (34))) fun t14 =>
   some (.ret t14, h)
  ) (
   bindO (binA E 96 .eql a0 (.int .i64 (2))) fun t16 =>
   condV t16 (
    some (.ret (.bool false), h)
   ) (
    bindO (binA E 5 .eql a1 (.int .u8 (125))) fun t18 =>
    some (.ret t18, h)
   )
  )
 )
theorem f71_ok (cf : CallF) (lf : Nat) (a0 a1 : Value) (h : Heap) : stepN E cf lf 71 [a0, a1] h = f71 cf lf a0 a1 h := by kernel_rfl
noncomputable def kc72 := codeOf Tryd.f72
def k72_14 := cp kc72 [1, 1, 1, 1, 0]
def k72_5 := cp kc72 [1, 1, 1, 1, 1]
def k72_10 := cp kc72 [1, 0, 1, 0]
def k72_11 := cp kc72 [1, 0, 1, 1]
def k72_13 := cp kc72 [1, 1, 1, 0]
def k72_4 : Code := .seq k72_14 k72_5
def k72_9 := cp kc72 [1, 0, 0]
def k72_7 : Code := .cond (.tmp 14) k72_10 k72_11
def k72_12 := cp kc72 [1, 1, 0]
def k72_3 : Code := .seq k72_13 k72_4
def k72_6 : Code := .seq k72_9 k72_7
def k72_2 : Code := .seq k72_12 k72_3
def k72_8 := cp kc72 [0]
def k72_1 : Code := .seq k72_6 k72_2
def k72_0 : Code := .seq k72_8 k72_1
def p72_2 (cf : CallF) (lf : Nat) (s0 : Value) (h : Heap) : Ans :=
 bindO (nilA s0) fun t21 =>
 bindO (fieldAddrA E 57 t21 0) fun t22 =>
 bindO (loadA E 9 t22 h) fun t23 =>
 bindO (nilA s0) fun t25 =>
 bindO (fieldAddrA E 57 t25 1) fun t26 =>
 bindO (loadA E 3 t26 h) fun t27 =>
 bindO (binA E 3 .add t27 (.int .i64 (1))) fun t28 =>
 bindO (indexA E 9 t23 t28) fun t29 =>
 bindO (nilA s0) fun t31 =>
 bindO (fieldAddrA E 57 t31 1) fun t32 =>
 bindO (loadA E 3 t32 h) fun t33 =>
 bindO (binA E 3 .add t33 (.int .i64 (2))) fun t34 =>
 bindO (nilA s0) fun t35 =>
 bindO (fieldAddrA E 57 t35 1) fun t36 =>
 bindR (skipR (storeA E 3 t36 t34 h)) (fun v h => some (.panic v, h)) fun _ h =>
 some (.ret t29, h)
theorem p72_2_ok (cf : CallF) (lf : Nat) (T : Tmps) (h : Heap) : execK E cf lf 38 k72_2 T h (finK E [.tmp 2]) = p72_2 cf lf (T 0) h := by kernel_rfl
def p72_0 (cf : CallF) (lf : Nat) (s0 : Value) (h : Heap) : Ans :=
 bindO (nilA s0) fun t5 =>
 bindO (fieldAddrA E 57 t5 1) fun t6 =>
 bindO (loadA E 3 t6 h) fun t7 =>
 bindO (binA E 3 .add t7 (.int .i64 (1))) fun t8 =>
 bindO (nilA s0) fun t10 =>
 bindO (fieldAddrA E 57 t10 0) fun t11 =>
 bindO (loadA E 9 t11 h) fun t12 =>
 bindO (lenA E 9 t12) fun t13 =>
 bindO (binB E 3 .geq t8 t13) fun t14 =>
 condV t14 (
  bindO (nilA s0) fun t16 =>
  bindO (fieldAddrA E 57 t16 1) fun t17 =>
  bindO (loadA E 3 t17 h) fun t18 =>
  bindR (cf 25 [(.int .i64 (19)), t18] h) (fun v h => some (.panic v, h)) fun t19 h =>
  p72_2 cf lf s0 h
 ) (
  p72_2 cf lf s0 h
 )
theorem p72_0_ok (cf : CallF) (lf : Nat) (T : Tmps) (h : Heap) : execK E cf lf 38 k72_0 T h (finK E [.tmp 2]) = p72_0 cf lf (T 0) h := by simp only [k72_0, k72_1, k72_6, k72_7, execK_all, p72_2_ok]; delta p72_0; generalize p72_2 = G0; as_aux_lemma => kernel_rfl
def f72 (cf : CallF) (lf : Nat) (a0 : Value) (h : Heap) : Ans := p72_0 cf lf a0 h
theorem f72_ok (cf : CallF) (lf : Nat) (a0 : Value) (h : Heap) : stepN E cf lf 72 [a0] h = f72 cf lf a0 h := (show stepN E cf lf 72 [a0] h = execK E cf lf 38 k72_0 (T0 [a0]) h (finK E [.tmp 2]) by kernel_rfl).trans ((p72_0_ok cf lf (T0 [a0]) h).trans (by kernel_rfl))
def f73 (cf : CallF) (lf : Nat) (a0 : Value) (a1 : Value) (h : Heap) : Ans :=
 bindR (cf 87 [a0, a1] h) (fun v h => some (.panic v, h)) fun t7 h =>
 some (.ret t7, h)
theorem f73_ok (cf : CallF) (lf : Nat) (a0 a1 : Value) (h : Heap) : stepN E cf lf 73 [a0, a1] h = f73 cf lf a0 a1 h := by kernel_rfl
noncomputable def kc74 := codeOf Tryd.f74
def k74_32 := cp kc74 [1, 1, 0, 0, 1, 1, 1, 0, 1, 1, 0]
def k74_20 := cp kc74 [1, 1, 0, 0, 1, 1, 1, 0, 1, 1, 1]
def k74_35 := cp kc74 [1, 1, 0, 0, 1, 1, 1, 1, 1, 0, 0]
def k74_24 := cp kc74 [1, 1, 0, 0, 1, 1, 1, 1, 1, 0, 1]
def k74_31 := cp kc74 [1, 1, 0, 0, 1, 1, 1, 0, 1, 0]
def k74_19 : Code := .seq k74_32 k74_20
def k74_23 : Code := .seq k74_35 k74_24
def k74_34 := cp kc74 [1, 1, 0, 0, 1, 1, 1, 1, 1, 1]
def k74_30 := cp kc74 [1, 1, 0, 0, 1, 1, 1, 0, 0]
def k74_18 : Code := .seq k74_31 k74_19
def k74_33 := cp kc74 [1, 1, 0, 0, 1, 1, 1, 1, 0]
def k74_22 : Code := .cond (.tmp 44) k74_23 k74_34
def k74_40 := cp kc74 [1, 1, 1, 1, 0, 1, 1, 0, 0]
def k74_10 := cp kc74 [1, 1, 1, 1, 0, 1, 1, 0, 1]
def k74_17 : Code := .seq k74_30 k74_18
def k74_21 : Code := .seq k74_33 k74_22
def k74_9 : Code := .seq k74_40 k74_10
def k74_39 := cp kc74 [1, 1, 1, 1, 0, 1, 1, 1]
def k74_29 := cp kc74 [1, 1, 0, 0, 1, 1, 0]
def k74_16 : Code := .cond (.tmp 20) k74_17 k74_21
def k74_38 := cp kc74 [1, 1, 1, 1, 0, 1, 0]
def k74_8 : Code := .cond (.tmp 62) k74_9 k74_39
def k74_28 := cp kc74 [1, 1, 0, 0, 1, 0]
def k74_15 : Code := .seq k74_29 k74_16
def k74_37 := cp kc74 [1, 1, 1, 1, 0, 0]
def k74_7 : Code := .seq k74_38 k74_8
def k74_41 := cp kc74 [1, 1, 1, 1, 1, 0]
def k74_11 := cp kc74 [1, 1, 1, 1, 1, 1]
def k74_27 := cp kc74 [1, 1, 0, 0, 0]
def k74_14 : Code := .cond (.tmp 15) k74_28 k74_15
def k74_6 : Code := .seq k74_37 k74_7
def k74_5 : Code := .seq k74_41 k74_11
def k74_13 : Code := .seq k74_27 k74_14
def k74_36 := cp kc74 [1, 1, 1, 0]
def k74_4 : Code := .seq k74_6 k74_5
def k74_12 : Code := .block 0 k74_13
def k74_3 : Code := .seq k74_36 k74_4
def k74_26 := cp kc74 [1, 0]
def k74_2 : Code := .seq k74_12 k74_3
def k74_25 := cp kc74 [0]
def k74_1 : Code := .seq k74_26 k74_2
def k74_0 : Code := .seq k74_25 k74_1
def p74_3 (cf : CallF) (lf : Nat) (s0 : Value) (s1 : Value) (s6 : Value) (h : Heap) : Ans :=
 bindO (nilA s0) fun t53 =>
 bindO (fieldAddrA E 57 t53 1) fun t54 =>
 bindO (loadA E 3 t54 h) fun t55 =>
 bindO (binA E 3 .add t55 (.int .i64 (1))) fun t56 =>
 bindO (nilA s0) fun t57 =>
 bindO (fieldAddrA E 57 t57 1) fun t58 =>
 bindR (skipR (storeA E 3 t58 t56 h)) (fun v h => some (.panic v, h)) fun _ h =>
 bindR (cf 90 [s0, (.string (mkS [63, 35, 64, 42]))] h) (fun v h => some (.panic v, h)) fun t60 h =>
 bindO (binA E 9 .neq t60 (.string (mkS []))) fun t62 =>
 condV t62 (
  bindR (cf 68 [s1] h) (fun v h => some (.panic v, h)) fun t65 h =>
  bindO (buildA E 49 [(0, (.int .i64 (2))), (1, t60), (3, t65)]) fun t66 =>
  bindR (skipR (storeA E 49 s6 t66 h)) (fun v h => some (.panic v, h)) fun _ h =>
  bindO (loadA E 49 s6 h) fun tr6 =>
  some (.ret (.tuple ⟨[tr6, (.bool true)]⟩), h)
 ) (
  bindO (buildA E 49 []) fun t67 =>
  bindR (skipR (storeA E 49 s6 t67 h)) (fun v h => some (.panic v, h)) fun _ h =>
  bindO (loadA E 49 s6 h) fun tr6 =>
  some (.ret (.tuple ⟨[tr6, (.bool false)]⟩), h)
 )
theorem p74_3_ok (cf : CallF) (lf : Nat) (T : Tmps) (h : Heap) : execK E cf lf 68 k74_3 T h (finK E [.cell 6 49, .tmp 7]) = p74_3 cf lf (T 0) (T 1) (T 6) h := by kernel_rfl
def p74_14 (cf : CallF) (lf : Nat) (s0 : Value) (s1 : Value) (s2 : Value) (s6 : Value) (s8 : Value) (s15 : Value) (h : Heap) : Ans :=
 condV s15 (
  bindR (cf 25 [(.int .i64 (19)), s8] h) (fun v h => some (.panic v, h)) fun t19 h =>
  p74_3 cf lf s0 s1 s6 h
 ) (
  bindR (cf 23 [s0, (.string (mkS [36, 40]))] h) (fun v h => some (.panic v, h)) fun t22 h =>
  condV t22 (
   bindO (nilA s0) fun t24 =>
   bindO (fieldAddrA E 57 t24 1) fun t25 =>
   bindO (loadA E 3 t25 h) fun t26 =>
   bindR (cf 88 [s0, s8] h) (fun v h => some (.panic v, h)) fun t29 h =>
   bindO (nilA s0) fun t31 =>
   bindO (fieldAddrA E 57 t31 0) fun t32 =>
   bindO (loadA E 9 t32 h) fun t33 =>
   bindO (nilA s0) fun t36 =>
   bindO (fieldAddrA E 57 t36 1) fun t37 =>
   bindO (loadA E 3 t37 h) fun t38 =>
   bindO (binA E 3 .sub t38 (.int .i64 (1))) fun t39 =>
   bindO (sliceA E 9 t33 (some t26) (some t39) h) fun t40 =>
   bindR (cf 68 [s1] h) (fun v h => none) fun t42 h =>
   bif (eqOV (loadA E 9 t32 h) t33) && ((eqOV (loadA E 3 t37 h) t38) && ((eqOV (sliceA E 9 t33 (some t26) (some t39) h) t40) && (true))) then
   bindO (buildA E 49 [(0, (.int .i64 (3))), (1, t40), (3, t42)]) fun t43 =>
   bindR (skipR (storeA E 49 s6 t43 h)) (fun v h => some (.panic v, h)) fun _ h =>
   bindO (loadA E 49 s6 h) fun tr6 =>
   some (.ret (.tuple ⟨[tr6, (.bool true)]⟩), h)
   else none
  ) (
   bindR (cf 23 [s0, (.string (mkS [36, 123]))] h) (fun v h => some (.panic v, h)) fun t46 h =>
   condV t46 (
    bindR (cf 89 [s0, s8, s1, s2] h) (fun v h => some (.panic v, h)) fun t51 h =>
    bindR (skipR (storeA E 49 s6 t51 h)) (fun v h => some (.panic v, h)) fun _ h =>
    bindO (loadA E 49 s6 h) fun tr6 =>
    some (.ret (.tuple ⟨[tr6, (.bool true)]⟩), h)
   ) (
    p74_3 cf lf s0 s1 s6 h
   )
  )
 )
theorem p74_14_ok (cf : CallF) (lf : Nat) (T : Tmps) (h : Heap) : execK E cf lf 68 k74_14 T h (blockK 0 (seqK (fun T h => p74_3 cf lf (T 0) (T 1) (T 6) h) (finK E [.cell 6 49, .tmp 7]))) = p74_14 cf lf (T 0) (T 1) (T 2) (T 6) (T 8) (T 15) h := by kernel_rfl
def p74_0 (cf : CallF) (lf : Nat) (s0 : Value) (s1 : Value) (s2 : Value) (h : Heap) : Ans :=
 bindR (valR (allocA E 49 h)) (fun v h => some (.panic v, h)) fun t6 h =>
 bindO (nilA s0) fun t12 =>
 bindO (fieldAddrA E 57 t12 1) fun t13 =>
 bindO (loadA E 3 t13 h) fun t14 =>
 bindR (cf 44 [s0, (.string (mkS [36, 40, 40]))] h) (fun v h => some (.panic v, h)) fun t17 h =>
 p74_14 cf lf s0 s1 s2 t6 t14 t17 h
theorem p74_0_ok (cf : CallF) (lf : Nat) (T : Tmps) (h : Heap) : execK E cf lf 68 k74_0 T h (finK E [.cell 6 49, .tmp 7]) = p74_0 cf lf (T 0) (T 1) (T 2) h := by simp only [k74_0, k74_1, k74_12, k74_13, k74_2, execK_all, p74_14_ok, p74_3_ok]; delta p74_0; generalize p74_14 = G0; generalize p74_3 = G1; as_aux_lemma => kernel_rfl
def f74 (cf : CallF) (lf : Nat) (a0 : Value) (a1 : Value) (a2 : Value) (h : Heap) : Ans := p74_0 cf lf a0 a1 a2 h
theorem f74_ok (cf : CallF) (lf : Nat) (a0 a1 a2 : Value) (h : Heap) : stepN E cf lf 74 [a0, a1, a2] h = f74 cf lf a0 a1 a2 h := (show stepN E cf lf 74 [a0, a1, a2] h = execK E cf lf 68 k74_0 (T0 [a0, a1, a2]) h (finK E [.cell 6 49, .tmp 7]) by kernel_rfl).trans ((p74_0_ok cf lf (T0 [a0, a1, a2]) h).trans (by kernel_rfl))
noncomputable def kc85 := codeOf Tryd.f85
def k85_112 := cp kc85 [1, 1, 1, 1, 1, 1, 1, 1, 0, 0, 0, 1, 0, 1, 1, 1, 1, 1, 1, 1, 0, 1, 0, 1, 0, 0]
def k85_43 := cp kc85 [1, 1, 1, 1, 1, 1, 1, 1, 0, 0, 0, 1, 0, 1, 1, 1, 1, 1, 1, 1, 0, 1, 0, 1, 0, 1]
def k85_42 : Code := .seq k85_112 k85_43
def k85_111 := cp kc85 [1, 1, 1, 1, 1, 1, 1, 1, 0, 0, 0, 1, 0, 1, 1, 1, 1, 1, 1, 1, 0, 1, 0, 1, 1]
def k85_105 := cp kc85 [1, 1, 1, 1, 1, 1, 1, 1, 0, 0, 0, 1, 0, 1, 1, 1, 1, 1, 0, 1, 0, 1, 0, 0]
def k85_33 := cp kc85 [1, 1, 1, 1, 1, 1, 1, 1, 0, 0, 0, 1, 0, 1, 1, 1, 1, 1, 0, 1, 0, 1, 0, 1]
def k85_110 := cp kc85 [1, 1, 1, 1, 1, 1, 1, 1, 0, 0, 0, 1, 0, 1, 1, 1, 1, 1, 1, 1, 0, 1, 0, 0]
def k85_41 : Code := .cond (.tmp 139) k85_42 k85_111
def k85_113 := cp kc85 [1, 1, 1, 1, 1, 1, 1, 1, 0, 0, 0, 1, 0, 1, 1, 1, 1, 1, 1, 1, 0, 1, 1, 0]
def k85_44 := cp kc85 [1, 1, 1, 1, 1, 1, 1, 1, 0, 0, 0, 1, 0, 1, 1, 1, 1, 1, 1, 1, 0, 1, 1, 1]
def k85_32 : Code := .seq k85_105 k85_33
def k85_104 := cp kc85 [1, 1, 1, 1, 1, 1, 1, 1, 0, 0, 0, 1, 0, 1, 1, 1, 1, 1, 0, 1, 0, 1, 1]
def k85_40 : Code := .seq k85_110 k85_41
def k85_39 : Code := .seq k85_113 k85_44
def k85_103 := cp kc85 [1, 1, 1, 1, 1, 1, 1, 1, 0, 0, 0, 1, 0, 1, 1, 1, 1, 1, 0, 1, 0, 0]
def k85_31 : Code := .cond (.tmp 114) k85_32 k85_104
def k85_106 := cp kc85 [1, 1, 1, 1, 1, 1, 1, 1, 0, 0, 0, 1, 0, 1, 1, 1, 1, 1, 0, 1, 1, 0]
def k85_34 := cp kc85 [1, 1, 1, 1, 1, 1, 1, 1, 0, 0, 0, 1, 0, 1, 1, 1, 1, 1, 0, 1, 1, 1]
def k85_109 := cp kc85 [1, 1, 1, 1, 1, 1, 1, 1, 0, 0, 0, 1, 0, 1, 1, 1, 1, 1, 1, 1, 0, 0]
def k85_38 : Code := .seq k85_40 k85_39
def k85_95 := cp kc85 [1, 1, 1, 1, 1, 1, 1, 1, 0, 0, 0, 1, 0, 0, 1, 0, 1, 0, 1, 0, 0]
def k85_53 := cp kc85 [1, 1, 1, 1, 1, 1, 1, 1, 0, 0, 0, 1, 0, 0, 1, 0, 1, 0, 1, 0, 1]
def k85_30 : Code := .seq k85_103 k85_31
def k85_29 : Code := .seq k85_106 k85_34
def k85_37 : Code := .seq k85_109 k85_38
def k85_108 := cp kc85 [1, 1, 1, 1, 1, 1, 1, 1, 0, 0, 0, 1, 0, 1, 1, 1, 1, 1, 1, 1, 1]
def k85_52 : Code := .seq k85_95 k85_53
def k85_94 := cp kc85 [1, 1, 1, 1, 1, 1, 1, 1, 0, 0, 0, 1, 0, 0, 1, 0, 1, 0, 1, 1]
def k85_102 := cp kc85 [1, 1, 1, 1, 1, 1, 1, 1, 0, 0, 0, 1, 0, 1, 1, 1, 1, 1, 0, 0]
def k85_28 : Code := .seq k85_30 k85_29
def k85_107 := cp kc85 [1, 1, 1, 1, 1, 1, 1, 1, 0, 0, 0, 1, 0, 1, 1, 1, 1, 1, 1, 0]
def k85_36 : Code := .cond (.tmp 132) k85_37 k85_108
def k85_93 := cp kc85 [1, 1, 1, 1, 1, 1, 1, 1, 0, 0, 0, 1, 0, 0, 1, 0, 1, 0, 0]
def k85_51 : Code := .cond (.tmp 73) k85_52 k85_94
def k85_27 : Code := .seq k85_102 k85_28
def k85_35 : Code := .seq k85_107 k85_36
def k85_50 : Code := .seq k85_93 k85_51
def k85_49 := cp kc85 [1, 1, 1, 1, 1, 1, 1, 1, 0, 0, 0, 1, 0, 0, 1, 0, 1, 1]
def k85_98 := cp kc85 [1, 1, 1, 1, 1, 1, 1, 1, 0, 0, 0, 1, 0, 1, 0, 1, 0, 0]
def k85_23 := cp kc85 [1, 1, 1, 1, 1, 1, 1, 1, 0, 0, 0, 1, 0, 1, 0, 1, 0, 1]
def k85_101 := cp kc85 [1, 1, 1, 1, 1, 1, 1, 1, 0, 0, 0, 1, 0, 1, 1, 1, 1, 0]
def k85_26 : Code := .cond (.tmp 107) k85_27 k85_35
def k85_92 := cp kc85 [1, 1, 1, 1, 1, 1, 1, 1, 0, 0, 0, 1, 0, 0, 1, 0, 0]
def k85_48 : Code := .seq k85_50 k85_49
def k85_22 : Code := .seq k85_98 k85_23
def k85_97 := cp kc85 [1, 1, 1, 1, 1, 1, 1, 1, 0, 0, 0, 1, 0, 1, 0, 1, 1]
def k85_100 := cp kc85 [1, 1, 1, 1, 1, 1, 1, 1, 0, 0, 0, 1, 0, 1, 1, 1, 0]
def k85_25 : Code := .seq k85_101 k85_26
def k85_47 : Code := .seq k85_92 k85_48
def k85_91 := cp kc85 [1, 1, 1, 1, 1, 1, 1, 1, 0, 0, 0, 1, 0, 0, 1, 1]
def k85_96 := cp kc85 [1, 1, 1, 1, 1, 1, 1, 1, 0, 0, 0, 1, 0, 1, 0, 0]
def k85_21 : Code := .cond (.tmp 93) k85_22 k85_97
def k85_99 := cp kc85 [1, 1, 1, 1, 1, 1, 1, 1, 0, 0, 0, 1, 0, 1, 1, 0]
def k85_24 : Code := .seq k85_100 k85_25
def k85_90 := cp kc85 [1, 1, 1, 1, 1, 1, 1, 1, 0, 0, 0, 1, 0, 0, 0]
def k85_46 : Code := .cond (.tmp 64) k85_47 k85_91
def k85_20 : Code := .seq k85_96 k85_21
def k85_19 : Code := .seq k85_99 k85_24
def k85_88 := cp kc85 [1, 1, 1, 1, 1, 1, 1, 1, 0, 0, 0, 0, 1, 0]
def k85_89 := cp kc85 [1, 1, 1, 1, 1, 1, 1, 1, 0, 0, 0, 0, 1, 1]
def k85_45 : Code := .seq k85_90 k85_46
def k85_18 : Code := .seq k85_20 k85_19
def k85_81 := cp kc85 [1, 1, 0, 0, 1, 1, 1, 1, 1, 1, 1, 0, 0]
def k85_70 := cp kc85 [1, 1, 0, 0, 1, 1, 1, 1, 1, 1, 1, 0, 1]
def k85_87 := cp kc85 [1, 1, 1, 1, 1, 1, 1, 1, 0, 0, 0, 0, 0]
def k85_16 : Code := .cond (.tmp 59) k85_88 k85_89
def k85_17 : Code := .seq k85_45 k85_18
def k85_69 : Code := .seq k85_81 k85_70
def k85_80 := cp kc85 [1, 1, 0, 0, 1, 1, 1, 1, 1, 1, 1, 1]
def k85_15 : Code := .seq k85_87 k85_16
def k85_14 : Code := .block 2 k85_17
def k85_78 := cp kc85 [1, 1, 0, 0, 1, 1, 1, 1, 1, 0, 0]
def k85_66 := cp kc85 [1, 1, 0, 0, 1, 1, 1, 1, 1, 0, 1]
def k85_79 := cp kc85 [1, 1, 0, 0, 1, 1, 1, 1, 1, 1, 0]
def k85_68 : Code := .cond (.tmp 36) k85_69 k85_80
def k85_13 : Code := .seq k85_15 k85_14
def k85_65 : Code := .seq k85_78 k85_66
def k85_67 : Code := .seq k85_79 k85_68
def k85_12 : Code := .loop k85_13
def k85_114 := cp kc85 [1, 1, 1, 1, 1, 1, 1, 1, 1, 0]
def k85_10 := cp kc85 [1, 1, 1, 1, 1, 1, 1, 1, 1, 1]
def k85_76 := cp kc85 [1, 1, 0, 0, 1, 1, 1, 0, 0]
def k85_62 := cp kc85 [1, 1, 0, 0, 1, 1, 1, 0, 1]
def k85_77 := cp kc85 [1, 1, 0, 0, 1, 1, 1, 1, 0]
def k85_64 : Code := .cond (.tmp 31) k85_65 k85_67
def k85_11 : Code := .block 1 k85_12
def k85_9 : Code := .seq k85_114 k85_10
def k85_61 : Code := .seq k85_76 k85_62
def k85_63 : Code := .seq k85_77 k85_64
def k85_86 := cp kc85 [1, 1, 1, 1, 1, 1, 1, 0]
def k85_8 : Code := .seq k85_11 k85_9
def k85_74 := cp kc85 [1, 1, 0, 0, 1, 0, 0]
def k85_58 := cp kc85 [1, 1, 0, 0, 1, 0, 1]
def k85_75 := cp kc85 [1, 1, 0, 0, 1, 1, 0]
def k85_60 : Code := .cond (.tmp 24) k85_61 k85_63
def k85_85 := cp kc85 [1, 1, 1, 1, 1, 1, 0]
def k85_7 : Code := .seq k85_86 k85_8
def k85_57 : Code := .seq k85_74 k85_58
def k85_59 : Code := .seq k85_75 k85_60
def k85_84 := cp kc85 [1, 1, 1, 1, 1, 0]
def k85_6 : Code := .seq k85_85 k85_7
def k85_73 := cp kc85 [1, 1, 0, 0, 0]
def k85_56 : Code := .cond (.tmp 16) k85_57 k85_59
def k85_83 := cp kc85 [1, 1, 1, 1, 0]
def k85_5 : Code := .seq k85_84 k85_6
def k85_55 : Code := .seq k85_73 k85_56
def k85_82 := cp kc85 [1, 1, 1, 0]
def k85_4 : Code := .seq k85_83 k85_5
def k85_54 : Code := .block 0 k85_55
def k85_3 : Code := .seq k85_82 k85_4
def k85_72 := cp kc85 [1, 0]
def k85_2 : Code := .seq k85_54 k85_3
def k85_71 := cp kc85 [0]
def k85_1 : Code := .seq k85_72 k85_2
def k85_0 : Code := .seq k85_71 k85_1
def p85_9 (cf : CallF) (lf : Nat) (h : Heap) : Ans :=
 some (.ret (.int .i64 (-1)), h)
theorem p85_9_ok (cf : CallF) (lf : Nat) (T : Tmps) (h : Heap) : execK E cf lf 143 k85_9 T h (finK E [.tmp 4]) = p85_9 cf lf h := by kernel_rfl
def p85_31 (cf : CallF) (lf : Nat) (F12 : Value → Value → Value → Value → Value → Value → Value → Value → Heap → Ans) (s8 : Value) (s12 : Value) (s114 : Value) (h : Heap) : Ans :=
 condV s114 (
  bindO (binB E 3 .add s12 s8) fun t117 =>
  some (.ret t117, h)
 ) (
  some (.ret (.int .i64 (-1)), h)
 )
theorem p85_31_ok (cf : CallF) (lf : Nat) (F12 : Value → Value → Value → Value → Value → Value → Value → Value → Heap → Ans) (T : Tmps) (h : Heap) : execK E cf lf 143 k85_31 T h (seqK (fun T h => execK E cf lf 143 k85_29 T h (blockK 2 (seqK (fun T h => F12 (T 0) (T 1) (T 5) (T 6) (T 7) (T 8) (T 9) (T 10) h) (blockK 1 (seqK (fun T h => p85_9 cf lf h) (finK E [.tmp 4])))))) (blockK 2 (seqK (fun T h => F12 (T 0) (T 1) (T 5) (T 6) (T 7) (T 8) (T 9) (T 10) h) (blockK 1 (seqK (fun T h => p85_9 cf lf h) (finK E [.tmp 4])))))) = p85_31 cf lf F12 (T 8) (T 12) (T 114) h := by kernel_rfl
def p85_36 (cf : CallF) (lf : Nat) (F12 : Value → Value → Value → Value → Value → Value → Value → Value → Heap → Ans) (s0 : Value) (s1 : Value) (s5 : Value) (s6 : Value) (s7 : Value) (s8 : Value) (s9 : Value) (s10 : Value) (s132 : Value) (h : Heap) : Ans :=
 condV s132 (
  bindO (sliceA E 9 s0 (some s8) none h) fun t135 =>
  bindR (cf 96 [t135, s1] h) (fun v h => some (.panic v, h)) fun t137 h =>
  bindO (binA E 3 .lss t137 (.int .i64 (0))) fun t139 =>
  condV t139 (
   some (.ret (.int .i64 (-1)), h)
  ) (
   bindO (binB E 3 .add s8 t137) fun t142 =>
   some (.ret t142, h)
  )
 ) (
  F12 s0 s1 s5 s6 s7 s8 s9 s10 h
 )
theorem p85_36_ok (cf : CallF) (lf : Nat) (F12 : Value → Value → Value → Value → Value → Value → Value → Value → Heap → Ans) (T : Tmps) (h : Heap) : execK E cf lf 143 k85_36 T h (blockK 2 (seqK (fun T h => F12 (T 0) (T 1) (T 5) (T 6) (T 7) (T 8) (T 9) (T 10) h) (blockK 1 (seqK (fun T h => p85_9 cf lf h) (finK E [.tmp 4]))))) = p85_36 cf lf F12 (T 0) (T 1) (T 5) (T 6) (T 7) (T 8) (T 9) (T 10) (T 132) h := by kernel_rfl
def p85_21 (cf : CallF) (lf : Nat) (F12 : Value → Value → Value → Value → Value → Value → Value → Value → Heap → Ans) (s0 : Value) (s1 : Value) (s5 : Value) (s6 : Value) (s7 : Value) (s8 : Value) (s9 : Value) (s10 : Value) (s93 : Value) (h : Heap) : Ans :=
 condV s93 (
  some (.ret s8, h)
 ) (
  bindO (binA E 3 .add s8 (.int .i64 (1))) fun t96 =>
  bindO (binA E 3 .add s10 (.int .i64 (1))) fun t98 =>
  bindO (loadA E 3 (.pointer (some ⟨1, 0, none⟩)) h) fun t100 =>
  bindO (binB E 3 .leq s5 t100) fun t101 =>
  bindO (gO (boolIs true t101) (some t98)) fun t103 =>
  bindO (gO (boolIs true t101) (some t96)) fun t104 =>
  bindR (gR (boolIs true t101) (cf 95 [t104] h) h) (fun v h => some (.panic v, h)) fun t105 h =>
  bindO (gO (boolIs true t101) (binB E 3 .gtr t103 t105)) fun t106 =>
  bindO (pickA t101 t106 (.bool false)) fun t107 =>
  condV t107 (
   bindO (sliceA E 9 s0 (some t96) none h) fun t110 =>
   bindR (cf 94 [t110, s1] h) (fun v h => some (.panic v, h)) fun t112 h =>
   bindO (binA E 3 .geq t112 (.int .i64 (0))) fun t114 =>
   p85_31 cf lf F12 t96 t112 t114 h
  ) (
   bindO (loadA E 3 (.pointer (some ⟨1, 0, none⟩)) h) fun t119 =>
   bindO (binB E 3 .gtr s5 t119) fun t120 =>
   bindO (gO (boolIs true t120) (some t98)) fun t122 =>
   bindO (gO (boolIs true t120) (some t96)) fun t123 =>
   bindO (gO (boolIs true t120) (binA E 3 .shr t123 (.int .u64 (4)))) fun t124 =>
   bindO (gO (boolIs true t120) (binA E 3 .add (.int .i64 (4)) t124)) fun t125 =>
   bindO (gO (boolIs true t120) (binB E 3 .geq t122 t125)) fun t126 =>
   bindO (pickA t120 t126 (.bool false)) fun t127 =>
   bindO (gO (boolIs true t127) (some t96)) fun t129 =>
   bindO (gO (boolIs true t127) (some s9)) fun t130 =>
   bindO (gO (boolIs true t127) (binB E 3 .lss t129 t130)) fun t131 =>
   bindO (pickA t127 t131 (.bool false)) fun t132 =>
   p85_36 cf lf F12 s0 s1 s5 s6 s7 t96 s9 t98 t132 h
  )
 )
theorem p85_21_ok (cf : CallF) (lf : Nat) (F12 : Value → Value → Value → Value → Value → Value → Value → Value → Heap → Ans) (T : Tmps) (h : Heap) : execK E cf lf 143 k85_21 T h (seqK (fun T h => execK E cf lf 143 k85_19 T h (blockK 2 (seqK (fun T h => F12 (T 0) (T 1) (T 5) (T 6) (T 7) (T 8) (T 9) (T 10) h) (blockK 1 (seqK (fun T h => p85_9 cf lf h) (finK E [.tmp 4])))))) (blockK 2 (seqK (fun T h => F12 (T 0) (T 1) (T 5) (T 6) (T 7) (T 8) (T 9) (T 10) h) (blockK 1 (seqK (fun T h => p85_9 cf lf h) (finK E [.tmp 4])))))) = p85_21 cf lf F12 (T 0) (T 1) (T 5) (T 6) (T 7) (T 8) (T 9) (T 10) (T 93) h := by simp only [k85_19, k85_21, k85_22, k85_24, k85_25, k85_26, k85_27, k85_28, k85_30, k85_35, execK_all, p85_31_ok, p85_36_ok]; delta p85_21; generalize p85_31 = G0; generalize p85_36 = G1; as_aux_lemma => kernel_rfl
def p85_18 (cf : CallF) (lf : Nat) (F12 : Value → Value → Value → Value → Value → Value → Value → Value → Heap → Ans) (s0 : Value) (s1 : Value) (s5 : Value) (s6 : Value) (s7 : Value) (s8 : Value) (s9 : Value) (s10 : Value) (h : Heap) : Ans :=
 bindO (binA E 3 .add s8 (.int .i64 (1))) fun t80 =>
 bindO (indexA E 9 s0 t80) fun t81 =>
 bindO (binB E 5 .eql t81 s7) fun t83 =>
 bindO (gO (boolIs true t83) (some s0)) fun t85 =>
 bindO (gO (boolIs true t83) (some s8)) fun t86 =>
 bindO (gO (boolIs true t83) (some s8)) fun t87 =>
 bindO (gO (boolIs true t83) (some s5)) fun t88 =>
 bindO (gO (boolIs true t83) (binB E 3 .add t87 t88)) fun t89 =>
 bindO (gO (boolIs true t83) (sliceA E 9 t85 (some t86) (some t89) h)) fun t90 =>
 bindO (gO (boolIs true t83) (some s1)) fun t91 =>
 bindO (gO (boolIs true t83) (binB E 9 .eql t90 t91)) fun t92 =>
 bindO (pickA t83 t92 (.bool false)) fun t93 =>
 p85_21 cf lf F12 s0 s1 s5 s6 s7 s8 s9 s10 t93 h
theorem p85_18_ok (cf : CallF) (lf : Nat) (F12 : Value → Value → Value → Value → Value → Value → Value → Value → Heap → Ans) (T : Tmps) (h : Heap) : execK E cf lf 143 k85_18 T h (blockK 2 (seqK (fun T h => F12 (T 0) (T 1) (T 5) (T 6) (T 7) (T 8) (T 9) (T 10) h) (blockK 1 (seqK (fun T h => p85_9 cf lf h) (finK E [.tmp 4]))))) = p85_18 cf lf F12 (T 0) (T 1) (T 5) (T 6) (T 7) (T 8) (T 9) (T 10) h := by simp only [k85_18, k85_20, execK_all, p85_21_ok]; delta p85_18; generalize p85_21 = G0; as_aux_lemma => kernel_rfl
def p85_46 (cf : CallF) (lf : Nat) (F12 : Value → Value → Value → Value → Value → Value → Value → Value → Heap → Ans) (s0 : Value) (s1 : Value) (s5 : Value) (s6 : Value) (s7 : Value) (s8 : Value) (s9 : Value) (s10 : Value) (s64 : Value) (h : Heap) : Ans :=
 condV s64 (
  bindO (binA E 3 .add s8 (.int .i64 (1))) fun t67 =>
  bindO (sliceA E 9 s0 (some t67) (some s9) h) fun t69 =>
  bindR (cf 87 [t69, s6] h) (fun v h => some (.panic v, h)) fun t71 h =>
  bindO (binA E 3 .lss t71 (.int .i64 (0))) fun t73 =>
  condV t73 (
   some (.ret (.int .i64 (-1)), h)
  ) (
   bindO (binA E 3 .add t71 (.int .i64 (1))) fun t76 =>
   bindO (binB E 3 .add s8 t76) fun t77 =>
   p85_18 cf lf F12 s0 s1 s5 s6 s7 t77 s9 s10 h
  )
 ) (
  p85_18 cf lf F12 s0 s1 s5 s6 s7 s8 s9 s10 h
 )
theorem p85_46_ok (cf : CallF) (lf : Nat) (F12 : Value → Value → Value → Value → Value → Value → Value → Value → Heap → Ans) (T : Tmps) (h : Heap) : execK E cf lf 143 k85_46 T h (seqK (fun T h => p85_18 cf lf F12 (T 0) (T 1) (T 5) (T 6) (T 7) (T 8) (T 9) (T 10) h) (blockK 2 (seqK (fun T h => F12 (T 0) (T 1) (T 5) (T 6) (T 7) (T 8) (T 9) (T 10) h) (blockK 1 (seqK (fun T h => p85_9 cf lf h) (finK E [.tmp 4])))))) = p85_46 cf lf F12 (T 0) (T 1) (T 5) (T 6) (T 7) (T 8) (T 9) (T 10) (T 64) h := by kernel_rfl
def p85_13 (cf : CallF) (lf : Nat) (F12 : Value → Value → Value → Value → Value → Value → Value → Value → Heap → Ans) (s0 : Value) (s1 : Value) (s5 : Value) (s6 : Value) (s7 : Value) (s8 : Value) (s9 : Value) (s10 : Value) (h : Heap) : Ans :=
 bindO (binB E 3 .lss s8 s9) fun t59 =>
 condV t59 (
  bindO (indexA E 9 s0 s8) fun t62 =>
  bindO (binB E 5 .neq t62 s6) fun t64 =>
  p85_46 cf lf F12 s0 s1 s5 s6 s7 s8 s9 s10 t64 h
 ) (
  p85_9 cf lf h
 )
theorem p85_13_ok (cf : CallF) (lf : Nat) (F12 : Value → Value → Value → Value → Value → Value → Value → Value → Heap → Ans) (T : Tmps) (h : Heap) : execK E cf lf 143 k85_13 T h (seqK (fun T h => F12 (T 0) (T 1) (T 5) (T 6) (T 7) (T 8) (T 9) (T 10) h) (blockK 1 (seqK (fun T h => p85_9 cf lf h) (finK E [.tmp 4])))) = p85_13 cf lf F12 (T 0) (T 1) (T 5) (T 6) (T 7) (T 8) (T 9) (T 10) h := by simp only [k85_13, k85_14, k85_15, k85_16, k85_17, k85_45, execK_all, p85_18_ok, p85_46_ok]; delta p85_13; generalize p85_18 = G0; generalize p85_46 = G1; as_aux_lemma => kernel_rfl
def l85_12 (cf : CallF) (lf : Nat) : Nat → Value → Value → Value → Value → Value → Value → Value → Value → Heap → Ans
 | 0, _, _, _, _, _, _, _, _, _ => none
 | n + 1, s0, s1, s5, s6, s7, s8, s9, s10, h => p85_13 cf lf (l85_12 cf lf n) s0 s1 s5 s6 s7 s8 s9 s10 h
theorem l85_12_ok (cf : CallF) (lf : Nat) (n : Nat) : ∀ (T : Tmps) (h : Heap), iterK (fun T h K => execK E cf lf 143 k85_13 T h K) (blockK 1 (seqK (fun T h => p85_9 cf lf h) (finK E [.tmp 4]))) n T h = l85_12 cf lf n (T 0) (T 1) (T 5) (T 6) (T 7) (T 8) (T 9) (T 10) h := by
 induction n with
 | zero => intro T h; rfl
 | succ n ih =>
  intro T h
  rw [iterK_succ, show iterK (fun T h K => execK E cf lf 143 k85_13 T h K) (blockK 1 (seqK (fun T h => p85_9 cf lf h) (finK E [.tmp 4]))) n = (fun T h => l85_12 cf lf n (T 0) (T 1) (T 5) (T 6) (T 7) (T 8) (T 9) (T 10) h) from funext fun T => funext fun h => ih T h]
  exact p85_13_ok cf lf (l85_12 cf lf n) T h
def p85_3 (cf : CallF) (lf : Nat) (s0 : Value) (s1 : Value) (s5 : Value) (h : Heap) : Ans :=
 bindO (indexA E 9 s1 (.int .i64 (0))) fun t49 =>
 bindO (indexA E 9 s1 (.int .i64 (1))) fun t51 =>
 bindO (lenA E 9 s0) fun t53 =>
 bindO (binB E 3 .sub t53 s5) fun t55 =>
 bindO (binA E 3 .add t55 (.int .i64 (1))) fun t56 =>
 l85_12 cf lf lf s0 s1 s5 t49 t51 (.int .i64 (0)) t56 (.int .i64 (0)) h
theorem p85_3_ok (cf : CallF) (lf : Nat) (T : Tmps) (h : Heap) : execK E cf lf 143 k85_3 T h (finK E [.tmp 4]) = p85_3 cf lf (T 0) (T 1) (T 5) h := by simp only [k85_11, k85_12, k85_3, k85_4, k85_5, k85_6, k85_7, k85_8, execK_all, l85_12_ok, p85_9_ok]; delta p85_3; generalize l85_12 = G0; generalize p85_9 = G1; as_aux_lemma => kernel_rfl
def p85_56 (cf : CallF) (lf : Nat) (s0 : Value) (s1 : Value) (s5 : Value) (s16 : Value) (h : Heap) : Ans :=
 condV s16 (
  some (.ret (.int .i64 (0)), h)
 ) (
  bindO (binA E 3 .eql s5 (.int .i64 (1))) fun t26 =>
  condV t26 (
   bindO (indexA E 9 s1 (.int .i64 (0))) fun t29 =>
   bindR (cf 87 [s0, t29] h) (fun v h => some (.panic v, h)) fun t30 h =>
   some (.ret t30, h)
  ) (
   bindO (lenA E 9 s0) fun t34 =>
   bindO (binB E 3 .geq s5 t34) fun t35 =>
   condV t35 (
    some (.ret (.int .i64 (-1)), h)
   ) (
    bindO (loadA E 3 (.pointer (some ⟨1, 0, none⟩)) h) fun t38 =>
    bindO (binB E 3 .leq s5 t38) fun t39 =>
    bindO (gO (boolIs true t39) (some s0)) fun t41 =>
    bindO (gO (boolIs true t39) (lenA E 9 t41)) fun t42 =>
    bindO (gO (boolIs true t39) (binA E 3 .leq t42 (.int .i64 (64)))) fun t43 =>
    bindO (pickA t39 t43 (.bool false)) fun t44 =>
    condV t44 (
     bindR (cf 94 [s0, s1] h) (fun v h => some (.panic v, h)) fun t47 h =>
     some (.ret t47, h)
    ) (
     p85_3 cf lf s0 s1 s5 h
    )
   )
  )
 )
theorem p85_56_ok (cf : CallF) (lf : Nat) (T : Tmps) (h : Heap) : execK E cf lf 143 k85_56 T h (blockK 0 (seqK (fun T h => p85_3 cf lf (T 0) (T 1) (T 5) h) (finK E [.tmp 4]))) = p85_56 cf lf (T 0) (T 1) (T 5) (T 16) h := by kernel_rfl
def p85_0 (cf : CallF) (lf : Nat) (s0 : Value) (s1 : Value) (h : Heap) : Ans :=
 bindO (lenA E 9 s1) fun t15 =>
 bindO (binA E 3 .eql t15 (.int .i64 (0))) fun t18 =>
 bindO (gO (boolIs false t18) (some s1)) fun t20 =>
 bindO (gO (boolIs false t18) (some s0)) fun t21 =>
 bindO (gO (boolIs false t18) (binB E 9 .eql t20 t21)) fun t22 =>
 bindO (pickA t18 (.bool true) t22) fun t23 =>
 p85_56 cf lf s0 s1 t15 t23 h
theorem p85_0_ok (cf : CallF) (lf : Nat) (T : Tmps) (h : Heap) : execK E cf lf 143 k85_0 T h (finK E [.tmp 4]) = p85_0 cf lf (T 0) (T 1) h := by simp only [k85_0, k85_1, k85_2, k85_54, k85_55, execK_all, p85_3_ok, p85_56_ok]; delta p85_0; generalize p85_3 = G0; generalize p85_56 = G1; as_aux_lemma => kernel_rfl
def f85 (cf : CallF) (lf : Nat) (a0 : Value) (a1 : Value) (h : Heap) : Ans := p85_0 cf lf a0 a1 h
theorem f85_ok (cf : CallF) (lf : Nat) (a0 a1 : Value) (h : Heap) : stepN E cf lf 85 [a0, a1] h = f85 cf lf a0 a1 h := (show stepN E cf lf 85 [a0, a1] h = execK E cf lf 143 k85_0 (T0 [a0, a1]) h (finK E [.tmp 4]) by kernel_rfl).trans ((p85_0_ok cf lf (T0 [a0, a1]) h).trans (by kernel_rfl))
def f87 (cf : CallF) (lf : Nat) (a0 : Value) (a1 : Value) (h : Heap) : Ans :=
 bindR (callA E cf (.func (.func 97) ⟨[]⟩ ⟨[]⟩) [a0, a1] h) (fun v h => some (.panic v, h)) fun t7 h =>
 some (.ret t7, h)
theorem f87_ok (cf : CallF) (lf : Nat) (a0 a1 : Value) (h : Heap) : stepN E cf lf 87 [a0, a1] h = f87 cf lf a0 a1 h := by kernel_rfl
noncomputable def kc88 := codeOf Tryd.f88
def k88_53 := cp kc88 [0, 1, 0, 0, 1, 0, 1, 1, 1, 0, 1, 1, 1, 1, 1, 1, 1, 1, 1, 0, 1, 1, 0]
def k88_54 := cp kc88 [0, 1, 0, 0, 1, 0, 1, 1, 1, 0, 1, 1, 1, 1, 1, 1, 1, 1, 1, 0, 1, 1, 1]
def k88_52 := cp kc88 [0, 1, 0, 0, 1, 0, 1, 1, 1, 0, 1, 1, 1, 1, 1, 1, 1, 1, 1, 0, 1, 0]
def k88_30 : Code := .cond (.tmp 74) k88_53 k88_54
def k88_51 := cp kc88 [0, 1, 0, 0, 1, 0, 1, 1, 1, 0, 1, 1, 1, 1, 1, 1, 1, 1, 1, 0, 0]
def k88_29 : Code := .seq k88_52 k88_30
def k88_28 : Code := .seq k88_51 k88_29
def k88_50 := cp kc88 [0, 1, 0, 0, 1, 0, 1, 1, 1, 0, 1, 1, 1, 1, 1, 1, 1, 1, 1, 1]
def k88_49 := cp kc88 [0, 1, 0, 0, 1, 0, 1, 1, 1, 0, 1, 1, 1, 1, 1, 1, 1, 1, 0]
def k88_27 : Code := .cond (.tmp 69) k88_28 k88_50
def k88_43 := cp kc88 [0, 1, 0, 0, 1, 0, 1, 1, 1, 0, 1, 1, 1, 0, 1, 0, 1, 0]
def k88_44 := cp kc88 [0, 1, 0, 0, 1, 0, 1, 1, 1, 0, 1, 1, 1, 0, 1, 0, 1, 1]
def k88_48 := cp kc88 [0, 1, 0, 0, 1, 0, 1, 1, 1, 0, 1, 1, 1, 1, 1, 1, 1, 0]
def k88_26 : Code := .seq k88_49 k88_27
def k88_42 := cp kc88 [0, 1, 0, 0, 1, 0, 1, 1, 1, 0, 1, 1, 1, 0, 1, 0, 0]
def k88_21 : Code := .cond (.tmp 48) k88_43 k88_44
def k88_47 := cp kc88 [0, 1, 0, 0, 1, 0, 1, 1, 1, 0, 1, 1, 1, 1, 1, 1, 0]
def k88_25 : Code := .cond (.tmp 65) k88_48 k88_26
def k88_20 : Code := .seq k88_42 k88_21
def k88_19 := cp kc88 [0, 1, 0, 0, 1, 0, 1, 1, 1, 0, 1, 1, 1, 0, 1, 1]
def k88_46 := cp kc88 [0, 1, 0, 0, 1, 0, 1, 1, 1, 0, 1, 1, 1, 1, 1, 0]
def k88_24 : Code := .seq k88_47 k88_25
def k88_41 := cp kc88 [0, 1, 0, 0, 1, 0, 1, 1, 1, 0, 1, 1, 1, 0, 0]
def k88_18 : Code := .seq k88_20 k88_19
def k88_45 := cp kc88 [0, 1, 0, 0, 1, 0, 1, 1, 1, 0, 1, 1, 1, 1, 0]
def k88_23 : Code := .cond (.tmp 60) k88_46 k88_24
def k88_17 : Code := .seq k88_41 k88_18
def k88_22 : Code := .seq k88_45 k88_23
def k88_40 := cp kc88 [0, 1, 0, 0, 1, 0, 1, 1, 1, 0, 1, 1, 0]
def k88_16 : Code := .cond (.tmp 35) k88_17 k88_22
def k88_39 := cp kc88 [0, 1, 0, 0, 1, 0, 1, 1, 1, 0, 1, 0]
def k88_15 : Code := .seq k88_40 k88_16
def k88_38 := cp kc88 [0, 1, 0, 0, 1, 0, 1, 1, 1, 0, 0]
def k88_14 : Code := .cond (.tmp 26) k88_39 k88_15
def k88_13 : Code := .seq k88_38 k88_14
def k88_37 := cp kc88 [0, 1, 0, 0, 1, 0, 1, 1, 0]
def k88_12 : Code := .block 2 k88_13
def k88_36 := cp kc88 [0, 1, 0, 0, 1, 0, 1, 0]
def k88_11 : Code := .seq k88_37 k88_12
def k88_33 := cp kc88 [0, 1, 0, 0, 0, 1, 0]
def k88_34 := cp kc88 [0, 1, 0, 0, 0, 1, 1]
def k88_35 := cp kc88 [0, 1, 0, 0, 1, 0, 0]
def k88_10 : Code := .seq k88_36 k88_11
def k88_32 := cp kc88 [0, 1, 0, 0, 0, 0]
def k88_8 : Code := .cond (.tmp 8) k88_33 k88_34
def k88_9 : Code := .seq k88_35 k88_10
def k88_7 : Code := .seq k88_32 k88_8
def k88_6 : Code := .block 1 k88_9
def k88_5 : Code := .seq k88_7 k88_6
def k88_4 : Code := .loop k88_5
def k88_31 := cp kc88 [0, 0]
def k88_3 : Code := .block 0 k88_4
def k88_2 : Code := .seq k88_31 k88_3
def k88_1 := cp kc88 [1]
def k88_0 : Code := .seq k88_2 k88_1
def p88_1 (cf : CallF) (lf : Nat) (s1 : Value) (h : Heap) : Ans :=
 bindR (cf 25 [(.int .i64 (19)), s1] h) (fun v h => some (.panic v, h)) fun t76 h =>
 some (.ret (.tuple ⟨[]⟩), h)
theorem p88_1_ok (cf : CallF) (lf : Nat) (T : Tmps) (h : Heap) : execK E cf lf 77 k88_1 T h (finK E []) = p88_1 cf lf (T 1) h := by kernel_rfl
def p88_19 (cf : CallF) (lf : Nat) (F4 : Value → Value → Value → Heap → Ans) (s0 : Value) (s1 : Value) (s4 : Value) (s6 : Value) (h : Heap) : Ans :=
 bindO (nilA s0) fun t52 =>
 bindO (fieldAddrA E 57 t52 1) fun t53 =>
 bindO (loadA E 3 t53 h) fun t54 =>
 bindO (binA E 3 .add s6 (.int .i64 (1))) fun t56 =>
 bindO (binB E 3 .add t54 t56) fun t57 =>
 bindO (nilA s0) fun t58 =>
 bindO (fieldAddrA E 57 t58 1) fun t59 =>
 bindR (skipR (storeA E 3 t59 t57 h)) (fun v h => some (.panic v, h)) fun _ h =>
 F4 s0 s1 s4 h
theorem p88_19_ok (cf : CallF) (lf : Nat) (F4 : Value → Value → Value → Heap → Ans) (T : Tmps) (h : Heap) : execK E cf lf 77 k88_19 T h (blockK 2 (blockK 1 (seqK (fun T h => F4 (T 0) (T 1) (T 4) h) (blockK 0 (seqK (fun T h => p88_1 cf lf (T 1) h) (finK E [])))))) = p88_19 cf lf F4 (T 0) (T 1) (T 4) (T 6) h := by kernel_rfl
def p88_18 (cf : CallF) (lf : Nat) (F4 : Value → Value → Value → Heap → Ans) (s0 : Value) (s1 : Value) (s4 : Value) (s6 : Value) (h : Heap) : Ans :=
 bindO (binA E 3 .lss s6 (.int .i64 (0))) fun t48 =>
 condV t48 (
  bindR (cf 25 [(.int .i64 (19)), s1] h) (fun v h => some (.panic v, h)) fun t50 h =>
  p88_19 cf lf F4 s0 s1 s4 s6 h
 ) (
  p88_19 cf lf F4 s0 s1 s4 s6 h
 )
theorem p88_18_ok (cf : CallF) (lf : Nat) (F4 : Value → Value → Value → Heap → Ans) (T : Tmps) (h : Heap) : execK E cf lf 77 k88_18 T h (blockK 2 (blockK 1 (seqK (fun T h => F4 (T 0) (T 1) (T 4) h) (blockK 0 (seqK (fun T h => p88_1 cf lf (T 1) h) (finK E [])))))) = p88_18 cf lf F4 (T 0) (T 1) (T 4) (T 6) h := by simp only [k88_18, k88_20, k88_21, execK_all, p88_19_ok]; delta p88_18; generalize p88_19 = G0; as_aux_lemma => kernel_rfl
def p88_23 (cf : CallF) (lf : Nat) (F4 : Value → Value → Value → Heap → Ans) (s0 : Value) (s1 : Value) (s4 : Value) (s25 : Value) (s60 : Value) (h : Heap) : Ans :=
 condV s60 (
  bindR (cf 98 [s0, s1] h) (fun v h => some (.panic v, h)) fun t64 h =>
  F4 s0 s1 s4 h
 ) (
  bindO (binA E 5 .eql s25 (.int .u8 (40))) fun t66 =>
  condV t66 (
   bindO (binA E 3 .add s4 (.int .i64 (1))) fun t68 =>
   F4 s0 s1 t68 h
  ) (
   bindO (binA E 5 .eql s25 (.int .u8 (41))) fun t70 =>
   condV t70 (
    bindO (binA E 3 .sub s4 (.int .i64 (1))) fun t72 =>
    bindO (binA E 3 .eql t72 (.int .i64 (0))) fun t74 =>
    condV t74 (
     some (.ret (.tuple ⟨[]⟩), h)
    ) (
     F4 s0 s1 t72 h
    )
   ) (
    F4 s0 s1 s4 h
   )
  )
 )
theorem p88_23_ok (cf : CallF) (lf : Nat) (F4 : Value → Value → Value → Heap → Ans) (T : Tmps) (h : Heap) : execK E cf lf 77 k88_23 T h (blockK 2 (blockK 1 (seqK (fun T h => F4 (T 0) (T 1) (T 4) h) (blockK 0 (seqK (fun T h => p88_1 cf lf (T 1) h) (finK E [])))))) = p88_23 cf lf F4 (T 0) (T 1) (T 4) (T 25) (T 60) h := by kernel_rfl
def p88_5 (cf : CallF) (lf : Nat) (F4 : Value → Value → Value → Heap → Ans) (s0 : Value) (s1 : Value) (s4 : Value) (h : Heap) : Ans :=
 bindR (cf 24 [s0] h) (fun v h => some (.panic v, h)) fun t8 h =>
 condV t8 (
  bindO (nilA s0) fun t10 =>
  bindO (fieldAddrA E 57 t10 0) fun t11 =>
  bindO (loadA E 9 t11 h) fun t12 =>
  bindO (nilA s0) fun t14 =>
  bindO (fieldAddrA E 57 t14 1) fun t15 =>
  bindO (loadA E 3 t15 h) fun t16 =>
  bindO (indexA E 9 t12 t16) fun t17 =>
  bindO (nilA s0) fun t19 =>
  bindO (fieldAddrA E 57 t19 1) fun t20 =>
  bindO (loadA E 3 t20 h) fun t21 =>
  bindO (binA E 3 .add t21 (.int .i64 (1))) fun t22 =>
  bindO (nilA s0) fun t23 =>
  bindO (fieldAddrA E 57 t23 1) fun t24 =>
  bindR (skipR (storeA E 3 t24 t22 h)) (fun v h => some (.panic v, h)) fun _ h =>
  bindO (binA E 5 .eql t17 (.int .u8 (92))) fun t27 =>
  condV t27 (
   bindO (nilA s0) fun t29 =>
   bindO (fieldAddrA E 57 t29 1) fun t30 =>
   bindO (loadA E 3 t30 h) fun t31 =>
   bindO (binA E 3 .add t31 (.int .i64 (1))) fun t32 =>
   bindO (nilA s0) fun t33 =>
   bindO (fieldAddrA E 57 t33 1) fun t34 =>
   bindR (skipR (storeA E 3 t34 t32 h)) (fun v h => some (.panic v, h)) fun _ h =>
   F4 s0 s1 s4 h
  ) (
   bindO (binA E 5 .eql t17 (.int .u8 (39))) fun t36 =>
   condV t36 (
    bindO (nilA s0) fun t38 =>
    bindO (fieldAddrA E 57 t38 0) fun t39 =>
    bindO (loadA E 9 t39 h) fun t40 =>
    bindO (nilA s0) fun t42 =>
    bindO (fieldAddrA E 57 t42 1) fun t43 =>
    bindO (loadA E 3 t43 h) fun t44 =>
    bindO (sliceA E 9 t40 (some t44) none h) fun t45 =>
    bindR (cf 73 [t45, (.int .u8 (39))] h) (fun v h => some (.panic v, h)) fun t46 h =>
    p88_18 cf lf F4 s0 s1 s4 t46 h
   ) (
    bindO (binA E 5 .eql t17 (.int .u8 (34))) fun t61 =>
    p88_23 cf lf F4 s0 s1 s4 t17 t61 h
   )
  )
 ) (
  p88_1 cf lf s1 h
 )
theorem p88_5_ok (cf : CallF) (lf : Nat) (F4 : Value → Value → Value → Heap → Ans) (T : Tmps) (h : Heap) : execK E cf lf 77 k88_5 T h (seqK (fun T h => F4 (T 0) (T 1) (T 4) h) (blockK 0 (seqK (fun T h => p88_1 cf lf (T 1) h) (finK E [])))) = p88_5 cf lf F4 (T 0) (T 1) (T 4) h := by simp only [k88_10, k88_11, k88_12, k88_13, k88_14, k88_15, k88_16, k88_17, k88_22, k88_5, k88_6, k88_7, k88_8, k88_9, execK_all, p88_18_ok, p88_23_ok]; delta p88_5; generalize p88_18 = G0; generalize p88_23 = G1; as_aux_lemma => kernel_rfl
def l88_4 (cf : CallF) (lf : Nat) : Nat → Value → Value → Value → Heap → Ans
 | 0, _, _, _, _ => none
 | n + 1, s0, s1, s4, h => p88_5 cf lf (l88_4 cf lf n) s0 s1 s4 h
theorem l88_4_ok (cf : CallF) (lf : Nat) (n : Nat) : ∀ (T : Tmps) (h : Heap), iterK (fun T h K => execK E cf lf 77 k88_5 T h K) (blockK 0 (seqK (fun T h => p88_1 cf lf (T 1) h) (finK E []))) n T h = l88_4 cf lf n (T 0) (T 1) (T 4) h := by
 induction n with
 | zero => intro T h; rfl
 | succ n ih =>
  intro T h
  rw [iterK_succ, show iterK (fun T h K => execK E cf lf 77 k88_5 T h K) (blockK 0 (seqK (fun T h => p88_1 cf lf (T 1) h) (finK E []))) n = (fun T h => l88_4 cf lf n (T 0) (T 1) (T 4) h) from funext fun T => funext fun h => ih T h]
  exact p88_5_ok cf lf (l88_4 cf lf n) T h
def p88_3 (cf : CallF) (lf : Nat) (s0 : Value) (s1 : Value) (s4 : Value) (h : Heap) : Ans :=
 l88_4 cf lf lf s0 s1 s4 h
theorem p88_3_ok (cf : CallF) (lf : Nat) (T : Tmps) (h : Heap) : execK E cf lf 77 k88_3 T h (seqK (fun T h => p88_1 cf lf (T 1) h) (finK E [])) = p88_3 cf lf (T 0) (T 1) (T 4) h := by simp only [k88_3, k88_4, execK_all, l88_4_ok]; delta p88_3; generalize l88_4 = G0; as_aux_lemma => kernel_rfl
def p88_0 (cf : CallF) (lf : Nat) (s0 : Value) (s1 : Value) (h : Heap) : Ans :=
 p88_3 cf lf s0 s1 (.int .i64 (1)) h
theorem p88_0_ok (cf : CallF) (lf : Nat) (T : Tmps) (h : Heap) : execK E cf lf 77 k88_0 T h (finK E []) = p88_0 cf lf (T 0) (T 1) h := by simp only [k88_0, k88_2, execK_all, p88_1_ok, p88_3_ok]; delta p88_0; generalize p88_1 = G0; generalize p88_3 = G1; as_aux_lemma => kernel_rfl
def f88 (cf : CallF) (lf : Nat) (a0 : Value) (a1 : Value) (h : Heap) : Ans := p88_0 cf lf a0 a1 h
theorem f88_ok (cf : CallF) (lf : Nat) (a0 a1 : Value) (h : Heap) : stepN E cf lf 88 [a0, a1] h = f88 cf lf a0 a1 h := (show stepN E cf lf 88 [a0, a1] h = execK E cf lf 77 k88_0 (T0 [a0, a1]) h (finK E []) by kernel_rfl).trans ((p88_0_ok cf lf (T0 [a0, a1]) h).trans (by kernel_rfl))
noncomputable def kc89 := codeOf Tryd.f89
def k89_72 := cp kc89 [1, 1, 1, 1, 1, 1, 1, 1, 1, 1, 1, 1, 1, 1, 0, 1, 0]
def k89_73 := cp kc89 [1, 1, 1, 1, 1, 1, 1, 1, 1, 1, 1, 1, 1, 1, 0, 1, 1]
def k89_71 := cp kc89 [1, 1, 1, 1, 1, 1, 1, 1, 1, 1, 1, 1, 1, 1, 0, 0]
def k89_22 : Code := .cond (.tmp 76) k89_72 k89_73
def k89_74 := cp kc89 [1, 1, 1, 1, 1, 1, 1, 1, 1, 1, 1, 1, 1, 1, 1, 0]
def k89_20 := cp kc89 [1, 1, 1, 1, 1, 1, 1, 1, 1, 1, 1, 1, 1, 1, 1, 1]
def k89_68 := cp kc89 [1, 1, 1, 1, 1, 1, 1, 1, 1, 1, 1, 1, 0, 1, 0]
def k89_69 := cp kc89 [1, 1, 1, 1, 1, 1, 1, 1, 1, 1, 1, 1, 0, 1, 1]
def k89_21 : Code := .seq k89_71 k89_22
def k89_19 : Code := .seq k89_74 k89_20
def k89_67 := cp kc89 [1, 1, 1, 1, 1, 1, 1, 1, 1, 1, 1, 1, 0, 0]
def k89_24 : Code := .cond (.tmp 67) k89_68 k89_69
def k89_70 := cp kc89 [1, 1, 1, 1, 1, 1, 1, 1, 1, 1, 1, 1, 1, 0]
def k89_18 : Code := .seq k89_21 k89_19
def k89_53 := cp kc89 [1, 1, 1, 1, 0, 1, 0, 0, 1, 1, 0, 1, 0]
def k89_38 := cp kc89 [1, 1, 1, 1, 0, 1, 0, 0, 1, 1, 0, 1, 1]
def k89_23 : Code := .seq k89_67 k89_24
def k89_17 : Code := .seq k89_70 k89_18
def k89_52 := cp kc89 [1, 1, 1, 1, 0, 1, 0, 0, 1, 1, 0, 0]
def k89_37 : Code := .seq k89_53 k89_38
def k89_63 := cp kc89 [1, 1, 1, 1, 1, 1, 1, 1, 1, 0, 1, 0]
def k89_64 := cp kc89 [1, 1, 1, 1, 1, 1, 1, 1, 1, 0, 1, 1]
def k89_66 := cp kc89 [1, 1, 1, 1, 1, 1, 1, 1, 1, 1, 1, 0]
def k89_16 : Code := .seq k89_23 k89_17
def k89_36 : Code := .seq k89_52 k89_37
def k89_51 := cp kc89 [1, 1, 1, 1, 0, 1, 0, 0, 1, 1, 1]
def k89_60 := cp kc89 [1, 1, 1, 1, 1, 1, 1, 0, 1, 0, 0]
def k89_12 := cp kc89 [1, 1, 1, 1, 1, 1, 1, 0, 1, 0, 1]
def k89_62 := cp kc89 [1, 1, 1, 1, 1, 1, 1, 1, 1, 0, 0]
def k89_26 : Code := .cond (.tmp 58) k89_63 k89_64
def k89_65 := cp kc89 [1, 1, 1, 1, 1, 1, 1, 1, 1, 1, 0]
def k89_15 : Code := .seq k89_66 k89_16
def k89_50 := cp kc89 [1, 1, 1, 1, 0, 1, 0, 0, 1, 0]
def k89_35 : Code := .cond (.tmp 35) k89_36 k89_51
def k89_11 : Code := .seq k89_60 k89_12
def k89_59 := cp kc89 [1, 1, 1, 1, 1, 1, 1, 0, 1, 1]
def k89_25 : Code := .seq k89_62 k89_26
def k89_14 : Code := .seq k89_65 k89_15
def k89_49 := cp kc89 [1, 1, 1, 1, 0, 1, 0, 0, 0]
def k89_34 : Code := .seq k89_50 k89_35
def k89_56 := cp kc89 [1, 1, 1, 1, 1, 1, 0, 1, 0]
def k89_57 := cp kc89 [1, 1, 1, 1, 1, 1, 0, 1, 1]
def k89_58 := cp kc89 [1, 1, 1, 1, 1, 1, 1, 0, 0]
def k89_10 : Code := .cond (.tmp 51) k89_11 k89_59
def k89_61 := cp kc89 [1, 1, 1, 1, 1, 1, 1, 1, 0]
def k89_13 : Code := .seq k89_25 k89_14
def k89_33 : Code := .seq k89_49 k89_34
def k89_32 := cp kc89 [1, 1, 1, 1, 0, 1, 0, 1]
def k89_55 := cp kc89 [1, 1, 1, 1, 1, 1, 0, 0]
def k89_28 : Code := .cond (.tmp 47) k89_56 k89_57
def k89_9 : Code := .seq k89_58 k89_10
def k89_8 : Code := .seq k89_61 k89_13
def k89_31 : Code := .seq k89_33 k89_32
def k89_48 := cp kc89 [1, 1, 1, 1, 0, 1, 1]
def k89_27 : Code := .seq k89_55 k89_28
def k89_7 : Code := .seq k89_9 k89_8
def k89_47 := cp kc89 [1, 1, 1, 1, 0, 0]
def k89_30 : Code := .cond (.tmp 25) k89_31 k89_48
def k89_54 := cp kc89 [1, 1, 1, 1, 1, 0]
def k89_6 : Code := .seq k89_27 k89_7
def k89_29 : Code := .seq k89_47 k89_30
def k89_5 : Code := .seq k89_54 k89_6
def k89_43 := cp kc89 [1, 0, 1, 0]
def k89_44 := cp kc89 [1, 0, 1, 1]
def k89_46 := cp kc89 [1, 1, 1, 0]
def k89_4 : Code := .seq k89_29 k89_5
def k89_42 := cp kc89 [1, 0, 0]
def k89_40 : Code := .cond (.tmp 14) k89_43 k89_44
def k89_45 := cp kc89 [1, 1, 0]
def k89_3 : Code := .seq k89_46 k89_4
def k89_39 : Code := .seq k89_42 k89_40
def k89_2 : Code := .seq k89_45 k89_3
def k89_41 := cp kc89 [0]
def k89_1 : Code := .seq k89_39 k89_2
def k89_0 : Code := .seq k89_41 k89_1
def p89_19 (cf : CallF) (lf : Nat) (s8 : Value) (s9 : Value) (h : Heap) : Ans :=
 bindO (loadA E 49 s9 h) fun t79 =>
 bindR (skipR (storeA E 49 s8 t79 h)) (fun v h => some (.panic v, h)) fun _ h =>
 bindO (loadA E 49 s8 h) fun tr8 =>
 some (.ret tr8, h)
theorem p89_19_ok (cf : CallF) (lf : Nat) (T : Tmps) (h : Heap) : execK E cf lf 80 k89_19 T h (finK E [.cell 8 49]) = p89_19 cf lf (T 8) (T 9) h := by kernel_rfl
def p89_17 (cf : CallF) (lf : Nat) (s0 : Value) (s1 : Value) (s3 : Value) (s8 : Value) (s9 : Value) (s12 : Value) (h : Heap) : Ans :=
 bindO (binA E 3 .add s3 (.int .i64 (1))) fun t71 =>
 bindR (cf 49 [s0, s12, t71] h) (fun v h => some (.panic v, h)) fun t72 h =>
 bindO (fieldAddrA E 49 s9 4) fun t73 =>
 bindR (skipR (storeA E 37 t73 t72 h)) (fun v h => some (.panic v, h)) fun _ h =>
 bindR (cf 23 [s0, (.string (mkS [125]))] h) (fun v h => some (.panic v, h)) fun t75 h =>
 bindO (unA .not t75) fun t76 =>
 condV t76 (
  bindR (cf 25 [(.int .i64 (19)), s1] h) (fun v h => some (.panic v, h)) fun t78 h =>
  p89_19 cf lf s8 s9 h
 ) (
  p89_19 cf lf s8 s9 h
 )
theorem p89_17_ok (cf : CallF) (lf : Nat) (T : Tmps) (h : Heap) : execK E cf lf 80 k89_17 T h (finK E [.cell 8 49]) = p89_17 cf lf (T 0) (T 1) (T 3) (T 8) (T 9) (T 12) h := by simp only [k89_17, k89_18, k89_21, k89_22, execK_all, p89_19_ok]; delta p89_17; generalize p89_19 = G0; as_aux_lemma => kernel_rfl
def p89_14 (cf : CallF) (lf : Nat) (s0 : Value) (s1 : Value) (s2 : Value) (s3 : Value) (s8 : Value) (s9 : Value) (s11 : Value) (h : Heap) : Ans :=
 bindR (cf 99 [] h) (fun v h => some (.panic v, h)) fun t61 h =>
 bindO (indexAddrA E 40 t61 s11) fun t63 =>
 bindO (loadA E 9 t63 h) fun t64 =>
 bindO (fieldAddrA E 49 s9 2) fun t65 =>
 bindR (skipR (storeA E 9 t65 t64 h)) (fun v h => some (.panic v, h)) fun _ h =>
 bindR (cf 68 [s2] h) (fun v h => some (.panic v, h)) fun t67 h =>
 condV t67 (
  p89_17 cf lf s0 s1 s3 s8 s9 (.int .i64 (4)) h
 ) (
  p89_17 cf lf s0 s1 s3 s8 s9 (.int .i64 (3)) h
 )
theorem p89_14_ok (cf : CallF) (lf : Nat) (T : Tmps) (h : Heap) : execK E cf lf 80 k89_14 T h (finK E [.cell 8 49]) = p89_14 cf lf (T 0) (T 1) (T 2) (T 3) (T 8) (T 9) (T 11) h := by simp only [k89_14, k89_15, k89_16, k89_23, k89_24, execK_all, p89_17_ok]; delta p89_14; generalize p89_17 = G0; as_aux_lemma => kernel_rfl
def p89_7 (cf : CallF) (lf : Nat) (s0 : Value) (s1 : Value) (s2 : Value) (s3 : Value) (s8 : Value) (s9 : Value) (h : Heap) : Ans :=
 bindR (cf 23 [s0, (.string (mkS [125]))] h) (fun v h => some (.panic v, h)) fun t51 h =>
 condV t51 (
  bindO (loadA E 49 s9 h) fun t52 =>
  bindR (skipR (storeA E 49 s8 t52 h)) (fun v h => some (.panic v, h)) fun _ h =>
  bindO (loadA E 49 s8 h) fun tr8 =>
  some (.ret tr8, h)
 ) (
  bindR (cf 99 [] h) (fun v h => some (.panic v, h)) fun t53 h =>
  bindR (cf 67 [t53, (.func (.func 23) ⟨[s0]⟩ ⟨[]⟩)] h) (fun v h => some (.panic v, h)) fun t56 h =>
  bindO (binA E 3 .lss t56 (.int .i64 (0))) fun t58 =>
  condV t58 (
   bindR (cf 25 [(.int .i64 (19)), s1] h) (fun v h => some (.panic v, h)) fun t60 h =>
   p89_14 cf lf s0 s1 s2 s3 s8 s9 t56 h
  ) (
   p89_14 cf lf s0 s1 s2 s3 s8 s9 t56 h
  )
 )
theorem p89_7_ok (cf : CallF) (lf : Nat) (T : Tmps) (h : Heap) : execK E cf lf 80 k89_7 T h (finK E [.cell 8 49]) = p89_7 cf lf (T 0) (T 1) (T 2) (T 3) (T 8) (T 9) h := by simp only [k89_10, k89_11, k89_13, k89_25, k89_26, k89_7, k89_8, k89_9, execK_all, p89_14_ok]; delta p89_7; generalize p89_14 = G0; as_aux_lemma => kernel_rfl
def p89_5 (cf : CallF) (lf : Nat) (s0 : Value) (s1 : Value) (s2 : Value) (s3 : Value) (s8 : Value) (s9 : Value) (h : Heap) : Ans :=
 bindR (cf 90 [s0, (.string (mkS [63, 35, 64, 42]))] h) (fun v h => some (.panic v, h)) fun t43 h =>
 bindO (fieldAddrA E 49 s9 1) fun t44 =>
 bindR (skipR (storeA E 9 t44 t43 h)) (fun v h => some (.panic v, h)) fun _ h =>
 bindO (fieldAddrA E 49 s9 1) fun t45 =>
 bindO (loadA E 9 t45 h) fun t46 =>
 bindO (binA E 9 .eql t46 (.string (mkS []))) fun t47 =>
 condV t47 (
  bindR (cf 25 [(.int .i64 (19)), s1] h) (fun v h => some (.panic v, h)) fun t49 h =>
  p89_7 cf lf s0 s1 s2 s3 s8 s9 h
 ) (
  p89_7 cf lf s0 s1 s2 s3 s8 s9 h
 )
theorem p89_5_ok (cf : CallF) (lf : Nat) (T : Tmps) (h : Heap) : execK E cf lf 80 k89_5 T h (finK E [.cell 8 49]) = p89_5 cf lf (T 0) (T 1) (T 2) (T 3) (T 8) (T 9) h := by simp only [k89_27, k89_28, k89_5, k89_6, execK_all, p89_7_ok]; delta p89_5; generalize p89_7 = G0; as_aux_lemma => kernel_rfl
def p89_30 (cf : CallF) (lf : Nat) (s0 : Value) (s1 : Value) (s2 : Value) (s3 : Value) (s8 : Value) (s9 : Value) (s10 : Value) (s25 : Value) (h : Heap) : Ans :=
 condV s25 (
  bindR (cf 90 [s0, (.string (mkS [63, 64, 42]))] h) (fun v h => some (.panic v, h)) fun t27 h =>
  bindO (fieldAddrA E 49 s9 1) fun t28 =>
  bindR (skipR (storeA E 9 t28 t27 h)) (fun v h => some (.panic v, h)) fun _ h =>
  bindO (fieldAddrA E 49 s9 1) fun t29 =>
  bindO (loadA E 9 t29 h) fun t30 =>
  bindO (binA E 9 .neq t30 (.string (mkS []))) fun t31 =>
  bindO (gO (boolIs true t31) (some s0)) fun t33 =>
  bindR (gR (boolIs true t31) (cf 23 [t33, (.string (mkS [125]))] h) h) (fun v h => some (.panic v, h)) fun t34 h =>
  bindO (pickA t31 t34 (.bool false)) fun t35 =>
  condV t35 (
   bindO (fieldAddrA E 49 s9 2) fun t36 =>
   bindR (skipR (storeA E 9 t36 (.string (mkS [108, 101, 110])) h)) (fun v h => some (.panic v, h)) fun _ h =>
   bindO (loadA E 49 s9 h) fun t37 =>
   bindR (skipR (storeA E 49 s8 t37 h)) (fun v h => some (.panic v, h)) fun _ h =>
   bindO (loadA E 49 s8 h) fun tr8 =>
   some (.ret tr8, h)
  ) (
   bindO (nilA s0) fun t40 =>
   bindO (fieldAddrA E 57 t40 1) fun t41 =>
   bindR (skipR (storeA E 3 t41 s10 h)) (fun v h => some (.panic v, h)) fun _ h =>
   p89_5 cf lf s0 s1 s2 s3 s8 s9 h
  )
 ) (
  p89_5 cf lf s0 s1 s2 s3 s8 s9 h
 )
theorem p89_30_ok (cf : CallF) (lf : Nat) (T : Tmps) (h : Heap) : execK E cf lf 80 k89_30 T h (seqK (fun T h => p89_5 cf lf (T 0) (T 1) (T 2) (T 3) (T 8) (T 9) h) (finK E [.cell 8 49])) = p89_30 cf lf (T 0) (T 1) (T 2) (T 3) (T 8) (T 9) (T 10) (T 25) h := by kernel_rfl
def p89_2 (cf : CallF) (lf : Nat) (s0 : Value) (s1 : Value) (s2 : Value) (s3 : Value) (s8 : Value) (h : Heap) : Ans :=
 bindR (cf 68 [s2] h) (fun v h => some (.panic v, h)) fun t18 h =>
 bindO (buildA E 49 [(0, (.int .i64 (2))), (3, t18)]) fun t19 =>
 bindR (valR (allocA E 49 h)) (fun v h => some (.panic v, h)) fun t9 h =>
 bindR (skipR (storeA E 49 t9 t19 h)) (fun v h => some (.panic v, h)) fun _ h =>
 bindO (nilA s0) fun t21 =>
 bindO (fieldAddrA E 57 t21 1) fun t22 =>
 bindO (loadA E 3 t22 h) fun t23 =>
 bindR (cf 23 [s0, (.string (mkS [35]))] h) (fun v h => some (.panic v, h)) fun t25 h =>
 p89_30 cf lf s0 s1 s2 s3 s8 t9 t23 t25 h
theorem p89_2_ok (cf : CallF) (lf : Nat) (T : Tmps) (h : Heap) : execK E cf lf 80 k89_2 T h (finK E [.cell 8 49]) = p89_2 cf lf (T 0) (T 1) (T 2) (T 3) (T 8) h := by simp only [k89_2, k89_29, k89_3, k89_4, execK_all, p89_30_ok, p89_5_ok]; delta p89_2; generalize p89_30 = G0; generalize p89_5 = G1; as_aux_lemma => kernel_rfl
def p89_0 (cf : CallF) (lf : Nat) (s0 : Value) (s1 : Value) (s2 : Value) (s3 : Value) (h : Heap) : Ans :=
 bindR (valR (allocA E 49 h)) (fun v h => some (.panic v, h)) fun t8 h =>
 bindO (binA E 3 .geq s3 (.int .i64 (20))) fun t14 =>
 condV t14 (
  bindR (cf 25 [(.int .i64 (3)), s1] h) (fun v h => some (.panic v, h)) fun t16 h =>
  p89_2 cf lf s0 s1 s2 s3 t8 h
 ) (
  p89_2 cf lf s0 s1 s2 s3 t8 h
 )
theorem p89_0_ok (cf : CallF) (lf : Nat) (T : Tmps) (h : Heap) : execK E cf lf 80 k89_0 T h (finK E [.cell 8 49]) = p89_0 cf lf (T 0) (T 1) (T 2) (T 3) h := by simp only [k89_0, k89_1, k89_39, k89_40, execK_all, p89_2_ok]; delta p89_0; generalize p89_2 = G0; as_aux_lemma => kernel_rfl
def f89 (cf : CallF) (lf : Nat) (a0 : Value) (a1 : Value) (a2 : Value) (a3 : Value) (h : Heap) : Ans := p89_0 cf lf a0 a1 a2 a3 h
theorem f89_ok (cf : CallF) (lf : Nat) (a0 a1 a2 a3 : Value) (h : Heap) : stepN E cf lf 89 [a0, a1, a2, a3] h = f89 cf lf a0 a1 a2 a3 h := (show stepN E cf lf 89 [a0, a1, a2, a3] h = execK E cf lf 80 k89_0 (T0 [a0, a1, a2, a3]) h (finK E [.cell 8 49]) by kernel_rfl).trans ((p89_0_ok cf lf (T0 [a0, a1, a2, a3]) h).trans (by kernel_rfl))
noncomputable def kc90 := codeOf Tryd.f90
def k90_20 := cp kc90 [1, 1, 1, 0, 0, 0, 0, 1, 0]
def k90_21 := cp kc90 [1, 1, 1, 0, 0, 0, 0, 1, 1]
def k90_19 := cp kc90 [1, 1, 1, 0, 0, 0, 0, 0]
def k90_15 : Code := .cond (.tmp 35) k90_20 k90_21
def k90_22 := cp kc90 [1, 1, 1, 0, 0, 0, 1, 0]
def k90_14 : Code := .seq k90_19 k90_15
def k90_13 : Code := .block 1 k90_22
def k90_24 := cp kc90 [1, 1, 1, 1, 0, 1, 0]
def k90_25 := cp kc90 [1, 1, 1, 1, 0, 1, 1]
def k90_27 := cp kc90 [1, 1, 1, 1, 1, 1, 0]
def k90_7 := cp kc90 [1, 1, 1, 1, 1, 1, 1]
def k90_12 : Code := .seq k90_14 k90_13
def k90_23 := cp kc90 [1, 1, 1, 1, 0, 0]
def k90_9 : Code := .cond (.tmp 55) k90_24 k90_25
def k90_26 := cp kc90 [1, 1, 1, 1, 1, 0]
def k90_6 : Code := .seq k90_27 k90_7
def k90_11 : Code := .loop k90_12
def k90_8 : Code := .seq k90_23 k90_9
def k90_5 : Code := .seq k90_26 k90_6
def k90_10 : Code := .block 0 k90_11
def k90_4 : Code := .seq k90_8 k90_5
def k90_18 := cp kc90 [1, 1, 0]
def k90_3 : Code := .seq k90_10 k90_4
def k90_17 := cp kc90 [1, 0]
def k90_2 : Code := .seq k90_18 k90_3
def k90_16 := cp kc90 [0]
def k90_1 : Code := .seq k90_17 k90_2
def k90_0 : Code := .seq k90_16 k90_1
def p90_5 (cf : CallF) (lf : Nat) (s0 : Value) (s5 : Value) (s6 : Value) (h : Heap) : Ans :=
 bindO (nilA s0) fun t57 =>
 bindO (fieldAddrA E 57 t57 1) fun t58 =>
 bindO (loadA E 3 t58 h) fun t59 =>
 bindO (binB E 3 .add t59 s6) fun t61 =>
 bindO (nilA s0) fun t62 =>
 bindO (fieldAddrA E 57 t62 1) fun t63 =>
 bindR (skipR (storeA E 3 t63 t61 h)) (fun v h => some (.panic v, h)) fun _ h =>
 bindO (sliceA E 9 s5 none (some s6) h) fun t66 =>
 some (.ret t66, h)
theorem p90_5_ok (cf : CallF) (lf : Nat) (T : Tmps) (h : Heap) : execK E cf lf 67 k90_5 T h (finK E [.tmp 4]) = p90_5 cf lf (T 0) (T 5) (T 6) h := by kernel_rfl
def p90_9 (cf : CallF) (lf : Nat) (s0 : Value) (s5 : Value) (s6 : Value) (s55 : Value) (h : Heap) : Ans :=
 condV s55 (
  p90_5 cf lf s0 s5 (.int .i64 (1)) h
 ) (
  p90_5 cf lf s0 s5 s6 h
 )
theorem p90_9_ok (cf : CallF) (lf : Nat) (T : Tmps) (h : Heap) : execK E cf lf 67 k90_9 T h (seqK (fun T h => p90_5 cf lf (T 0) (T 5) (T 6) h) (finK E [.tmp 4])) = p90_9 cf lf (T 0) (T 5) (T 6) (T 55) h := by kernel_rfl
def p90_4 (cf : CallF) (lf : Nat) (s0 : Value) (s1 : Value) (s5 : Value) (s6 : Value) (h : Heap) : Ans :=
 bindO (binA E 3 .eql s6 (.int .i64 (0))) fun t39 =>
 bindO (gO (boolIs true t39) (some s5)) fun t41 =>
 bindO (gO (boolIs true t39) (binA E 9 .neq t41 (.string (mkS [])))) fun t42 =>
 bindO (pickA t39 t42 (.bool false)) fun t43 =>
 bindO (gO (boolIs true t43) (some s5)) fun t45 =>
 bindO (gO (boolIs true t43) (indexA E 9 t45 (.int .i64 (0)))) fun t46 =>
 bindR (gR (boolIs true t43) (cf 101 [t46] h) h) (fun v h => some (.panic v, h)) fun t47 h =>
 bindO (gO (boolIs true t43) (some t47)) fun t48 =>
 bindO (gO (boolIs false t48) (some s1)) fun t49 =>
 bindO (gO (boolIs false t48) (some s5)) fun t50 =>
 bindO (gO (boolIs false t48) (indexA E 9 t50 (.int .i64 (0)))) fun t51 =>
 bindR (gR (boolIs false t48) (cf 73 [t49, t51] h) h) (fun v h => some (.panic v, h)) fun t52 h =>
 bindO (gO (boolIs false t48) (binA E 3 .geq t52 (.int .i64 (0)))) fun t53 =>
 bindO (gO (boolIs true t43) (pickA t48 (.bool true) t53)) fun t54 =>
 bindO (pickA t43 t54 (.bool false)) fun t55 =>
 p90_9 cf lf s0 s5 s6 t55 h
theorem p90_4_ok (cf : CallF) (lf : Nat) (T : Tmps) (h : Heap) : execK E cf lf 67 k90_4 T h (finK E [.tmp 4]) = p90_4 cf lf (T 0) (T 1) (T 5) (T 6) h := by simp only [k90_4, k90_8, execK_all, p90_5_ok, p90_9_ok]; delta p90_4; generalize p90_5 = G0; generalize p90_9 = G1; as_aux_lemma => kernel_rfl
def p90_15 (cf : CallF) (lf : Nat) (F11 : Value → Value → Value → Value → Heap → Ans) (s0 : Value) (s1 : Value) (s5 : Value) (s6 : Value) (s35 : Value) (h : Heap) : Ans :=
 condV s35 (
  bindO (binA E 3 .add s6 (.int .i64 (1))) fun t37 =>
  F11 s0 s1 s5 t37 h
 ) (
  p90_4 cf lf s0 s1 s5 s6 h
 )
theorem p90_15_ok (cf : CallF) (lf : Nat) (F11 : Value → Value → Value → Value → Heap → Ans) (T : Tmps) (h : Heap) : execK E cf lf 67 k90_15 T h (seqK (fun T h => execK E cf lf 67 k90_13 T h (seqK (fun T h => F11 (T 0) (T 1) (T 5) (T 6) h) (blockK 0 (seqK (fun T h => p90_4 cf lf (T 0) (T 1) (T 5) (T 6) h) (finK E [.tmp 4]))))) (seqK (fun T h => F11 (T 0) (T 1) (T 5) (T 6) h) (blockK 0 (seqK (fun T h => p90_4 cf lf (T 0) (T 1) (T 5) (T 6) h) (finK E [.tmp 4]))))) = p90_15 cf lf F11 (T 0) (T 1) (T 5) (T 6) (T 35) h := by kernel_rfl
def p90_12 (cf : CallF) (lf : Nat) (F11 : Value → Value → Value → Value → Heap → Ans) (s0 : Value) (s1 : Value) (s5 : Value) (s6 : Value) (h : Heap) : Ans :=
 bindO (lenA E 9 s5) fun t18 =>
 bindO (binB E 3 .lss s6 t18) fun t19 =>
 bindO (gO (boolIs true t19) (some s5)) fun t21 =>
 bindO (gO (boolIs true t19) (some s6)) fun t22 =>
 bindO (gO (boolIs true t19) (indexA E 9 t21 t22)) fun t23 =>
 bindR (gR (boolIs true t19) (cf 100 [t23] h) h) (fun v h => some (.panic v, h)) fun t24 h =>
 bindO (gO (boolIs true t19) (some t24)) fun t25 =>
 bindO (gO (boolIs false t25) (some s6)) fun t26 =>
 bindO (gO (boolIs false t25) (binA E 3 .gtr t26 (.int .i64 (0)))) fun t27 =>
 bindO (gO (boolIs false t25) (some t27)) fun t28 =>
 bindO (gO (boolIs true t28) (some s5)) fun t29 =>
 bindO (gO (boolIs true t28) (some s6)) fun t30 =>
 bindO (gO (boolIs true t28) (indexA E 9 t29 t30)) fun t31 =>
 bindR (gR (boolIs true t28) (cf 101 [t31] h) h) (fun v h => some (.panic v, h)) fun t32 h =>
 bindO (gO (boolIs false t25) (pickA t28 t32 (.bool false))) fun t33 =>
 bindO (gO (boolIs true t19) (pickA t25 (.bool true) t33)) fun t34 =>
 bindO (pickA t19 t34 (.bool false)) fun t35 =>
 p90_15 cf lf F11 s0 s1 s5 s6 t35 h
theorem p90_12_ok (cf : CallF) (lf : Nat) (F11 : Value → Value → Value → Value → Heap → Ans) (T : Tmps) (h : Heap) : execK E cf lf 67 k90_12 T h (seqK (fun T h => F11 (T 0) (T 1) (T 5) (T 6) h) (blockK 0 (seqK (fun T h => p90_4 cf lf (T 0) (T 1) (T 5) (T 6) h) (finK E [.tmp 4])))) = p90_12 cf lf F11 (T 0) (T 1) (T 5) (T 6) h := by simp only [k90_12, k90_14, execK_all, p90_15_ok]; delta p90_12; generalize p90_15 = G0; as_aux_lemma => kernel_rfl
def l90_11 (cf : CallF) (lf : Nat) : Nat → Value → Value → Value → Value → Heap → Ans
 | 0, _, _, _, _, _ => none
 | n + 1, s0, s1, s5, s6, h => p90_12 cf lf (l90_11 cf lf n) s0 s1 s5 s6 h
theorem l90_11_ok (cf : CallF) (lf : Nat) (n : Nat) : ∀ (T : Tmps) (h : Heap), iterK (fun T h K => execK E cf lf 67 k90_12 T h K) (blockK 0 (seqK (fun T h => p90_4 cf lf (T 0) (T 1) (T 5) (T 6) h) (finK E [.tmp 4]))) n T h = l90_11 cf lf n (T 0) (T 1) (T 5) (T 6) h := by
 induction n with
 | zero => intro T h; rfl
 | succ n ih =>
  intro T h
  rw [iterK_succ, show iterK (fun T h K => execK E cf lf 67 k90_12 T h K) (blockK 0 (seqK (fun T h => p90_4 cf lf (T 0) (T 1) (T 5) (T 6) h) (finK E [.tmp 4]))) n = (fun T h => l90_11 cf lf n (T 0) (T 1) (T 5) (T 6) h) from funext fun T => funext fun h => ih T h]
  exact p90_12_ok cf lf (l90_11 cf lf n) T h
def p90_0 (cf : CallF) (lf : Nat) (s0 : Value) (s1 : Value) (h : Heap) : Ans :=
 bindO (nilA s0) fun t8 =>
 bindO (fieldAddrA E 57 t8 0) fun t9 =>
 bindO (loadA E 9 t9 h) fun t10 =>
 bindO (nilA s0) fun t12 =>
 bindO (fieldAddrA E 57 t12 1) fun t13 =>
 bindO (loadA E 3 t13 h) fun t14 =>
 bindO (sliceA E 9 t10 (some t14) none h) fun t15 =>
 l90_11 cf lf lf s0 s1 t15 (.int .i64 (0)) h
theorem p90_0_ok (cf : CallF) (lf : Nat) (T : Tmps) (h : Heap) : execK E cf lf 67 k90_0 T h (finK E [.tmp 4]) = p90_0 cf lf (T 0) (T 1) h := by simp only [k90_0, k90_1, k90_10, k90_11, k90_2, k90_3, execK_all, l90_11_ok, p90_4_ok]; delta p90_0; generalize l90_11 = G0; generalize p90_4 = G1; as_aux_lemma => kernel_rfl
def f90 (cf : CallF) (lf : Nat) (a0 : Value) (a1 : Value) (h : Heap) : Ans := p90_0 cf lf a0 a1 h
theorem f90_ok (cf : CallF) (lf : Nat) (a0 a1 : Value) (h : Heap) : stepN E cf lf 90 [a0, a1] h = f90 cf lf a0 a1 h := (show stepN E cf lf 90 [a0, a1] h = execK E cf lf 67 k90_0 (T0 [a0, a1]) h (finK E [.tmp 4]) by kernel_rfl).trans ((p90_0_ok cf lf (T0 [a0, a1]) h).trans (by kernel_rfl))
def f95 (cf : CallF) (lf : Nat) (a0 : Value) (h : Heap) : Ans :=
 bindO (binA E 3 .add a0 (.int .i64 (16))) fun t4 =>
 bindO (binA E 3 .quo t4 (.int .i64 (8))) fun t5 =>
 some (.ret t5, h)
theorem f95_ok (cf : CallF) (lf : Nat) (a0 : Value) (h : Heap) : stepN E cf lf 95 [a0] h = f95 cf lf a0 h := by kernel_rfl
noncomputable def kc96 := codeOf Tryd.f96
def k96_59 := cp kc96 [1, 1, 1, 1, 1, 1, 0, 1, 0, 0, 1, 0, 1, 1, 1, 1, 1, 0, 0]
def k96_27 := cp kc96 [1, 1, 1, 1, 1, 1, 0, 1, 0, 0, 1, 0, 1, 1, 1, 1, 1, 0, 1]
def k96_26 : Code := .seq k96_59 k96_27
def k96_58 := cp kc96 [1, 1, 1, 1, 1, 1, 0, 1, 0, 0, 1, 0, 1, 1, 1, 1, 1, 1]
def k96_57 := cp kc96 [1, 1, 1, 1, 1, 1, 0, 1, 0, 0, 1, 0, 1, 1, 1, 1, 0]
def k96_25 : Code := .cond (.tmp 77) k96_26 k96_58
def k96_56 := cp kc96 [1, 1, 1, 1, 1, 1, 0, 1, 0, 0, 1, 0, 1, 1, 1, 0]
def k96_24 : Code := .seq k96_57 k96_25
def k96_55 := cp kc96 [1, 1, 1, 1, 1, 1, 0, 1, 0, 0, 1, 0, 1, 1, 0]
def k96_23 : Code := .seq k96_56 k96_24
def k96_54 := cp kc96 [1, 1, 1, 1, 1, 1, 0, 1, 0, 0, 1, 0, 1, 0]
def k96_22 : Code := .seq k96_55 k96_23
def k96_51 := cp kc96 [1, 1, 1, 1, 1, 1, 0, 1, 0, 0, 0, 1, 0]
def k96_52 := cp kc96 [1, 1, 1, 1, 1, 1, 0, 1, 0, 0, 0, 1, 1]
def k96_53 := cp kc96 [1, 1, 1, 1, 1, 1, 0, 1, 0, 0, 1, 0, 0]
def k96_21 : Code := .seq k96_54 k96_22
def k96_50 := cp kc96 [1, 1, 1, 1, 1, 1, 0, 1, 0, 0, 0, 0]
def k96_19 : Code := .cond (.tmp 44) k96_51 k96_52
def k96_20 : Code := .seq k96_53 k96_21
def k96_43 := cp kc96 [1, 1, 1, 1, 0, 1, 0, 0, 0, 1, 0]
def k96_44 := cp kc96 [1, 1, 1, 1, 0, 1, 0, 0, 0, 1, 1]
def k96_45 := cp kc96 [1, 1, 1, 1, 0, 1, 0, 0, 1, 0, 0]
def k96_18 : Code := .seq k96_50 k96_19
def k96_17 : Code := .block 3 k96_20
def k96_42 := cp kc96 [1, 1, 1, 1, 0, 1, 0, 0, 0, 0]
def k96_34 : Code := .cond (.tmp 20) k96_43 k96_44
def k96_36 : Code := .block 1 k96_45
def k96_35 := cp kc96 [1, 1, 1, 1, 0, 1, 0, 0, 1, 1]
def k96_16 : Code := .seq k96_18 k96_17
def k96_33 : Code := .seq k96_42 k96_34
def k96_32 : Code := .seq k96_36 k96_35
def k96_48 := cp kc96 [1, 1, 1, 1, 1, 0, 1, 0, 0]
def k96_10 := cp kc96 [1, 1, 1, 1, 1, 0, 1, 0, 1]
def k96_15 : Code := .loop k96_16
def k96_31 : Code := .seq k96_33 k96_32
def k96_9 : Code := .seq k96_48 k96_10
def k96_47 := cp kc96 [1, 1, 1, 1, 1, 0, 1, 1]
def k96_49 := cp kc96 [1, 1, 1, 1, 1, 1, 0, 0]
def k96_14 : Code := .block 2 k96_15
def k96_60 := cp kc96 [1, 1, 1, 1, 1, 1, 1, 0]
def k96_12 := cp kc96 [1, 1, 1, 1, 1, 1, 1, 1]
def k96_30 : Code := .loop k96_31
def k96_46 := cp kc96 [1, 1, 1, 1, 1, 0, 0]
def k96_8 : Code := .cond (.tmp 39) k96_9 k96_47
def k96_13 : Code := .seq k96_49 k96_14
def k96_11 : Code := .seq k96_60 k96_12
def k96_41 := cp kc96 [1, 1, 1, 1, 0, 0]
def k96_29 : Code := .block 0 k96_30
def k96_7 : Code := .seq k96_46 k96_8
def k96_6 : Code := .seq k96_13 k96_11
def k96_28 : Code := .seq k96_41 k96_29
def k96_5 : Code := .seq k96_7 k96_6
def k96_40 := cp kc96 [1, 1, 1, 0]
def k96_4 : Code := .seq k96_28 k96_5
def k96_39 := cp kc96 [1, 1, 0]
def k96_3 : Code := .seq k96_40 k96_4
def k96_38 := cp kc96 [1, 0]
def k96_2 : Code := .seq k96_39 k96_3
def k96_37 := cp kc96 [0]
def k96_1 : Code := .seq k96_38 k96_2
def k96_0 : Code := .seq k96_37 k96_1
def p96_11 (cf : CallF) (lf : Nat) (h : Heap) : Ans :=
 some (.ret (.int .i64 (-1)), h)
theorem p96_11_ok (cf : CallF) (lf : Nat) (T : Tmps) (h : Heap) : execK E cf lf 81 k96_11 T h (finK E [.tmp 4]) = p96_11 cf lf h := by kernel_rfl
def p96_24 (cf : CallF) (lf : Nat) (F15 : Value → Value → Value → Value → Value → Value → Value → Heap → Ans) (s0 : Value) (s1 : Value) (s5 : Value) (s6 : Value) (s7 : Value) (s8 : Value) (s10 : Value) (h : Heap) : Ans :=
 bindO (binB E 115 .eql s8 s5) fun t67 =>
 bindO (gO (boolIs true t67) (some s0)) fun t69 =>
 bindO (gO (boolIs true t67) (some s10)) fun t70 =>
 bindO (gO (boolIs true t67) (some s7)) fun t71 =>
 bindO (gO (boolIs true t67) (binB E 3 .sub t70 t71)) fun t72 =>
 bindO (gO (boolIs true t67) (some s10)) fun t73 =>
 bindO (gO (boolIs true t67) (sliceA E 9 t69 (some t72) (some t73) h)) fun t74 =>
 bindO (gO (boolIs true t67) (some s1)) fun t75 =>
 bindO (gO (boolIs true t67) (binB E 9 .eql t74 t75)) fun t76 =>
 bindO (pickA t67 t76 (.bool false)) fun t77 =>
 condV t77 (
  bindO (binB E 3 .sub s10 s7) fun t80 =>
  some (.ret t80, h)
 ) (
  F15 s0 s1 s5 s6 s7 s8 s10 h
 )
theorem p96_24_ok (cf : CallF) (lf : Nat) (F15 : Value → Value → Value → Value → Value → Value → Value → Heap → Ans) (T : Tmps) (h : Heap) : execK E cf lf 81 k96_24 T h (blockK 3 (seqK (fun T h => F15 (T 0) (T 1) (T 5) (T 6) (T 7) (T 8) (T 10) h) (blockK 2 (seqK (fun T h => p96_11 cf lf h) (finK E [.tmp 4]))))) = p96_24 cf lf F15 (T 0) (T 1) (T 5) (T 6) (T 7) (T 8) (T 10) h := by kernel_rfl
def p96_16 (cf : CallF) (lf : Nat) (F15 : Value → Value → Value → Value → Value → Value → Value → Heap → Ans) (s0 : Value) (s1 : Value) (s5 : Value) (s6 : Value) (s7 : Value) (s8 : Value) (s10 : Value) (h : Heap) : Ans :=
 bindO (lenA E 9 s0) fun t43 =>
 bindO (binB E 3 .lss s10 t43) fun t44 =>
 condV t44 (
  bindO (binA E 115 .mul s8 (.int .u32 (16777619))) fun t46 =>
  bindO (indexA E 9 s0 s10) fun t50 =>
  bindR (valR (convA E 5 115 t50 h)) (fun v h => some (.panic v, h)) fun t51 h =>
  bindO (binB E 115 .add t46 t51) fun t52 =>
  bindO (binB E 3 .sub s10 s7) fun t58 =>
  bindO (indexA E 9 s0 t58) fun t59 =>
  bindR (valR (convA E 5 115 t59 h)) (fun v h => some (.panic v, h)) fun t60 h =>
  bindO (binB E 115 .mul s6 t60) fun t61 =>
  bindO (binB E 115 .sub t52 t61) fun t62 =>
  bindO (binA E 3 .add s10 (.int .i64 (1))) fun t64 =>
  p96_24 cf lf F15 s0 s1 s5 s6 s7 t62 t64 h
 ) (
  p96_11 cf lf h
 )
theorem p96_16_ok (cf : CallF) (lf : Nat) (F15 : Value → Value → Value → Value → Value → Value → Value → Heap → Ans) (T : Tmps) (h : Heap) : execK E cf lf 81 k96_16 T h (seqK (fun T h => F15 (T 0) (T 1) (T 5) (T 6) (T 7) (T 8) (T 10) h) (blockK 2 (seqK (fun T h => p96_11 cf lf h) (finK E [.tmp 4])))) = p96_16 cf lf F15 (T 0) (T 1) (T 5) (T 6) (T 7) (T 8) (T 10) h := by simp only [k96_16, k96_17, k96_18, k96_19, k96_20, k96_21, k96_22, k96_23, execK_all, p96_24_ok]; delta p96_16; generalize p96_24 = G0; as_aux_lemma => kernel_rfl
def l96_15 (cf : CallF) (lf : Nat) : Nat → Value → Value → Value → Value → Value → Value → Value → Heap → Ans
 | 0, _, _, _, _, _, _, _, _ => none
 | n + 1, s0, s1, s5, s6, s7, s8, s10, h => p96_16 cf lf (l96_15 cf lf n) s0 s1 s5 s6 s7 s8 s10 h
theorem l96_15_ok (cf : CallF) (lf : Nat) (n : Nat) : ∀ (T : Tmps) (h : Heap), iterK (fun T h K => execK E cf lf 81 k96_16 T h K) (blockK 2 (seqK (fun T h => p96_11 cf lf h) (finK E [.tmp 4]))) n T h = l96_15 cf lf n (T 0) (T 1) (T 5) (T 6) (T 7) (T 8) (T 10) h := by
 induction n with
 | zero => intro T h; rfl
 | succ n ih =>
  intro T h
  rw [iterK_succ, show iterK (fun T h K => execK E cf lf 81 k96_16 T h K) (blockK 2 (seqK (fun T h => p96_11 cf lf h) (finK E [.tmp 4]))) n = (fun T h => l96_15 cf lf n (T 0) (T 1) (T 5) (T 6) (T 7) (T 8) (T 10) h) from funext fun T => funext fun h => ih T h]
  exact p96_16_ok cf lf (l96_15 cf lf n) T h
def p96_14 (cf : CallF) (lf : Nat) (s0 : Value) (s1 : Value) (s5 : Value) (s6 : Value) (s7 : Value) (s8 : Value) (s10 : Value) (h : Heap) : Ans :=
 l96_15 cf lf lf s0 s1 s5 s6 s7 s8 s10 h
theorem p96_14_ok (cf : CallF) (lf : Nat) (T : Tmps) (h : Heap) : execK E cf lf 81 k96_14 T h (seqK (fun T h => p96_11 cf lf h) (finK E [.tmp 4])) = p96_14 cf lf (T 0) (T 1) (T 5) (T 6) (T 7) (T 8) (T 10) h := by simp only [k96_14, k96_15, execK_all, l96_15_ok]; delta p96_14; generalize l96_15 = G0; as_aux_lemma => kernel_rfl
def p96_5 (cf : CallF) (lf : Nat) (s0 : Value) (s1 : Value) (s5 : Value) (s6 : Value) (s7 : Value) (s8 : Value) (h : Heap) : Ans :=
 bindO (binB E 115 .eql s8 s5) fun t32 =>
 bindO (gO (boolIs true t32) (some s0)) fun t34 =>
 bindO (gO (boolIs true t32) (some s7)) fun t35 =>
 bindO (gO (boolIs true t32) (sliceA E 9 t34 none (some t35) h)) fun t36 =>
 bindO (gO (boolIs true t32) (some s1)) fun t37 =>
 bindO (gO (boolIs true t32) (binB E 9 .eql t36 t37)) fun t38 =>
 bindO (pickA t32 t38 (.bool false)) fun t39 =>
 condV t39 (
  some (.ret (.int .i64 (0)), h)
 ) (
  p96_14 cf lf s0 s1 s5 s6 s7 s8 s7 h
 )
theorem p96_5_ok (cf : CallF) (lf : Nat) (T : Tmps) (h : Heap) : execK E cf lf 81 k96_5 T h (finK E [.tmp 4]) = p96_5 cf lf (T 0) (T 1) (T 5) (T 6) (T 7) (T 8) h := by simp only [k96_13, k96_5, k96_6, k96_7, k96_8, k96_9, execK_all, p96_11_ok, p96_14_ok]; delta p96_5; generalize p96_11 = G0; generalize p96_14 = G1; as_aux_lemma => kernel_rfl
def p96_31 (cf : CallF) (lf : Nat) (F30 : Value → Value → Value → Value → Value → Value → Value → Heap → Ans) (s0 : Value) (s1 : Value) (s5 : Value) (s6 : Value) (s7 : Value) (s8 : Value) (s9 : Value) (h : Heap) : Ans :=
 bindO (binB E 3 .lss s9 s7) fun t20 =>
 condV t20 (
  bindO (binA E 115 .mul s8 (.int .u32 (16777619))) fun t24 =>
  bindO (indexA E 9 s0 s9) fun t27 =>
  bindR (valR (convA E 5 115 t27 h)) (fun v h => some (.panic v, h)) fun t28 h =>
  bindO (binB E 115 .add t24 t28) fun t29 =>
  bindO (binA E 3 .add s9 (.int .i64 (1))) fun t22 =>
  F30 s0 s1 s5 s6 s7 t29 t22 h
 ) (
  p96_5 cf lf s0 s1 s5 s6 s7 s8 h
 )
theorem p96_31_ok (cf : CallF) (lf : Nat) (F30 : Value → Value → Value → Value → Value → Value → Value → Heap → Ans) (T : Tmps) (h : Heap) : execK E cf lf 81 k96_31 T h (seqK (fun T h => F30 (T 0) (T 1) (T 5) (T 6) (T 7) (T 8) (T 9) h) (blockK 0 (seqK (fun T h => p96_5 cf lf (T 0) (T 1) (T 5) (T 6) (T 7) (T 8) h) (finK E [.tmp 4])))) = p96_31 cf lf F30 (T 0) (T 1) (T 5) (T 6) (T 7) (T 8) (T 9) h := by kernel_rfl
def l96_30 (cf : CallF) (lf : Nat) : Nat → Value → Value → Value → Value → Value → Value → Value → Heap → Ans
 | 0, _, _, _, _, _, _, _, _ => none
 | n + 1, s0, s1, s5, s6, s7, s8, s9, h => p96_31 cf lf (l96_30 cf lf n) s0 s1 s5 s6 s7 s8 s9 h
theorem l96_30_ok (cf : CallF) (lf : Nat) (n : Nat) : ∀ (T : Tmps) (h : Heap), iterK (fun T h K => execK E cf lf 81 k96_31 T h K) (blockK 0 (seqK (fun T h => p96_5 cf lf (T 0) (T 1) (T 5) (T 6) (T 7) (T 8) h) (finK E [.tmp 4]))) n T h = l96_30 cf lf n (T 0) (T 1) (T 5) (T 6) (T 7) (T 8) (T 9) h := by
 induction n with
 | zero => intro T h; rfl
 | succ n ih =>
  intro T h
  rw [iterK_succ, show iterK (fun T h K => execK E cf lf 81 k96_31 T h K) (blockK 0 (seqK (fun T h => p96_5 cf lf (T 0) (T 1) (T 5) (T 6) (T 7) (T 8) h) (finK E [.tmp 4]))) n = (fun T h => l96_30 cf lf n (T 0) (T 1) (T 5) (T 6) (T 7) (T 8) (T 9) h) from funext fun T => funext fun h => ih T h]
  exact p96_31_ok cf lf (l96_30 cf lf n) T h
def p96_0 (cf : CallF) (lf : Nat) (s0 : Value) (s1 : Value) (h : Heap) : Ans :=
 bindR (cf 103 [s1] h) (fun v h => some (.panic v, h)) fun t13 h =>
 bindO (extractA t13 0) fun t14 =>
 bindO (extractA t13 1) fun t15 =>
 bindO (lenA E 9 s1) fun t17 =>
 l96_30 cf lf lf s0 s1 t14 t15 t17 (.int .u32 (0)) (.int .i64 (0)) h
theorem p96_0_ok (cf : CallF) (lf : Nat) (T : Tmps) (h : Heap) : execK E cf lf 81 k96_0 T h (finK E [.tmp 4]) = p96_0 cf lf (T 0) (T 1) h := by simp only [k96_0, k96_1, k96_2, k96_28, k96_29, k96_3, k96_30, k96_4, execK_all, l96_30_ok, p96_5_ok]; delta p96_0; generalize l96_30 = G0; generalize p96_5 = G1; as_aux_lemma => kernel_rfl
def f96 (cf : CallF) (lf : Nat) (a0 : Value) (a1 : Value) (h : Heap) : Ans := p96_0 cf lf a0 a1 h
theorem f96_ok (cf : CallF) (lf : Nat) (a0 a1 : Value) (h : Heap) : stepN E cf lf 96 [a0, a1] h = f96 cf lf a0 a1 h := (show stepN E cf lf 96 [a0, a1] h = execK E cf lf 81 k96_0 (T0 [a0, a1]) h (finK E [.tmp 4]) by kernel_rfl).trans ((p96_0_ok cf lf (T0 [a0, a1]) h).trans (by kernel_rfl))
end
end Go.Proofs.YteekjekckgpbfaaDoor.Abs
end
section
set_option maxRecDepth 100000
namespace Go.Proofs.YteekjekckgpbfaaDoor.Abs
noncomputable section
noncomputable def kc98 := codeOf Tryd.f98
def k98_23 := cp kc98 [0, 0, 0, 1, 0, 0, 1, 1, 1, 1, 1, 0]
def k98_24 := cp kc98 [0, 0, 0, 1, 0, 0, 1, 1, 1, 1, 1, 1]
def k98_22 := cp kc98 [0, 0, 0, 1, 0, 0, 1, 1, 1, 1, 0]
def k98_14 : Code := .cond (.tmp 26) k98_23 k98_24
def k98_21 := cp kc98 [0, 0, 0, 1, 0, 0, 1, 1, 1, 0]
def k98_13 : Code := .seq k98_22 k98_14
def k98_20 := cp kc98 [0, 0, 0, 1, 0, 0, 1, 1, 0]
def k98_12 : Code := .cond (.tmp 23) k98_21 k98_13
def k98_19 := cp kc98 [0, 0, 0, 1, 0, 0, 1, 0]
def k98_11 : Code := .seq k98_20 k98_12
def k98_18 := cp kc98 [0, 0, 0, 1, 0, 0, 0]
def k98_10 : Code := .cond (.tmp 13) k98_19 k98_11
def k98_16 := cp kc98 [0, 0, 0, 0, 1, 0]
def k98_17 := cp kc98 [0, 0, 0, 0, 1, 1]
def k98_9 : Code := .seq k98_18 k98_10
def k98_15 := cp kc98 [0, 0, 0, 0, 0]
def k98_7 : Code := .cond (.tmp 5) k98_16 k98_17
def k98_8 : Code := .block 2 k98_9
def k98_6 : Code := .seq k98_15 k98_7
def k98_5 : Code := .block 1 k98_8
def k98_4 : Code := .seq k98_6 k98_5
def k98_3 : Code := .loop k98_4
def k98_2 : Code := .block 0 k98_3
def k98_1 := cp kc98 [1]
def k98_0 : Code := .seq k98_2 k98_1
def p98_1 (cf : CallF) (lf : Nat) (s1 : Value) (h : Heap) : Ans :=
 bindR (cf 25 [(.int .i64 (19)), s1] h) (fun v h => some (.panic v, h)) fun t33 h =>
 some (.ret (.tuple ⟨[]⟩), h)
theorem p98_1_ok (cf : CallF) (lf : Nat) (T : Tmps) (h : Heap) : execK E cf lf 34 k98_1 T h (finK E []) = p98_1 cf lf (T 1) h := by kernel_rfl
def p98_4 (cf : CallF) (lf : Nat) (F3 : Value → Value → Heap → Ans) (s0 : Value) (s1 : Value) (h : Heap) : Ans :=
 bindR (cf 24 [s0] h) (fun v h => some (.panic v, h)) fun t5 h =>
 condV t5 (
  bindR (cf 23 [s0, (.string (mkS [92]))] h) (fun v h => some (.panic v, h)) fun t15 h =>
  condV t15 (
   bindO (nilA s0) fun t17 =>
   bindO (fieldAddrA E 57 t17 1) fun t18 =>
   bindO (loadA E 3 t18 h) fun t19 =>
   bindO (binA E 3 .add t19 (.int .i64 (1))) fun t20 =>
   bindO (nilA s0) fun t21 =>
   bindO (fieldAddrA E 57 t21 1) fun t22 =>
   bindR (skipR (storeA E 3 t22 t20 h)) (fun v h => some (.panic v, h)) fun _ h =>
   F3 s0 s1 h
  ) (
   bindR (cf 23 [s0, (.string (mkS [34]))] h) (fun v h => some (.panic v, h)) fun t25 h =>
   condV t25 (
    some (.ret (.tuple ⟨[]⟩), h)
   ) (
    bindR (cf 23 [s0, (.string (mkS [36, 40]))] h) (fun v h => some (.panic v, h)) fun t28 h =>
    condV t28 (
     bindR (cf 88 [s0, s1] h) (fun v h => some (.panic v, h)) fun t31 h =>
     F3 s0 s1 h
    ) (
     bindO (nilA s0) fun t7 =>
     bindO (fieldAddrA E 57 t7 1) fun t8 =>
     bindO (loadA E 3 t8 h) fun t9 =>
     bindO (binA E 3 .add t9 (.int .i64 (1))) fun t10 =>
     bindO (nilA s0) fun t11 =>
     bindO (fieldAddrA E 57 t11 1) fun t12 =>
     bindR (skipR (storeA E 3 t12 t10 h)) (fun v h => some (.panic v, h)) fun _ h =>
     F3 s0 s1 h
    )
   )
  )
 ) (
  p98_1 cf lf s1 h
 )
theorem p98_4_ok (cf : CallF) (lf : Nat) (F3 : Value → Value → Heap → Ans) (T : Tmps) (h : Heap) : execK E cf lf 34 k98_4 T h (seqK (fun T h => F3 (T 0) (T 1) h) (blockK 0 (seqK (fun T h => p98_1 cf lf (T 1) h) (finK E [])))) = p98_4 cf lf F3 (T 0) (T 1) h := by kernel_rfl
def l98_3 (cf : CallF) (lf : Nat) : Nat → Value → Value → Heap → Ans
 | 0, _, _, _ => none
 | n + 1, s0, s1, h => p98_4 cf lf (l98_3 cf lf n) s0 s1 h
theorem l98_3_ok (cf : CallF) (lf : Nat) (n : Nat) : ∀ (T : Tmps) (h : Heap), iterK (fun T h K => execK E cf lf 34 k98_4 T h K) (blockK 0 (seqK (fun T h => p98_1 cf lf (T 1) h) (finK E []))) n T h = l98_3 cf lf n (T 0) (T 1) h := by
 induction n with
 | zero => intro T h; rfl
 | succ n ih =>
  intro T h
  rw [iterK_succ, show iterK (fun T h K => execK E cf lf 34 k98_4 T h K) (blockK 0 (seqK (fun T h => p98_1 cf lf (T 1) h) (finK E []))) n = (fun T h => l98_3 cf lf n (T 0) (T 1) h) from funext fun T => funext fun h => ih T h]
  exact p98_4_ok cf lf (l98_3 cf lf n) T h
def p98_0 (cf : CallF) (lf : Nat) (s0 : Value) (s1 : Value) (h : Heap) : Ans :=
 l98_3 cf lf lf s0 s1 h
theorem p98_0_ok (cf : CallF) (lf : Nat) (T : Tmps) (h : Heap) : execK E cf lf 34 k98_0 T h (finK E []) = p98_0 cf lf (T 0) (T 1) h := by simp only [k98_0, k98_2, k98_3, execK_all, l98_3_ok, p98_1_ok]; delta p98_0; generalize l98_3 = G0; generalize p98_1 = G1; as_aux_lemma => kernel_rfl
def f98 (cf : CallF) (lf : Nat) (a0 : Value) (a1 : Value) (h : Heap) : Ans := p98_0 cf lf a0 a1 h
theorem f98_ok (cf : CallF) (lf : Nat) (a0 a1 : Value) (h : Heap) : stepN E cf lf 98 [a0, a1] h = f98 cf lf a0 a1 h := (show stepN E cf lf 98 [a0, a1] h = execK E cf lf 34 k98_0 (T0 [a0, a1]) h (finK E []) by kernel_rfl).trans ((p98_0_ok cf lf (T0 [a0, a1]) h).trans (by kernel_rfl))
def f99 (cf : CallF) (lf : Nat) (h : Heap) : Ans :=
 bindR (valR (buildSliceA E 40 12 [(0, (.string (mkS [58, 45]))), (1, (.string (mkS [58, 61]))), (2, (.string (mkS [58, 43]))), (3, (.string (mkS [58, 63]))), (4, (.string (mkS [35, 35]))), (5, (.string (mkS [37, 37]))), (6, (.string (mkS [45]))), (7, (.string (mkS [61]))), (8, (.string (mkS [43]))), (9, (.string (mkS [63]))), (10, (.string (mkS [35]))), (11, (.string (mkS [37])))] h)) (fun v h => some (.panic v, h)) fun t1 h =>
 some (.ret t1, h)
theorem f99_ok (cf : CallF) (lf : Nat) (h : Heap) : stepN E cf lf 99 [] h = f99 cf lf  h := by kernel_rfl
def f100 (cf : CallF) (lf : Nat) (a0 : Value) (h : Heap) : Ans :=
 bindO (binA E 5 .geq a0 (.int .u8 (97))) fun t4 =>
 bindO (gO (boolIs true t4) (some a0)) fun t6 =>
 bindO (gO (boolIs true t4) (binA E 5 .leq t6 (.int .u8 (122)))) fun t7 =>
 bindO (pickA t4 t7 (.bool false)) fun t8 =>
 bindO (gO (boolIs false t8) (some a0)) fun t10 =>
 bindO (gO (boolIs false t8) (binA E 5 .geq t10 (.int .u8 (65)))) fun t11 =>
 bindO (gO (boolIs false t8) (some t11)) fun t12 =>
 bindO (gO (boolIs true t12) (some a0)) fun t13 =>
 bindO (gO (boolIs true t12) (binA E 5 .leq t13 (.int .u8 (90)))) fun t14 =>
 bindO (gO (boolIs false t8) (pickA t12 t14 (.bool false))) fun t15 =>
 bindO (pickA t8 (.bool true) t15) fun t16 =>
 bindO (gO (boolIs false t16) (some a0)) fun t18 =>
 bindO (gO (boolIs false t16) (binA E 5 .eql t18 (.int .u8 (95)))) fun t19 =>
 bindO (pickA t16 (.bool true) t19) fun t20 =>
 some (.ret t20, h)
theorem f100_ok (cf : CallF) (lf : Nat) (a0 : Value) (h : Heap) : stepN E cf lf 100 [a0] h = f100 cf lf a0 h := by kernel_rfl
def f101 (cf : CallF) (lf : Nat) (a0 : Value) (h : Heap) : Ans :=
 bindO (binA E 5 .geq a0 (.int .u8 (48))) fun t4 =>
 bindO (gO (boolIs true t4) (some a0)) fun t6 =>
 bindO (gO (boolIs true t4) (binA E 5 .leq t6 (.int .u8 (57)))) fun t7 =>
 bindO (pickA t4 t7 (.bool false)) fun t8 =>
 some (.ret t8, h)
theorem f101_ok (cf : CallF) (lf : Nat) (a0 : Value) (h : Heap) : stepN E cf lf 101 [a0] h = f101 cf lf a0 h := by kernel_rfl
noncomputable def kc103 := codeOf Tryd.f103
def k103_42 := cp kc103 [1, 1, 1, 1, 0, 1, 0, 0, 1, 0, 0, 0, 1, 0]
def k103_43 := cp kc103 [1, 1, 1, 1, 0, 1, 0, 0, 1, 0, 0, 0, 1, 1]
def k103_41 := cp kc103 [1, 1, 1, 1, 0, 1, 0, 0, 1, 0, 0, 0, 0]
def k103_19 : Code := .cond (.tmp 30) k103_42 k103_43
def k103_18 : Code := .seq k103_41 k103_19
def k103_17 := cp kc103 [1, 1, 1, 1, 0, 1, 0, 0, 1, 0, 0, 1]
def k103_39 := cp kc103 [1, 1, 1, 1, 0, 1, 0, 0, 0, 1, 0]
def k103_40 := cp kc103 [1, 1, 1, 1, 0, 1, 0, 0, 0, 1, 1]
def k103_16 : Code := .seq k103_18 k103_17
def k103_38 := cp kc103 [1, 1, 1, 1, 0, 1, 0, 0, 0, 0]
def k103_13 : Code := .cond (.tmp 25) k103_39 k103_40
def k103_15 : Code := .block 3 k103_16
def k103_14 := cp kc103 [1, 1, 1, 1, 0, 1, 0, 0, 1, 1]
def k103_33 := cp kc103 [1, 1, 0, 1, 0, 0, 0, 1, 0]
def k103_34 := cp kc103 [1, 1, 0, 1, 0, 0, 0, 1, 1]
def k103_35 := cp kc103 [1, 1, 0, 1, 0, 0, 1, 0, 0]
def k103_12 : Code := .seq k103_38 k103_13
def k103_11 : Code := .seq k103_15 k103_14
def k103_32 := cp kc103 [1, 1, 0, 1, 0, 0, 0, 0]
def k103_26 : Code := .cond (.tmp 12) k103_33 k103_34
def k103_28 : Code := .block 1 k103_35
def k103_27 := cp kc103 [1, 1, 0, 1, 0, 0, 1, 1]
def k103_10 : Code := .seq k103_12 k103_11
def k103_25 : Code := .seq k103_32 k103_26
def k103_24 : Code := .seq k103_28 k103_27
def k103_9 : Code := .loop k103_10
def k103_23 : Code := .seq k103_25 k103_24
def k103_37 := cp kc103 [1, 1, 1, 1, 0, 0]
def k103_8 : Code := .block 2 k103_9
def k103_44 := cp kc103 [1, 1, 1, 1, 1, 0]
def k103_6 := cp kc103 [1, 1, 1, 1, 1, 1]
def k103_22 : Code := .loop k103_23
def k103_7 : Code := .seq k103_37 k103_8
def k103_5 : Code := .seq k103_44 k103_6
def k103_31 := cp kc103 [1, 1, 0, 0]
def k103_21 : Code := .block 0 k103_22
def k103_36 := cp kc103 [1, 1, 1, 0]
def k103_4 : Code := .seq k103_7 k103_5
def k103_20 : Code := .seq k103_31 k103_21
def k103_3 : Code := .seq k103_36 k103_4
def k103_30 := cp kc103 [1, 0]
def k103_2 : Code := .seq k103_20 k103_3
def k103_29 := cp kc103 [0]
def k103_1 : Code := .seq k103_30 k103_2
def k103_0 : Code := .seq k103_29 k103_1
def p103_5 (cf : CallF) (lf : Nat) (s4 : Value) (s6 : Value) (h : Heap) : Ans :=
 some (.ret (.tuple ⟨[s4, s6]⟩), h)
theorem p103_5_ok (cf : CallF) (lf : Nat) (T : Tmps) (h : Heap) : execK E cf lf 39 k103_5 T h (finK E [.tmp 2, .tmp 3]) = p103_5 cf lf (T 4) (T 6) h := by kernel_rfl
def p103_14 (cf : CallF) (lf : Nat) (F9 : Value → Value → Value → Value → Heap → Ans) (s4 : Value) (s6 : Value) (s7 : Value) (s8 : Value) (h : Heap) : Ans :=
 bindO (binA E 3 .shr s8 (.int .u64 (1))) fun t27 =>
 F9 s4 s6 s7 t27 h
theorem p103_14_ok (cf : CallF) (lf : Nat) (F9 : Value → Value → Value → Value → Heap → Ans) (T : Tmps) (h : Heap) : execK E cf lf 39 k103_14 T h (seqK (fun T h => F9 (T 4) (T 6) (T 7) (T 8) h) (blockK 2 (seqK (fun T h => p103_5 cf lf (T 4) (T 6) h) (finK E [.tmp 2, .tmp 3])))) = p103_14 cf lf F9 (T 4) (T 6) (T 7) (T 8) h := by kernel_rfl
def p103_17 (cf : CallF) (lf : Nat) (F9 : Value → Value → Value → Value → Heap → Ans) (s4 : Value) (s6 : Value) (s7 : Value) (s8 : Value) (h : Heap) : Ans :=
 bindO (binB E 115 .mul s7 s7) fun t36 =>
 p103_14 cf lf F9 s4 s6 t36 s8 h
theorem p103_17_ok (cf : CallF) (lf : Nat) (F9 : Value → Value → Value → Value → Heap → Ans) (T : Tmps) (h : Heap) : execK E cf lf 39 k103_17 T h (blockK 3 (seqK (fun T h => p103_14 cf lf F9 (T 4) (T 6) (T 7) (T 8) h) (seqK (fun T h => F9 (T 4) (T 6) (T 7) (T 8) h) (blockK 2 (seqK (fun T h => p103_5 cf lf (T 4) (T 6) h) (finK E [.tmp 2, .tmp 3])))))) = p103_17 cf lf F9 (T 4) (T 6) (T 7) (T 8) h := by kernel_rfl
def p103_10 (cf : CallF) (lf : Nat) (F9 : Value → Value → Value → Value → Heap → Ans) (s4 : Value) (s6 : Value) (s7 : Value) (s8 : Value) (h : Heap) : Ans :=
 bindO (binA E 3 .gtr s8 (.int .i64 (0))) fun t25 =>
 condV t25 (
  bindO (binA E 3 .and s8 (.int .i64 (1))) fun t29 =>
  bindO (binA E 3 .neq t29 (.int .i64 (0))) fun t30 =>
  condV t30 (
   bindO (binB E 115 .mul s6 s7) fun t33 =>
   p103_17 cf lf F9 s4 t33 s7 s8 h
  ) (
   p103_17 cf lf F9 s4 s6 s7 s8 h
  )
 ) (
  p103_5 cf lf s4 s6 h
 )
theorem p103_10_ok (cf : CallF) (lf : Nat) (F9 : Value → Value → Value → Value → Heap → Ans) (T : Tmps) (h : Heap) : execK E cf lf 39 k103_10 T h (seqK (fun T h => F9 (T 4) (T 6) (T 7) (T 8) h) (blockK 2 (seqK (fun T h => p103_5 cf lf (T 4) (T 6) h) (finK E [.tmp 2, .tmp 3])))) = p103_10 cf lf F9 (T 4) (T 6) (T 7) (T 8) h := by simp only [k103_10, k103_11, k103_12, k103_13, k103_15, k103_16, k103_18, k103_19, execK_all, p103_14_ok, p103_17_ok]; delta p103_10; generalize p103_14 = G0; generalize p103_17 = G1; as_aux_lemma => kernel_rfl
def l103_9 (cf : CallF) (lf : Nat) : Nat → Value → Value → Value → Value → Heap → Ans
 | 0, _, _, _, _, _ => none
 | n + 1, s4, s6, s7, s8, h => p103_10 cf lf (l103_9 cf lf n) s4 s6 s7 s8 h
theorem l103_9_ok (cf : CallF) (lf : Nat) (n : Nat) : ∀ (T : Tmps) (h : Heap), iterK (fun T h K => execK E cf lf 39 k103_10 T h K) (blockK 2 (seqK (fun T h => p103_5 cf lf (T 4) (T 6) h) (finK E [.tmp 2, .tmp 3]))) n T h = l103_9 cf lf n (T 4) (T 6) (T 7) (T 8) h := by
 induction n with
 | zero => intro T h; rfl
 | succ n ih =>
  intro T h
  rw [iterK_succ, show iterK (fun T h K => execK E cf lf 39 k103_10 T h K) (blockK 2 (seqK (fun T h => p103_5 cf lf (T 4) (T 6) h) (finK E [.tmp 2, .tmp 3]))) n = (fun T h => l103_9 cf lf n (T 4) (T 6) (T 7) (T 8) h) from funext fun T => funext fun h => ih T h]
  exact p103_10_ok cf lf (l103_9 cf lf n) T h
def p103_3 (cf : CallF) (lf : Nat) (s0 : Value) (s4 : Value) (h : Heap) : Ans :=
 bindO (lenA E 9 s0) fun t23 =>
 l103_9 cf lf lf s4 (.int .u32 (1)) (.int .u32 (16777619)) t23 h
theorem p103_3_ok (cf : CallF) (lf : Nat) (T : Tmps) (h : Heap) : execK E cf lf 39 k103_3 T h (finK E [.tmp 2, .tmp 3]) = p103_3 cf lf (T 0) (T 4) h := by simp only [k103_3, k103_4, k103_7, k103_8, k103_9, execK_all, l103_9_ok, p103_5_ok]; delta p103_3; generalize l103_9 = G0; generalize p103_5 = G1; as_aux_lemma => kernel_rfl
def p103_23 (cf : CallF) (lf : Nat) (F22 : Value → Value → Value → Heap → Ans) (s0 : Value) (s4 : Value) (s5 : Value) (h : Heap) : Ans :=
 bindO (lenA E 9 s0) fun t11 =>
 bindO (binB E 3 .lss s5 t11) fun t12 =>
 condV t12 (
  bindO (binA E 115 .mul s4 (.int .u32 (16777619))) fun t16 =>
  bindO (indexA E 9 s0 s5) fun t19 =>
  bindR (valR (convA E 5 115 t19 h)) (fun v h => some (.panic v, h)) fun t20 h =>
  bindO (binB E 115 .add t16 t20) fun t21 =>
  bindO (binA E 3 .add s5 (.int .i64 (1))) fun t14 =>
  F22 s0 t21 t14 h
 ) (
  p103_3 cf lf s0 s4 h
 )
theorem p103_23_ok (cf : CallF) (lf : Nat) (F22 : Value → Value → Value → Heap → Ans) (T : Tmps) (h : Heap) : execK E cf lf 39 k103_23 T h (seqK (fun T h => F22 (T 0) (T 4) (T 5) h) (blockK 0 (seqK (fun T h => p103_3 cf lf (T 0) (T 4) h) (finK E [.tmp 2, .tmp 3])))) = p103_23 cf lf F22 (T 0) (T 4) (T 5) h := by kernel_rfl
def l103_22 (cf : CallF) (lf : Nat) : Nat → Value → Value → Value → Heap → Ans
 | 0, _, _, _, _ => none
 | n + 1, s0, s4, s5, h => p103_23 cf lf (l103_22 cf lf n) s0 s4 s5 h
theorem l103_22_ok (cf : CallF) (lf : Nat) (n : Nat) : ∀ (T : Tmps) (h : Heap), iterK (fun T h K => execK E cf lf 39 k103_23 T h K) (blockK 0 (seqK (fun T h => p103_3 cf lf (T 0) (T 4) h) (finK E [.tmp 2, .tmp 3]))) n T h = l103_22 cf lf n (T 0) (T 4) (T 5) h := by
 induction n with
 | zero => intro T h; rfl
 | succ n ih =>
  intro T h
  rw [iterK_succ, show iterK (fun T h K => execK E cf lf 39 k103_23 T h K) (blockK 0 (seqK (fun T h => p103_3 cf lf (T 0) (T 4) h) (finK E [.tmp 2, .tmp 3]))) n = (fun T h => l103_22 cf lf n (T 0) (T 4) (T 5) h) from funext fun T => funext fun h => ih T h]
  exact p103_23_ok cf lf (l103_22 cf lf n) T h
def p103_0 (cf : CallF) (lf : Nat) (s0 : Value) (h : Heap) : Ans :=
 l103_22 cf lf lf s0 (.int .u32 (0)) (.int .i64 (0)) h
theorem p103_0_ok (cf : CallF) (lf : Nat) (T : Tmps) (h : Heap) : execK E cf lf 39 k103_0 T h (finK E [.tmp 2, .tmp 3]) = p103_0 cf lf (T 0) h := by simp only [k103_0, k103_1, k103_2, k103_20, k103_21, k103_22, execK_all, l103_22_ok, p103_3_ok]; delta p103_0; generalize l103_22 = G0; generalize p103_3 = G1; as_aux_lemma => kernel_rfl
def f103 (cf : CallF) (lf : Nat) (a0 : Value) (h : Heap) : Ans := p103_0 cf lf a0 h
theorem f103_ok (cf : CallF) (lf : Nat) (a0 : Value) (h : Heap) : stepN E cf lf 103 [a0] h = f103 cf lf a0 h := (show stepN E cf lf 103 [a0] h = execK E cf lf 39 k103_0 (T0 [a0]) h (finK E [.tmp 2, .tmp 3]) by kernel_rfl).trans ((p103_0_ok cf lf (T0 [a0]) h).trans (by kernel_rfl))
noncomputable def kc6 := codeOf Tryd.f6
def k6_84 := cp kc6 [1, 1, 1, 1, 1, 1, 1, 1, 1, 0, 1, 0, 0, 1, 0, 0, 0, 1, 0, 0]
def k6_41 := cp kc6 [1, 1, 1, 1, 1, 1, 1, 1, 1, 0, 1, 0, 0, 1, 0, 0, 0, 1, 0, 1]
def k6_87 := cp kc6 [1, 1, 1, 1, 1, 1, 1, 1, 1, 0, 1, 0, 0, 1, 0, 0, 1, 1, 0, 0]
def k6_37 := cp kc6 [1, 1, 1, 1, 1, 1, 1, 1, 1, 0, 1, 0, 0, 1, 0, 0, 1, 1, 0, 1]
def k6_40 : Code := .seq k6_84 k6_41
def k6_83 := cp kc6 [1, 1, 1, 1, 1, 1, 1, 1, 1, 0, 1, 0, 0, 1, 0, 0, 0, 1, 1]
def k6_36 : Code := .seq k6_87 k6_37
def k6_86 := cp kc6 [1, 1, 1, 1, 1, 1, 1, 1, 1, 0, 1, 0, 0, 1, 0, 0, 1, 1, 1]
def k6_82 := cp kc6 [1, 1, 1, 1, 1, 1, 1, 1, 1, 0, 1, 0, 0, 1, 0, 0, 0, 0]
def k6_39 : Code := .cond (.tmp 143) k6_40 k6_83
def k6_85 := cp kc6 [1, 1, 1, 1, 1, 1, 1, 1, 1, 0, 1, 0, 0, 1, 0, 0, 1, 0]
def k6_35 : Code := .cond (.tmp 187) k6_36 k6_86
def k6_38 : Code := .seq k6_82 k6_39
def k6_34 : Code := .seq k6_85 k6_35
def k6_80 := cp kc6 [1, 1, 1, 1, 1, 1, 1, 1, 1, 0, 1, 0, 0, 0, 1, 0]
def k6_81 := cp kc6 [1, 1, 1, 1, 1, 1, 1, 1, 1, 0, 1, 0, 0, 0, 1, 1]
def k6_33 : Code := .seq k6_38 k6_34
def k6_69 := cp kc6 [1, 1, 1, 1, 0, 1, 0, 0, 1, 0, 0, 1, 1, 1, 0]
def k6_55 := cp kc6 [1, 1, 1, 1, 0, 1, 0, 0, 1, 0, 0, 1, 1, 1, 1]
def k6_79 := cp kc6 [1, 1, 1, 1, 1, 1, 1, 1, 1, 0, 1, 0, 0, 0, 0]
def k6_30 : Code := .cond (.tmp 98) k6_80 k6_81
def k6_32 : Code := .block 3 k6_33
def k6_31 := cp kc6 [1, 1, 1, 1, 1, 1, 1, 1, 1, 0, 1, 0, 0, 1, 1]
def k6_68 := cp kc6 [1, 1, 1, 1, 0, 1, 0, 0, 1, 0, 0, 1, 1, 0]
def k6_54 : Code := .seq k6_69 k6_55
def k6_29 : Code := .seq k6_79 k6_30
def k6_28 : Code := .seq k6_32 k6_31
def k6_67 := cp kc6 [1, 1, 1, 1, 0, 1, 0, 0, 1, 0, 0, 1, 0]
def k6_53 : Code := .seq k6_68 k6_54
def k6_27 : Code := .seq k6_29 k6_28
def k6_66 := cp kc6 [1, 1, 1, 1, 0, 1, 0, 0, 1, 0, 0, 0]
def k6_52 : Code := .seq k6_67 k6_53
def k6_77 := cp kc6 [1, 1, 1, 1, 1, 1, 1, 1, 0, 1, 0, 0]
def k6_21 := cp kc6 [1, 1, 1, 1, 1, 1, 1, 1, 0, 1, 0, 1]
def k6_26 : Code := .loop k6_27
def k6_64 := cp kc6 [1, 1, 1, 1, 0, 1, 0, 0, 0, 1, 0]
def k6_65 := cp kc6 [1, 1, 1, 1, 0, 1, 0, 0, 0, 1, 1]
def k6_51 : Code := .seq k6_66 k6_52
def k6_74 := cp kc6 [1, 1, 1, 1, 1, 1, 1, 0, 1, 0, 0]
def k6_16 := cp kc6 [1, 1, 1, 1, 1, 1, 1, 0, 1, 0, 1]
def k6_20 : Code := .seq k6_77 k6_21
def k6_76 := cp kc6 [1, 1, 1, 1, 1, 1, 1, 1, 0, 1, 1]
def k6_78 := cp kc6 [1, 1, 1, 1, 1, 1, 1, 1, 1, 0, 0]
def k6_25 : Code := .block 2 k6_26
def k6_88 := cp kc6 [1, 1, 1, 1, 1, 1, 1, 1, 1, 1, 0]
def k6_23 := cp kc6 [1, 1, 1, 1, 1, 1, 1, 1, 1, 1, 1]
def k6_63 := cp kc6 [1, 1, 1, 1, 0, 1, 0, 0, 0, 0]
def k6_48 : Code := .cond (.tmp 23) k6_64 k6_65
def k6_50 : Code := .block 1 k6_51
def k6_49 := cp kc6 [1, 1, 1, 1, 0, 1, 0, 0, 1, 1]
def k6_15 : Code := .seq k6_74 k6_16
def k6_73 := cp kc6 [1, 1, 1, 1, 1, 1, 1, 0, 1, 1]
def k6_75 := cp kc6 [1, 1, 1, 1, 1, 1, 1, 1, 0, 0]
def k6_19 : Code := .cond (.tmp 94) k6_20 k6_76
def k6_24 : Code := .seq k6_78 k6_25
def k6_22 : Code := .seq k6_88 k6_23
def k6_47 : Code := .seq k6_63 k6_48
def k6_46 : Code := .seq k6_50 k6_49
def k6_72 := cp kc6 [1, 1, 1, 1, 1, 1, 1, 0, 0]
def k6_14 : Code := .cond (.tmp 74) k6_15 k6_73
def k6_18 : Code := .seq k6_75 k6_19
def k6_17 : Code := .seq k6_24 k6_22
def k6_45 : Code := .seq k6_47 k6_46
def k6_13 : Code := .seq k6_72 k6_14
def k6_12 : Code := .seq k6_18 k6_17
def k6_44 : Code := .loop k6_45
def k6_71 := cp kc6 [1, 1, 1, 1, 1, 1, 0]
def k6_11 : Code := .seq k6_13 k6_12
def k6_62 := cp kc6 [1, 1, 1, 1, 0, 0]
def k6_43 : Code := .block 0 k6_44
def k6_70 := cp kc6 [1, 1, 1, 1, 1, 0]
def k6_10 : Code := .seq k6_71 k6_11
def k6_59 := cp kc6 [1, 0, 1, 0, 0]
def k6_6 := cp kc6 [1, 0, 1, 0, 1]
def k6_42 : Code := .seq k6_62 k6_43
def k6_9 : Code := .seq k6_70 k6_10
def k6_5 : Code := .seq k6_59 k6_6
def k6_58 := cp kc6 [1, 0, 1, 1]
def k6_61 := cp kc6 [1, 1, 1, 0]
def k6_8 : Code := .seq k6_42 k6_9
def k6_57 := cp kc6 [1, 0, 0]
def k6_4 : Code := .cond (.tmp 15) k6_5 k6_58
def k6_60 := cp kc6 [1, 1, 0]
def k6_7 : Code := .seq k6_61 k6_8
def k6_3 : Code := .seq k6_57 k6_4
def k6_2 : Code := .seq k6_60 k6_7
def k6_56 := cp kc6 [0]
def k6_1 : Code := .seq k6_3 k6_2
def k6_0 : Code := .seq k6_56 k6_1
def p6_22 (cf : CallF) (lf : Nat) (h : Heap) : Ans :=
 some (.ret (.bool true), h)
theorem p6_22_ok (cf : CallF) (lf : Nat) (T : Tmps) (h : Heap) : execK E cf lf 188 k6_22 T h (finK E [.tmp 2]) = p6_22 cf lf h := by kernel_rfl
def p6_31 (cf : CallF) (lf : Nat) (F26 : Value → Value → Value → Value → Heap → Ans) (s5 : Value) (s9 : Value) (s11 : Value) (s13 : Value) (h : Heap) : Ans :=
 bindO (binA E 3 .add s13 (.int .i64 (1))) fun t100 =>
 F26 s5 s9 s11 t100 h
theorem p6_31_ok (cf : CallF) (lf : Nat) (F26 : Value → Value → Value → Value → Heap → Ans) (T : Tmps) (h : Heap) : execK E cf lf 188 k6_31 T h (seqK (fun T h => F26 (T 5) (T 9) (T 11) (T 13) h) (blockK 2 (seqK (fun T h => p6_22 cf lf h) (finK E [.tmp 2])))) = p6_31 cf lf F26 (T 5) (T 9) (T 11) (T 13) h := by kernel_rfl
def p6_35 (cf : CallF) (lf : Nat) (F26 : Value → Value → Value → Value → Heap → Ans) (s5 : Value) (s9 : Value) (s11 : Value) (s13 : Value) (s187 : Value) (h : Heap) : Ans :=
 condV s187 (
  some (.ret (.bool false), h)
 ) (
  p6_31 cf lf F26 s5 s9 s11 s13 h
 )
theorem p6_35_ok (cf : CallF) (lf : Nat) (F26 : Value → Value → Value → Value → Heap → Ans) (T : Tmps) (h : Heap) : execK E cf lf 188 k6_35 T h (blockK 3 (seqK (fun T h => p6_31 cf lf F26 (T 5) (T 9) (T 11) (T 13) h) (seqK (fun T h => F26 (T 5) (T 9) (T 11) (T 13) h) (blockK 2 (seqK (fun T h => p6_22 cf lf h) (finK E [.tmp 2])))))) = p6_35 cf lf F26 (T 5) (T 9) (T 11) (T 13) (T 187) h := by kernel_rfl
def p6_34 (cf : CallF) (lf : Nat) (F26 : Value → Value → Value → Value → Heap → Ans) (s5 : Value) (s9 : Value) (s11 : Value) (s13 : Value) (h : Heap) : Ans :=
 bindO (indexAddrA E 22 s11 s13) fun t146 =>
 bindO (fieldAddrA E 39 t146 2) fun t147 =>
 bindO (loadA E 37 t147 h) fun t148 =>
 bindO (lenA E 37 t148) fun t149 =>
 bindO (binA E 3 .neq t149 (.int .i64 (1))) fun t150 =>
 bindO (gO (boolIs false t150) (some s11)) fun t152 =>
 bindO (gO (boolIs false t150) (some s13)) fun t153 =>
 bindO (gO (boolIs false t150) (indexAddrA E 22 t152 t153)) fun t154 =>
 bindO (gO (boolIs false t150) (fieldAddrA E 39 t154 2)) fun t155 =>
 bindO (gO (boolIs false t150) (loadA E 37 t155 h)) fun t156 =>
 bindO (gO (boolIs false t150) (indexAddrA E 37 t156 (.int .i64 (0)))) fun t157 =>
 bindO (gO (boolIs false t150) (fieldAddrA E 49 t157 1)) fun t158 =>
 bindO (gO (boolIs false t150) (loadA E 9 t158 h)) fun t159 =>
 bindO (gO (boolIs false t150) (some s5)) fun t160 =>
 bindO (gO (boolIs false t150) (some s13)) fun t161 =>
 bindO (gO (boolIs false t150) (indexAddrA E 40 t160 t161)) fun t162 =>
 bindO (gO (boolIs false t150) (loadA E 9 t162 h)) fun t163 =>
 bindO (gO (boolIs false t150) (binB E 9 .neq t159 t163)) fun t164 =>
 bindO (pickA t150 (.bool true) t164) fun t165 =>
 bindO (gO (boolIs false t165) (some s11)) fun t167 =>
 bindO (gO (boolIs false t165) (some s13)) fun t168 =>
 bindO (gO (boolIs false t165) (indexAddrA E 22 t167 t168)) fun t169 =>
 bindO (gO (boolIs false t165) (fieldAddrA E 39 t169 2)) fun t170 =>
 bindO (gO (boolIs false t165) (loadA E 37 t170 h)) fun t171 =>
 bindO (gO (boolIs false t165) (indexAddrA E 37 t171 (.int .i64 (0)))) fun t172 =>
 bindO (gO (boolIs false t165) (fieldAddrA E 49 t172 0)) fun t173 =>
 bindO (gO (boolIs false t165) (loadA E 3 t173 h)) fun t174 =>
 bindO (gO (boolIs false t165) (binA E 3 .neq t174 (.int .i64 (1)))) fun t175 =>
 bindO (pickA t165 (.bool true) t175) fun t176 =>
 bindO (gO (boolIs false t176) (some s11)) fun t178 =>
 bindO (gO (boolIs false t176) (some s13)) fun t179 =>
 bindO (gO (boolIs false t176) (indexAddrA E 22 t178 t179)) fun t180 =>
 bindO (gO (boolIs false t176) (fieldAddrA E 39 t180 2)) fun t181 =>
 bindO (gO (boolIs false t176) (loadA E 37 t181 h)) fun t182 =>
 bindO (gO (boolIs false t176) (indexAddrA E 37 t182 (.int .i64 (0)))) fun t183 =>
 bindO (gO (boolIs false t176) (fieldAddrA E 49 t183 3)) fun t184 =>
 bindO (gO (boolIs false t176) (loadA E 4 t184 h)) fun t185 =>
 bindO (gO (boolIs false t176) (unA .not t185)) fun t186 =>
 bindO (pickA t176 (.bool true) t186) fun t187 =>
 p6_35 cf lf F26 s5 s9 s11 s13 t187 h
theorem p6_34_ok (cf : CallF) (lf : Nat) (F26 : Value → Value → Value → Value → Heap → Ans) (T : Tmps) (h : Heap) : execK E cf lf 188 k6_34 T h (blockK 3 (seqK (fun T h => p6_31 cf lf F26 (T 5) (T 9) (T 11) (T 13) h) (seqK (fun T h => F26 (T 5) (T 9) (T 11) (T 13) h) (blockK 2 (seqK (fun T h => p6_22 cf lf h) (finK E [.tmp 2])))))) = p6_34 cf lf F26 (T 5) (T 9) (T 11) (T 13) h := by simp only [k6_34, execK_all, p6_35_ok]; delta p6_34; generalize p6_35 = G0; as_aux_lemma => kernel_rfl
def p6_39 (cf : CallF) (lf : Nat) (F26 : Value → Value → Value → Value → Heap → Ans) (s5 : Value) (s9 : Value) (s11 : Value) (s13 : Value) (s143 : Value) (h : Heap) : Ans :=
 condV s143 (
  some (.ret (.bool false), h)
 ) (
  p6_34 cf lf F26 s5 s9 s11 s13 h
 )
theorem p6_39_ok (cf : CallF) (lf : Nat) (F26 : Value → Value → Value → Value → Heap → Ans) (T : Tmps) (h : Heap) : execK E cf lf 188 k6_39 T h (seqK (fun T h => p6_34 cf lf F26 (T 5) (T 9) (T 11) (T 13) h) (blockK 3 (seqK (fun T h => p6_31 cf lf F26 (T 5) (T 9) (T 11) (T 13) h) (seqK (fun T h => F26 (T 5) (T 9) (T 11) (T 13) h) (blockK 2 (seqK (fun T h => p6_22 cf lf h) (finK E [.tmp 2]))))))) = p6_39 cf lf F26 (T 5) (T 9) (T 11) (T 13) (T 143) h := by kernel_rfl
def p6_27 (cf : CallF) (lf : Nat) (F26 : Value → Value → Value → Value → Heap → Ans) (s5 : Value) (s9 : Value) (s11 : Value) (s13 : Value) (h : Heap) : Ans :=
 bindO (lenA E 40 s5) fun t97 =>
 bindO (binB E 3 .lss s13 t97) fun t98 =>
 condV t98 (
  bindO (indexAddrA E 22 s9 s13) fun t103 =>
  bindO (fieldAddrA E 39 t103 2) fun t104 =>
  bindO (loadA E 37 t104 h) fun t105 =>
  bindO (lenA E 37 t105) fun t106 =>
  bindO (binA E 3 .neq t106 (.int .i64 (1))) fun t107 =>
  bindO (gO (boolIs false t107) (some s9)) fun t109 =>
  bindO (gO (boolIs false t107) (some s13)) fun t110 =>
  bindO (gO (boolIs false t107) (indexAddrA E 22 t109 t110)) fun t111 =>
  bindO (gO (boolIs false t107) (fieldAddrA E 39 t111 2)) fun t112 =>
  bindO (gO (boolIs false t107) (loadA E 37 t112 h)) fun t113 =>
  bindO (gO (boolIs false t107) (indexAddrA E 37 t113 (.int .i64 (0)))) fun t114 =>
  bindO (gO (boolIs false t107) (fieldAddrA E 49 t114 1)) fun t115 =>
  bindO (gO (boolIs false t107) (loadA E 9 t115 h)) fun t116 =>
  bindO (gO (boolIs false t107) (some s5)) fun t117 =>
  bindO (gO (boolIs false t107) (some s13)) fun t118 =>
  bindO (gO (boolIs false t107) (indexAddrA E 40 t117 t118)) fun t119 =>
  bindO (gO (boolIs false t107) (loadA E 9 t119 h)) fun t120 =>
  bindO (gO (boolIs false t107) (binB E 9 .neq t116 t120)) fun t121 =>
  bindO (pickA t107 (.bool true) t121) fun t122 =>
  bindO (gO (boolIs false t122) (some s9)) fun t124 =>
  bindO (gO (boolIs false t122) (some s13)) fun t125 =>
  bindO (gO (boolIs false t122) (indexAddrA E 22 t124 t125)) fun t126 =>
  bindO (gO (boolIs false t122) (fieldAddrA E 39 t126 2)) fun t127 =>
  bindO (gO (boolIs false t122) (loadA E 37 t127 h)) fun t128 =>
  bindO (gO (boolIs false t122) (indexAddrA E 37 t128 (.int .i64 (0)))) fun t129 =>
  bindO (gO (boolIs false t122) (fieldAddrA E 49 t129 0)) fun t130 =>
  bindO (gO (boolIs false t122) (loadA E 3 t130 h)) fun t131 =>
  bindO (gO (boolIs false t122) (binA E 3 .neq t131 (.int .i64 (1)))) fun t132 =>
  bindO (pickA t122 (.bool true) t132) fun t133 =>
  bindO (gO (boolIs false t133) (some s9)) fun t135 =>
  bindO (gO (boolIs false t133) (some s13)) fun t136 =>
  bindO (gO (boolIs false t133) (indexAddrA E 22 t135 t136)) fun t137 =>
  bindO (gO (boolIs false t133) (fieldAddrA E 39 t137 2)) fun t138 =>
  bindO (gO (boolIs false t133) (loadA E 37 t138 h)) fun t139 =>
  bindO (gO (boolIs false t133) (indexAddrA E 37 t139 (.int .i64 (0)))) fun t140 =>
  bindO (gO (boolIs false t133) (fieldAddrA E 49 t140 3)) fun t141 =>
  bindO (gO (boolIs false t133) (loadA E 4 t141 h)) fun t142 =>
  bindO (pickA t133 (.bool true) t142) fun t143 =>
  p6_39 cf lf F26 s5 s9 s11 s13 t143 h
 ) (
  p6_22 cf lf h
 )
theorem p6_27_ok (cf : CallF) (lf : Nat) (F26 : Value → Value → Value → Value → Heap → Ans) (T : Tmps) (h : Heap) : execK E cf lf 188 k6_27 T h (seqK (fun T h => F26 (T 5) (T 9) (T 11) (T 13) h) (blockK 2 (seqK (fun T h => p6_22 cf lf h) (finK E [.tmp 2])))) = p6_27 cf lf F26 (T 5) (T 9) (T 11) (T 13) h := by simp only [k6_27, k6_28, k6_29, k6_30, k6_32, k6_33, k6_38, execK_all, p6_31_ok, p6_34_ok, p6_39_ok]; delta p6_27; generalize p6_31 = G0; generalize p6_34 = G1; generalize p6_39 = G2; as_aux_lemma => kernel_rfl
def l6_26 (cf : CallF) (lf : Nat) : Nat → Value → Value → Value → Value → Heap → Ans
 | 0, _, _, _, _, _ => none
 | n + 1, s5, s9, s11, s13, h => p6_27 cf lf (l6_26 cf lf n) s5 s9 s11 s13 h
theorem l6_26_ok (cf : CallF) (lf : Nat) (n : Nat) : ∀ (T : Tmps) (h : Heap), iterK (fun T h K => execK E cf lf 188 k6_27 T h K) (blockK 2 (seqK (fun T h => p6_22 cf lf h) (finK E [.tmp 2]))) n T h = l6_26 cf lf n (T 5) (T 9) (T 11) (T 13) h := by
 induction n with
 | zero => intro T h; rfl
 | succ n ih =>
  intro T h
  rw [iterK_succ, show iterK (fun T h K => execK E cf lf 188 k6_27 T h K) (blockK 2 (seqK (fun T h => p6_22 cf lf h) (finK E [.tmp 2]))) n = (fun T h => l6_26 cf lf n (T 5) (T 9) (T 11) (T 13) h) from funext fun T => funext fun h => ih T h]
  exact p6_27_ok cf lf (l6_26 cf lf n) T h
def p6_25 (cf : CallF) (lf : Nat) (s5 : Value) (s9 : Value) (s11 : Value) (s13 : Value) (h : Heap) : Ans :=
 l6_26 cf lf lf s5 s9 s11 s13 h
theorem p6_25_ok (cf : CallF) (lf : Nat) (T : Tmps) (h : Heap) : execK E cf lf 188 k6_25 T h (seqK (fun T h => p6_22 cf lf h) (finK E [.tmp 2])) = p6_25 cf lf (T 5) (T 9) (T 11) (T 13) h := by simp only [k6_25, k6_26, execK_all, l6_26_ok]; delta p6_25; generalize l6_26 = G0; as_aux_lemma => kernel_rfl
def p6_19 (cf : CallF) (lf : Nat) (s5 : Value) (s9 : Value) (s11 : Value) (s94 : Value) (h : Heap) : Ans :=
 condV s94 (
  some (.ret (.bool false), h)
 ) (
  p6_25 cf lf s5 s9 s11 (.int .i64 (0)) h
 )
theorem p6_19_ok (cf : CallF) (lf : Nat) (T : Tmps) (h : Heap) : execK E cf lf 188 k6_19 T h (seqK (fun T h => execK E cf lf 188 k6_17 T h (finK E [.tmp 2])) (finK E [.tmp 2])) = p6_19 cf lf (T 5) (T 9) (T 11) (T 94) h := by simp only [k6_17, k6_19, k6_20, k6_24, execK_all, p6_22_ok, p6_25_ok]; delta p6_19; generalize p6_22 = G0; generalize p6_25 = G1; as_aux_lemma => kernel_rfl
def p6_14 (cf : CallF) (lf : Nat) (s5 : Value) (s9 : Value) (s10 : Value) (s11 : Value) (s12 : Value) (s74 : Value) (h : Heap) : Ans :=
 condV s74 (
  some (.ret (.bool true), h)
 ) (
  bindO (binA E 24 .neq s10 (.nilIface)) fun t76 =>
  bindO (gO (boolIs false t76) (some s12)) fun t78 =>
  bindO (gO (boolIs false t76) (binA E 24 .neq t78 (.nilIface))) fun t79 =>
  bindO (pickA t76 (.bool true) t79) fun t80 =>
  bindO (gO (boolIs false t80) (some s9)) fun t82 =>
  bindO (gO (boolIs false t80) (lenA E 22 t82)) fun t83 =>
  bindO (gO (boolIs false t80) (some s5)) fun t84 =>
  bindO (gO (boolIs false t80) (lenA E 40 t84)) fun t85 =>
  bindO (gO (boolIs false t80) (binB E 3 .neq t83 t85)) fun t86 =>
  bindO (pickA t80 (.bool true) t86) fun t87 =>
  bindO (gO (boolIs false t87) (some s11)) fun t89 =>
  bindO (gO (boolIs false t87) (lenA E 22 t89)) fun t90 =>
  bindO (gO (boolIs false t87) (some s5)) fun t91 =>
  bindO (gO (boolIs false t87) (lenA E 40 t91)) fun t92 =>
  bindO (gO (boolIs false t87) (binB E 3 .neq t90 t92)) fun t93 =>
  bindO (pickA t87 (.bool true) t93) fun t94 =>
  p6_19 cf lf s5 s9 s11 t94 h
 )
theorem p6_14_ok (cf : CallF) (lf : Nat) (T : Tmps) (h : Heap) : execK E cf lf 188 k6_14 T h (seqK (fun T h => execK E cf lf 188 k6_12 T h (finK E [.tmp 2])) (finK E [.tmp 2])) = p6_14 cf lf (T 5) (T 9) (T 10) (T 11) (T 12) (T 74) h := by simp only [k6_12, k6_14, k6_15, k6_18, execK_all, p6_19_ok]; delta p6_14; generalize p6_19 = G0; as_aux_lemma => kernel_rfl
def p6_9 (cf : CallF) (lf : Nat) (s3 : Value) (s4 : Value) (s5 : Value) (h : Heap) : Ans :=
 bindR (cf 8 [s3] h) (fun v h => some (.panic v, h)) fun t59 h =>
 bindO (extractA t59 0) fun t60 =>
 bindO (extractA t59 1) fun t61 =>
 bindR (cf 8 [s4] h) (fun v h => some (.panic v, h)) fun t64 h =>
 bindO (extractA t64 0) fun t65 =>
 bindO (extractA t64 1) fun t66 =>
 bindO (lenA E 9 s3) fun t68 =>
 bindO (binA E 3 .gtr t68 (.int .i64 (4000))) fun t69 =>
 bindO (gO (boolIs false t69) (some s4)) fun t71 =>
 bindO (gO (boolIs false t69) (lenA E 9 t71)) fun t72 =>
 bindO (gO (boolIs false t69) (binA E 3 .gtr t72 (.int .i64 (4000)))) fun t73 =>
 bindO (pickA t69 (.bool true) t73) fun t74 =>
 p6_14 cf lf s5 t60 t61 t65 t66 t74 h
theorem p6_9_ok (cf : CallF) (lf : Nat) (T : Tmps) (h : Heap) : execK E cf lf 188 k6_9 T h (finK E [.tmp 2]) = p6_9 cf lf (T 3) (T 4) (T 5) h := by simp only [k6_10, k6_11, k6_13, k6_9, execK_all, p6_14_ok]; delta p6_9; generalize p6_14 = G0; as_aux_lemma => kernel_rfl
def p6_49 (cf : CallF) (lf : Nat) (F44 : Value → Value → Value → Value → Value → Heap → Ans) (s0 : Value) (s3 : Value) (s4 : Value) (s5 : Value) (s6 : Value) (h : Heap) : Ans :=
 bindO (binA E 3 .add s6 (.int .i64 (1))) fun t25 =>
 F44 s0 s3 s4 s5 t25 h
theorem p6_49_ok (cf : CallF) (lf : Nat) (F44 : Value → Value → Value → Value → Value → Heap → Ans) (T : Tmps) (h : Heap) : execK E cf lf 188 k6_49 T h (seqK (fun T h => F44 (T 0) (T 3) (T 4) (T 5) (T 6) h) (blockK 0 (seqK (fun T h => p6_9 cf lf (T 3) (T 4) (T 5) h) (finK E [.tmp 2])))) = p6_49 cf lf F44 (T 0) (T 3) (T 4) (T 5) (T 6) h := by kernel_rfl
def p6_52 (cf : CallF) (lf : Nat) (F44 : Value → Value → Value → Value → Value → Heap → Ans) (s0 : Value) (s3 : Value) (s4 : Value) (s5 : Value) (s6 : Value) (s7 : Value) (h : Heap) : Ans :=
 bindO (binA E 9 .add s3 (.string (mkS [39]))) fun t39 =>
 bindO (binB E 9 .add t39 s7) fun t41 =>
 bindO (binA E 9 .add t41 (.string (mkS [39, 32]))) fun t42 =>
 bindR (cf 17 [s7, (.string (mkS [92])), (.string (mkS [92, 92]))] h) (fun v h => some (.panic v, h)) fun t44 h =>
 bindR (cf 17 [t44, (.string (mkS [34])), (.string (mkS [92, 34]))] h) (fun v h => some (.panic v, h)) fun t45 h =>
 bindR (cf 17 [t45, (.string (mkS [36])), (.string (mkS [92, 36]))] h) (fun v h => some (.panic v, h)) fun t46 h =>
 bindR (cf 17 [t46, (.string (mkS [96])), (.string (mkS [92, 96]))] h) (fun v h => some (.panic v, h)) fun t47 h =>
 bindO (binA E 9 .add s4 (.string (mkS [34]))) fun t49 =>
 bindO (binB E 9 .add t49 t47) fun t51 =>
 bindO (binA E 9 .add t51 (.string (mkS [34, 9]))) fun t52 =>
 bindR (valR (buildSliceA E 40 1 [(0, s7)] h)) (fun v h => some (.panic v, h)) fun t55 h =>
 bindR (valR (appendA E 40 s5 t55 h)) (fun v h => some (.panic v, h)) fun t56 h =>
 p6_49 cf lf F44 s0 t42 t52 t56 s6 h
theorem p6_52_ok (cf : CallF) (lf : Nat) (F44 : Value → Value → Value → Value → Value → Heap → Ans) (T : Tmps) (h : Heap) : execK E cf lf 188 k6_52 T h (blockK 1 (seqK (fun T h => p6_49 cf lf F44 (T 0) (T 3) (T 4) (T 5) (T 6) h) (seqK (fun T h => F44 (T 0) (T 3) (T 4) (T 5) (T 6) h) (blockK 0 (seqK (fun T h => p6_9 cf lf (T 3) (T 4) (T 5) h) (finK E [.tmp 2])))))) = p6_52 cf lf F44 (T 0) (T 3) (T 4) (T 5) (T 6) (T 7) h := by kernel_rfl
def p6_45 (cf : CallF) (lf : Nat) (F44 : Value → Value → Value → Value → Value → Heap → Ans) (s0 : Value) (s3 : Value) (s4 : Value) (s5 : Value) (s6 : Value) (h : Heap) : Ans :=
 bindO (lenA E 40 s0) fun t18 =>
 bindO (binB E 3 .lss s6 t18) fun t19 =>
 bindO (gO (boolIs true t19) (some s6)) fun t21 =>
 bindO (gO (boolIs true t19) (binA E 3 .lss t21 (.int .i64 (20)))) fun t22 =>
 bindO (pickA t19 t22 (.bool false)) fun t23 =>
 condV t23 (
  bindO (indexAddrA E 40 s0 s6) fun t28 =>
  bindO (loadA E 9 t28 h) fun t29 =>
  bindO (indexAddrA E 40 s0 s6) fun t32 =>
  bindO (loadA E 9 t32 h) fun t33 =>
  bindO (lenA E 9 t33) fun t34 =>
  bindO (minL [t34, (.int .i64 (100))]) fun t35 =>
  bindO (sliceA E 9 t29 none (some t35) h) fun t36 =>
  bindR (cf 17 [t36, (.string (mkS [39])), (.string (mkS []))] h) (fun v h => some (.panic v, h)) fun t37 h =>
  p6_52 cf lf F44 s0 s3 s4 s5 s6 t37 h
 ) (
  p6_9 cf lf s3 s4 s5 h
 )
theorem p6_45_ok (cf : CallF) (lf : Nat) (F44 : Value → Value → Value → Value → Value → Heap → Ans) (T : Tmps) (h : Heap) : execK E cf lf 188 k6_45 T h (seqK (fun T h => F44 (T 0) (T 3) (T 4) (T 5) (T 6) h) (blockK 0 (seqK (fun T h => p6_9 cf lf (T 3) (T 4) (T 5) h) (finK E [.tmp 2])))) = p6_45 cf lf F44 (T 0) (T 3) (T 4) (T 5) (T 6) h := by simp only [k6_45, k6_46, k6_47, k6_48, k6_50, k6_51, execK_all, p6_49_ok, p6_52_ok]; delta p6_45; generalize p6_49 = G0; generalize p6_52 = G1; as_aux_lemma => kernel_rfl
def l6_44 (cf : CallF) (lf : Nat) : Nat → Value → Value → Value → Value → Value → Heap → Ans
 | 0, _, _, _, _, _, _ => none
 | n + 1, s0, s3, s4, s5, s6, h => p6_45 cf lf (l6_44 cf lf n) s0 s3 s4 s5 s6 h
theorem l6_44_ok (cf : CallF) (lf : Nat) (n : Nat) : ∀ (T : Tmps) (h : Heap), iterK (fun T h K => execK E cf lf 188 k6_45 T h K) (blockK 0 (seqK (fun T h => p6_9 cf lf (T 3) (T 4) (T 5) h) (finK E [.tmp 2]))) n T h = l6_44 cf lf n (T 0) (T 3) (T 4) (T 5) (T 6) h := by
 induction n with
 | zero => intro T h; rfl
 | succ n ih =>
  intro T h
  rw [iterK_succ, show iterK (fun T h K => execK E cf lf 188 k6_45 T h K) (blockK 0 (seqK (fun T h => p6_9 cf lf (T 3) (T 4) (T 5) h) (finK E [.tmp 2]))) n = (fun T h => l6_44 cf lf n (T 0) (T 3) (T 4) (T 5) (T 6) h) from funext fun T => funext fun h => ih T h]
  exact p6_45_ok cf lf (l6_44 cf lf n) T h
def p6_43 (cf : CallF) (lf : Nat) (s0 : Value) (s3 : Value) (s4 : Value) (s5 : Value) (s6 : Value) (h : Heap) : Ans :=
 l6_44 cf lf lf s0 s3 s4 s5 s6 h
theorem p6_43_ok (cf : CallF) (lf : Nat) (T : Tmps) (h : Heap) : execK E cf lf 188 k6_43 T h (seqK (fun T h => p6_9 cf lf (T 3) (T 4) (T 5) h) (finK E [.tmp 2])) = p6_43 cf lf (T 0) (T 3) (T 4) (T 5) (T 6) h := by simp only [k6_43, k6_44, execK_all, l6_44_ok]; delta p6_43; generalize l6_44 = G0; as_aux_lemma => kernel_rfl
def p6_0 (cf : CallF) (lf : Nat) (s0 : Value) (h : Heap) : Ans :=
 bindR (cf 12 [] h) (fun v h => some (.panic v, h)) fun t14 h =>
 bindO (unA .not t14) fun t15 =>
 condV t15 (
  some (.ret (.bool false), h)
 ) (
  p6_43 cf lf s0 (.string (mkS [])) (.string (mkS [])) (.slice none 0 0) (.int .i64 (0)) h
 )
theorem p6_0_ok (cf : CallF) (lf : Nat) (T : Tmps) (h : Heap) : execK E cf lf 188 k6_0 T h (finK E [.tmp 2]) = p6_0 cf lf (T 0) h := by simp only [k6_0, k6_1, k6_2, k6_3, k6_4, k6_42, k6_5, k6_7, k6_8, execK_all, p6_43_ok, p6_9_ok]; delta p6_0; generalize p6_43 = G0; generalize p6_9 = G1; as_aux_lemma => kernel_rfl
def f6 (cf : CallF) (lf : Nat) (a0 : Value) (h : Heap) : Ans := p6_0 cf lf a0 h
theorem f6_ok (cf : CallF) (lf : Nat) (a0 : Value) (h : Heap) : stepN E cf lf 6 [a0] h = f6 cf lf a0 h := (show stepN E cf lf 6 [a0] h = execK E cf lf 188 k6_0 (T0 [a0]) h (finK E [.tmp 2]) by kernel_rfl).trans ((p6_0_ok cf lf (T0 [a0]) h).trans (by kernel_rfl))
noncomputable def kc7 := codeOf Tryd.f7
def k7_52 := cp kc7 [1, 1, 1, 1, 1, 0, 1, 0, 0, 1, 0, 0, 1, 0, 0]
def k7_36 := cp kc7 [1, 1, 1, 1, 1, 0, 1, 0, 0, 1, 0, 0, 1, 0, 1]
def k7_35 : Code := .seq k7_52 k7_36
def k7_51 := cp kc7 [1, 1, 1, 1, 1, 0, 1, 0, 0, 1, 0, 0, 1, 1]
def k7_50 := cp kc7 [1, 1, 1, 1, 1, 0, 1, 0, 0, 1, 0, 0, 0]
def k7_34 : Code := .cond (.tmp 95) k7_35 k7_51
def k7_48 := cp kc7 [1, 1, 1, 1, 1, 0, 1, 0, 0, 0, 1, 0]
def k7_49 := cp kc7 [1, 1, 1, 1, 1, 0, 1, 0, 0, 0, 1, 1]
def k7_33 : Code := .seq k7_50 k7_34
def k7_47 := cp kc7 [1, 1, 1, 1, 1, 0, 1, 0, 0, 0, 0]
def k7_30 : Code := .cond (.tmp 33) k7_48 k7_49
def k7_32 : Code := .block 1 k7_33
def k7_31 := cp kc7 [1, 1, 1, 1, 1, 0, 1, 0, 0, 1, 1]
def k7_56 := cp kc7 [1, 1, 1, 1, 1, 1, 1, 0, 1, 0, 0]
def k7_20 := cp kc7 [1, 1, 1, 1, 1, 1, 1, 0, 1, 0, 1]
def k7_59 := cp kc7 [1, 1, 1, 1, 1, 1, 1, 1, 1, 1, 0]
def k7_23 := cp kc7 [1, 1, 1, 1, 1, 1, 1, 1, 1, 1, 1]
def k7_29 : Code := .seq k7_47 k7_30
def k7_28 : Code := .seq k7_32 k7_31
def k7_19 : Code := .seq k7_56 k7_20
def k7_55 := cp kc7 [1, 1, 1, 1, 1, 1, 1, 0, 1, 1]
def k7_58 := cp kc7 [1, 1, 1, 1, 1, 1, 1, 1, 1, 0]
def k7_22 : Code := .seq k7_59 k7_23
def k7_27 : Code := .seq k7_29 k7_28
def k7_54 := cp kc7 [1, 1, 1, 1, 1, 1, 1, 0, 0]
def k7_18 : Code := .cond (.tmp 103) k7_19 k7_55
def k7_57 := cp kc7 [1, 1, 1, 1, 1, 1, 1, 1, 0]
def k7_21 : Code := .seq k7_58 k7_22
def k7_45 := cp kc7 [1, 1, 1, 1, 0, 1, 0, 0]
def k7_13 := cp kc7 [1, 1, 1, 1, 0, 1, 0, 1]
def k7_26 : Code := .loop k7_27
def k7_17 : Code := .seq k7_54 k7_18
def k7_16 : Code := .seq k7_57 k7_21
def k7_12 : Code := .seq k7_45 k7_13
def k7_44 := cp kc7 [1, 1, 1, 1, 0, 1, 1]
def k7_46 := cp kc7 [1, 1, 1, 1, 1, 0, 0]
def k7_25 : Code := .block 0 k7_26
def k7_53 := cp kc7 [1, 1, 1, 1, 1, 1, 0]
def k7_15 : Code := .seq k7_17 k7_16
def k7_43 := cp kc7 [1, 1, 1, 1, 0, 0]
def k7_11 : Code := .cond (.tmp 26) k7_12 k7_44
def k7_24 : Code := .seq k7_46 k7_25
def k7_14 : Code := .seq k7_53 k7_15
def k7_40 := cp kc7 [1, 0, 1, 0, 0]
def k7_6 := cp kc7 [1, 0, 1, 0, 1]
def k7_10 : Code := .seq k7_43 k7_11
def k7_9 : Code := .seq k7_24 k7_14
def k7_5 : Code := .seq k7_40 k7_6
def k7_39 := cp kc7 [1, 0, 1, 1]
def k7_42 := cp kc7 [1, 1, 1, 0]
def k7_8 : Code := .seq k7_10 k7_9
def k7_38 := cp kc7 [1, 0, 0]
def k7_4 : Code := .cond (.tmp 14) k7_5 k7_39
def k7_41 := cp kc7 [1, 1, 0]
def k7_7 : Code := .seq k7_42 k7_8
def k7_3 : Code := .seq k7_38 k7_4
def k7_2 : Code := .seq k7_41 k7_7
def k7_37 := cp kc7 [0]
def k7_1 : Code := .seq k7_3 k7_2
def k7_0 : Code := .seq k7_37 k7_1
def p7_22 (cf : CallF) (lf : Nat) (s9 : Value) (s10 : Value) (s11 : Value) (s12 : Value) (h : Heap) : Ans :=
 bindO (binA E 24 .eql s10 (.nilIface)) fun t119 =>
 bindO (gO (boolIs true t119) (some s12)) fun t121 =>
 bindO (gO (boolIs true t119) (binA E 24 .eql t121 (.nilIface))) fun t122 =>
 bindO (pickA t119 t122 (.bool false)) fun t123 =>
 bindO (gO (boolIs true t123) (some s9)) fun t125 =>
 bindO (gO (boolIs true t123) (some s11)) fun t126 =>
 bindR (gR (boolIs true t123) (cf 11 [t125, t126] h) h) (fun v h => some (.panic v, h)) fun t127 h =>
 bindO (pickA t123 t127 (.bool false)) fun t128 =>
 some (.ret t128, h)
theorem p7_22_ok (cf : CallF) (lf : Nat) (T : Tmps) (h : Heap) : execK E cf lf 129 k7_22 T h (finK E [.tmp 4]) = p7_22 cf lf (T 9) (T 10) (T 11) (T 12) h := by kernel_rfl
def p7_14 (cf : CallF) (lf : Nat) (s0 : Value) (s1 : Value) (h : Heap) : Ans :=
 bindO (lenA E 9 s1) fun t98 =>
 bindO (minL [t98, (.int .i64 (100))]) fun t99 =>
 bindO (sliceA E 9 s1 none (some t99) h) fun t100 =>
 bindR (cf 17 [t100, (.string (mkS [10])), (.string (mkS []))] h) (fun v h => some (.panic v, h)) fun t101 h =>
 bindR (cf 13 [s0, (.string (mkS [92]))] h) (fun v h => some (.panic v, h)) fun t103 h =>
 condV t103 (
  some (.ret (.bool true), h)
 ) (
  bindO (binA E 9 .add s0 (.string (mkS [10, 35, 32]))) fun t106 =>
  bindO (binB E 9 .add t106 t101) fun t108 =>
  bindR (cf 8 [t108] h) (fun v h => some (.panic v, h)) fun t109 h =>
  bindO (extractA t109 0) fun t110 =>
  bindO (extractA t109 1) fun t111 =>
  bindO (binA E 9 .add s0 (.string (mkS [10]))) fun t114 =>
  bindR (cf 8 [t114] h) (fun v h => some (.panic v, h)) fun t115 h =>
  bindO (extractA t115 0) fun t116 =>
  bindO (extractA t115 1) fun t117 =>
  p7_22 cf lf t110 t111 t116 t117 h
 )
theorem p7_14_ok (cf : CallF) (lf : Nat) (T : Tmps) (h : Heap) : execK E cf lf 129 k7_14 T h (finK E [.tmp 4]) = p7_14 cf lf (T 0) (T 1) h := by simp only [k7_14, k7_15, k7_16, k7_17, k7_18, k7_19, k7_21, execK_all, p7_22_ok]; delta p7_14; generalize p7_22 = G0; as_aux_lemma => kernel_rfl
def p7_31 (cf : CallF) (lf : Nat) (F26 : Value → Value → Value → Value → Heap → Ans) (s0 : Value) (s1 : Value) (s5 : Value) (s7 : Value) (h : Heap) : Ans :=
 bindO (binA E 3 .add s7 (.int .i64 (1))) fun t35 =>
 F26 s0 s1 s5 t35 h
theorem p7_31_ok (cf : CallF) (lf : Nat) (F26 : Value → Value → Value → Value → Heap → Ans) (T : Tmps) (h : Heap) : execK E cf lf 129 k7_31 T h (seqK (fun T h => F26 (T 0) (T 1) (T 5) (T 7) h) (blockK 0 (seqK (fun T h => p7_14 cf lf (T 0) (T 1) h) (finK E [.tmp 4])))) = p7_31 cf lf F26 (T 0) (T 1) (T 5) (T 7) h := by kernel_rfl
def p7_34 (cf : CallF) (lf : Nat) (F26 : Value → Value → Value → Value → Heap → Ans) (s0 : Value) (s1 : Value) (s5 : Value) (s7 : Value) (s95 : Value) (h : Heap) : Ans :=
 condV s95 (
  some (.ret (.bool false), h)
 ) (
  p7_31 cf lf F26 s0 s1 s5 s7 h
 )
theorem p7_34_ok (cf : CallF) (lf : Nat) (F26 : Value → Value → Value → Value → Heap → Ans) (T : Tmps) (h : Heap) : execK E cf lf 129 k7_34 T h (blockK 1 (seqK (fun T h => p7_31 cf lf F26 (T 0) (T 1) (T 5) (T 7) h) (seqK (fun T h => F26 (T 0) (T 1) (T 5) (T 7) h) (blockK 0 (seqK (fun T h => p7_14 cf lf (T 0) (T 1) h) (finK E [.tmp 4])))))) = p7_34 cf lf F26 (T 0) (T 1) (T 5) (T 7) (T 95) h := by kernel_rfl
def p7_27 (cf : CallF) (lf : Nat) (F26 : Value → Value → Value → Value → Heap → Ans) (s0 : Value) (s1 : Value) (s5 : Value) (s7 : Value) (h : Heap) : Ans :=
 bindO (lenA E 22 s5) fun t32 =>
 bindO (binB E 3 .lss s7 t32) fun t33 =>
 condV t33 (
  bindO (indexAddrA E 22 s5 s7) fun t38 =>
  bindO (fieldAddrA E 39 t38 4) fun t39 =>
  bindO (loadA E 3 t39 h) fun t40 =>
  bindO (binA E 3 .lss t40 (.int .i64 (0))) fun t41 =>
  bindO (gO (boolIs false t41) (some s5)) fun t43 =>
  bindO (gO (boolIs false t41) (some s7)) fun t44 =>
  bindO (gO (boolIs false t41) (indexAddrA E 22 t43 t44)) fun t45 =>
  bindO (gO (boolIs false t41) (fieldAddrA E 39 t45 4)) fun t46 =>
  bindO (gO (boolIs false t41) (loadA E 3 t46 h)) fun t47 =>
  bindO (gO (boolIs false t41) (some s0)) fun t48 =>
  bindO (gO (boolIs false t41) (lenA E 9 t48)) fun t49 =>
  bindO (gO (boolIs false t41) (binB E 3 .geq t47 t49)) fun t50 =>
  bindO (pickA t41 (.bool true) t50) fun t51 =>
  bindO (gO (boolIs false t51) (some s7)) fun t53 =>
  bindO (gO (boolIs false t51) (binA E 3 .gtr t53 (.int .i64 (0)))) fun t54 =>
  bindO (gO (boolIs false t51) (some t54)) fun t55 =>
  bindO (gO (boolIs true t55) (some s5)) fun t56 =>
  bindO (gO (boolIs true t55) (some s7)) fun t57 =>
  bindO (gO (boolIs true t55) (indexAddrA E 22 t56 t57)) fun t58 =>
  bindO (gO (boolIs true t55) (fieldAddrA E 39 t58 4)) fun t59 =>
  bindO (gO (boolIs true t55) (loadA E 3 t59 h)) fun t60 =>
  bindO (gO (boolIs true t55) (some s5)) fun t61 =>
  bindO (gO (boolIs true t55) (some s7)) fun t62 =>
  bindO (gO (boolIs true t55) (binA E 3 .sub t62 (.int .i64 (1)))) fun t63 =>
  bindO (gO (boolIs true t55) (indexAddrA E 22 t61 t63)) fun t64 =>
  bindO (gO (boolIs true t55) (fieldAddrA E 39 t64 4)) fun t65 =>
  bindO (gO (boolIs true t55) (loadA E 3 t65 h)) fun t66 =>
  bindO (gO (boolIs true t55) (binB E 3 .lss t60 t66)) fun t67 =>
  bindO (gO (boolIs false t51) (pickA t55 t67 (.bool false))) fun t68 =>
  bindO (pickA t51 (.bool true) t68) fun t69 =>
  bindO (gO (boolIs false t69) (some s7)) fun t71 =>
  bindO (gO (boolIs false t69) (binA E 3 .gtr t71 (.int .i64 (0)))) fun t72 =>
  bindO (gO (boolIs false t69) (some t72)) fun t73 =>
  bindO (gO (boolIs true t73) (some s5)) fun t74 =>
  bindO (gO (boolIs true t73) (some s7)) fun t75 =>
  bindO (gO (boolIs true t73) (indexAddrA E 22 t74 t75)) fun t76 =>
  bindO (gO (boolIs true t73) (fieldAddrA E 39 t76 4)) fun t77 =>
  bindO (gO (boolIs true t73) (loadA E 3 t77 h)) fun t78 =>
  bindO (gO (boolIs true t73) (some s5)) fun t79 =>
  bindO (gO (boolIs true t73) (some s7)) fun t80 =>
  bindO (gO (boolIs true t73) (binA E 3 .sub t80 (.int .i64 (1)))) fun t81 =>
  bindO (gO (boolIs true t73) (indexAddrA E 22 t79 t81)) fun t82 =>
  bindO (gO (boolIs true t73) (fieldAddrA E 39 t82 4)) fun t83 =>
  bindO (gO (boolIs true t73) (loadA E 3 t83 h)) fun t84 =>
  bindO (gO (boolIs true t73) (binB E 3 .eql t78 t84)) fun t85 =>
  bindO (gO (boolIs false t69) (pickA t73 t85 (.bool false))) fun t86 =>
  bindO (gO (boolIs false t69) (some t86)) fun t87 =>
  bindO (gO (boolIs true t87) (some s5)) fun t88 =>
  bindO (gO (boolIs true t87) (some s7)) fun t89 =>
  bindO (gO (boolIs true t87) (indexAddrA E 22 t88 t89)) fun t90 =>
  bindO (gO (boolIs true t87) (fieldAddrA E 39 t90 0)) fun t91 =>
  bindO (gO (boolIs true t87) (loadA E 3 t91 h)) fun t92 =>
  bindO (gO (boolIs true t87) (binA E 3 .neq t92 (.int .i64 (3)))) fun t93 =>
  bindO (gO (boolIs false t69) (pickA t87 t93 (.bool false))) fun t94 =>
  bindO (pickA t69 (.bool true) t94) fun t95 =>
  p7_34 cf lf F26 s0 s1 s5 s7 t95 h
 ) (
  p7_14 cf lf s0 s1 h
 )
theorem p7_27_ok (cf : CallF) (lf : Nat) (F26 : Value → Value → Value → Value → Heap → Ans) (T : Tmps) (h : Heap) : execK E cf lf 129 k7_27 T h (seqK (fun T h => F26 (T 0) (T 1) (T 5) (T 7) h) (blockK 0 (seqK (fun T h => p7_14 cf lf (T 0) (T 1) h) (finK E [.tmp 4])))) = p7_27 cf lf F26 (T 0) (T 1) (T 5) (T 7) h := by simp only [k7_27, k7_28, k7_29, k7_30, k7_32, k7_33, execK_all, p7_31_ok, p7_34_ok]; delta p7_27; generalize p7_31 = G0; generalize p7_34 = G1; as_aux_lemma => kernel_rfl
def l7_26 (cf : CallF) (lf : Nat) : Nat → Value → Value → Value → Value → Heap → Ans
 | 0, _, _, _, _, _ => none
 | n + 1, s0, s1, s5, s7, h => p7_27 cf lf (l7_26 cf lf n) s0 s1 s5 s7 h
theorem l7_26_ok (cf : CallF) (lf : Nat) (n : Nat) : ∀ (T : Tmps) (h : Heap), iterK (fun T h K => execK E cf lf 129 k7_27 T h K) (blockK 0 (seqK (fun T h => p7_14 cf lf (T 0) (T 1) h) (finK E [.tmp 4]))) n T h = l7_26 cf lf n (T 0) (T 1) (T 5) (T 7) h := by
 induction n with
 | zero => intro T h; rfl
 | succ n ih =>
  intro T h
  rw [iterK_succ, show iterK (fun T h K => execK E cf lf 129 k7_27 T h K) (blockK 0 (seqK (fun T h => p7_14 cf lf (T 0) (T 1) h) (finK E [.tmp 4]))) n = (fun T h => l7_26 cf lf n (T 0) (T 1) (T 5) (T 7) h) from funext fun T => funext fun h => ih T h]
  exact p7_27_ok cf lf (l7_26 cf lf n) T h
def p7_25 (cf : CallF) (lf : Nat) (s0 : Value) (s1 : Value) (s5 : Value) (s7 : Value) (h : Heap) : Ans :=
 l7_26 cf lf lf s0 s1 s5 s7 h
theorem p7_25_ok (cf : CallF) (lf : Nat) (T : Tmps) (h : Heap) : execK E cf lf 129 k7_25 T h (seqK (fun T h => p7_14 cf lf (T 0) (T 1) h) (finK E [.tmp 4])) = p7_25 cf lf (T 0) (T 1) (T 5) (T 7) h := by simp only [k7_25, k7_26, execK_all, l7_26_ok]; delta p7_25; generalize l7_26 = G0; as_aux_lemma => kernel_rfl
def p7_0 (cf : CallF) (lf : Nat) (s0 : Value) (s1 : Value) (h : Heap) : Ans :=
 bindR (cf 12 [] h) (fun v h => some (.panic v, h)) fun t13 h =>
 bindO (unA .not t13) fun t14 =>
 condV t14 (
  some (.ret (.bool false), h)
 ) (
  bindO (lenA E 9 s0) fun t17 =>
  bindO (minL [t17, (.int .i64 (3000))]) fun t18 =>
  bindO (sliceA E 9 s0 none (some t18) h) fun t19 =>
  bindR (cf 8 [t19] h) (fun v h => some (.panic v, h)) fun t22 h =>
  bindO (extractA t22 0) fun t23 =>
  bindO (extractA t22 1) fun t24 =>
  bindO (binA E 24 .neq t24 (.nilIface)) fun t26 =>
  condV t26 (
   bindO (lenA E 22 t23) fun t28 =>
   bindO (binA E 3 .eql t28 (.int .i64 (0))) fun t29 =>
   some (.ret t29, h)
  ) (
   p7_25 cf lf t19 s1 t23 (.int .i64 (0)) h
  )
 )
theorem p7_0_ok (cf : CallF) (lf : Nat) (T : Tmps) (h : Heap) : execK E cf lf 129 k7_0 T h (finK E [.tmp 4]) = p7_0 cf lf (T 0) (T 1) h := by simp only [k7_0, k7_1, k7_10, k7_11, k7_12, k7_2, k7_24, k7_3, k7_4, k7_5, k7_7, k7_8, k7_9, execK_all, p7_14_ok, p7_25_ok]; delta p7_0; generalize p7_14 = G0; generalize p7_25 = G1; as_aux_lemma => kernel_rfl
def f7 (cf : CallF) (lf : Nat) (a0 : Value) (a1 : Value) (h : Heap) : Ans := p7_0 cf lf a0 a1 h
theorem f7_ok (cf : CallF) (lf : Nat) (a0 a1 : Value) (h : Heap) : stepN E cf lf 7 [a0, a1] h = f7 cf lf a0 a1 h := (show stepN E cf lf 7 [a0, a1] h = execK E cf lf 129 k7_0 (T0 [a0, a1]) h (finK E [.tmp 4]) by kernel_rfl).trans ((p7_0_ok cf lf (T0 [a0, a1]) h).trans (by kernel_rfl))
end
end Go.Proofs.YteekjekckgpbfaaDoor.Abs
end
