/- A part of the proof: the abstract machine, the printed functions, what they compute. -/
import Derived.Test.YteekjekckgpbfaaDoorM1
import Derived.KernelRfl
set_option linter.unusedVariables false
set_option linter.unusedSimpArgs false
set_option linter.defProp false
set_option linter.unnecessarySimpa false
section
set_option maxRecDepth 100000
namespace Go.Proofs.YteekjekckgpbfaaDoor.Abs
noncomputable section
noncomputable def kc18 := codeOf Tryd.f18
def k18_12 := cp kc18 [1, 1, 0, 1, 0, 1, 0]
def k18_13 := cp kc18 [1, 1, 0, 1, 0, 1, 1]
def k18_11 := cp kc18 [1, 1, 0, 1, 0, 0]
def k18_6 : Code := .cond (.tmp 14) k18_12 k18_13
def k18_5 : Code := .seq k18_11 k18_6
def k18_4 := cp kc18 [1, 1, 0, 1, 1]
def k18_10 := cp kc18 [1, 1, 0, 0]
def k18_3 : Code := .seq k18_5 k18_4
def k18_2 : Code := .seq k18_10 k18_3
def k18_9 := cp kc18 [1, 1, 1]
def k18_8 := cp kc18 [1, 0]
def k18_1 : Code := .cond (.tmp 7) k18_2 k18_9
def k18_7 := cp kc18 [0]
def k18_0 : Code := .seq k18_8 k18_1
def p18_4 (cf : CallF) (lf : Nat) (KE : Heap → Ans) (s0 : Value) (s1 : Value) (s3 : Value) (h : Heap) : Ans :=
 bindO (ifaceA E 51 s3) fun t17 =>
 bindR (skipR (storeA E 22 s0 (.slice none 0 0) h)) (fun v h => none) fun _ h =>
 bindR (skipR (storeA E 24 s1 t17 h)) (fun v h => none) fun _ h =>
 KE h
theorem p18_4_ok (cf : CallF) (lf : Nat) (KE : Heap → Ans) (T : Tmps) (h : Heap) : execK E cf lf 18 k18_4 T h (endK KE) = p18_4 cf lf KE (T 0) (T 1) (T 3) h := by kernel_rfl
def p18_0 (cf : CallF) (lf : Nat) (KE : Heap → Ans) (s0 : Value) (s1 : Value) (s2 : Value) (h : Heap) : Ans :=
 bindO (binA E 20 .neq s2 (.nilIface)) fun t7 =>
 condV t7 (
  bindO (assertA E s2 51 true) fun t10 =>
  bindO (extractA t10 0) fun t11 =>
  bindO (extractA t10 1) fun t12 =>
  bindO (unA .not t12) fun t14 =>
  condV t14 (
   bindR (panicA s2 h) (fun v h => none) fun _ h =>
   p18_4 cf lf KE s0 s1 t11 h
  ) (
   p18_4 cf lf KE s0 s1 t11 h
  )
 ) (
  KE h
 )
theorem p18_0_ok (cf : CallF) (lf : Nat) (KE : Heap → Ans) (T : Tmps) (h : Heap) : execK E cf lf 18 k18_0 T h (endK KE) = p18_0 cf lf KE (T 0) (T 1) (T 2) h := by simp only [k18_0, k18_1, k18_2, k18_3, k18_5, k18_6, execK_all, p18_4_ok]; delta p18_0; generalize p18_4 = G0; as_aux_lemma => kernel_rfl
def d18 (cf : CallF) (lf : Nat) (a0 : Value) (a1 : Value) (asked : Value) (h : Heap) (KE : Heap → Ans) : Ans :=
 p18_0 cf lf KE a0 a1 asked h
theorem d18_ok (cf : CallF) (lf : Nat) (a0 : Value) (a1 : Value) (asked : Value) (h : Heap) (KE : Heap → Ans) : deferredK E cf lf Tryd.f18 [a0, a1] asked h KE = d18 cf lf a0 a1 asked h KE := by
 refine Eq.trans (show deferredK E cf lf Tryd.f18 [a0, a1] asked h KE = opsK E cf 18 (opsOf k18_7) (opsOf k18_7).tail (putT 18 (T0 [a0, a1]) (some 5) asked) h (seqK (fun T h => execK E cf lf 18 k18_0 T h (endK KE)) (endK KE)) by kernel_rfl) ?_
 simp only [p18_0_ok]; delta d18; generalize p18_0 = G0; as_aux_lemma => kernel_rfl
def f3 (cf : CallF) (lf : Nat) (a0 : Value) (h : Heap) : Ans :=
 bindO (lenA E 9 a0) fun t9 =>
 bindO (minL [t9, (.int .i64 (4100))]) fun t10 =>
 bindO (sliceA E 9 a0 none (some t10) h) fun t11 =>
 bindR (cf 8 [t11] h) (fun v h => some (.panic v, h)) fun t14 h =>
 bindO (extractA t14 0) fun t15 =>
 bindO (extractA t14 1) fun t16 =>
 bindR (cf 9 [t11] h) (fun v h => some (.panic v, h)) fun t19 h =>
 bindO (extractA t19 0) fun t20 =>
 bindO (extractA t19 1) fun t21 =>
 bindR (valR (allocA E 29 h)) (fun v h => some (.panic v, h)) fun t6 h =>
 bindR (skipR (storeA E 29 t6 t21 h)) (fun v h => some (.panic v, h)) fun _ h =>
 bindO (loadA E 29 t6 h) fun t23 =>
 bindR (cf 10 [t16, t23] h) (fun v h => some (.panic v, h)) fun t24 h =>
 bindO (gO (boolIs true t24) (some t15)) fun t26 =>
 bindO (gO (boolIs true t24) (some t20)) fun t27 =>
 bindR (gR (boolIs true t24) (cf 11 [t26, t27] h) h) (fun v h => some (.panic v, h)) fun t28 h =>
 bindO (pickA t24 t28 (.bool false)) fun t29 =>
 bindR (gR (boolIs true t29) (cf 12 [] h) h) (fun v h => some (.panic v, h)) fun t31 h =>
 bindO (pickA t29 t31 (.bool false)) fun t32 =>
 some (.ret t32, h)
theorem f3_ok (cf : CallF) (lf : Nat) (a0 : Value) (h : Heap) : stepN E cf lf 3 [a0] h = f3 cf lf a0 h := by kernel_rfl
noncomputable def kc8 := codeOf Tryd.f8
def k8_59 := cp kc8 [1, 1, 1, 1, 1, 0, 0, 0, 0, 1, 1, 1, 0, 0, 1, 1, 0, 0, 1, 1, 0]
def k8_60 := cp kc8 [1, 1, 1, 1, 1, 0, 0, 0, 0, 1, 1, 1, 0, 0, 1, 1, 0, 0, 1, 1, 1]
def k8_58 := cp kc8 [1, 1, 1, 1, 1, 0, 0, 0, 0, 1, 1, 1, 0, 0, 1, 1, 0, 0, 1, 0]
def k8_26 : Code := .cond (.tmp 47) k8_59 k8_60
def k8_57 := cp kc8 [1, 1, 1, 1, 1, 0, 0, 0, 0, 1, 1, 1, 0, 0, 1, 1, 0, 0, 0]
def k8_25 : Code := .seq k8_58 k8_26
def k8_24 : Code := .seq k8_57 k8_25
def k8_55 := cp kc8 [1, 1, 1, 1, 1, 0, 0, 0, 0, 1, 1, 1, 0, 0, 1, 0, 0]
def k8_56 := cp kc8 [1, 1, 1, 1, 1, 0, 0, 0, 0, 1, 1, 1, 0, 0, 1, 0, 1]
def k8_23 : Code := .block 5 k8_24
def k8_22 := cp kc8 [1, 1, 1, 1, 1, 0, 0, 0, 0, 1, 1, 1, 0, 0, 1, 1, 1]
def k8_21 : Code := .cond (.tmp 43) k8_55 k8_56
def k8_20 : Code := .seq k8_23 k8_22
def k8_47 := cp kc8 [1, 1, 1, 1, 1, 0, 0, 0, 0, 0, 0, 0, 0, 1, 0]
def k8_48 := cp kc8 [1, 1, 1, 1, 1, 0, 0, 0, 0, 0, 0, 0, 0, 1, 1]
def k8_54 := cp kc8 [1, 1, 1, 1, 1, 0, 0, 0, 0, 1, 1, 1, 0, 0, 0]
def k8_19 : Code := .seq k8_21 k8_20
def k8_46 := cp kc8 [1, 1, 1, 1, 1, 0, 0, 0, 0, 0, 0, 0, 0, 0]
def k8_32 : Code := .cond (.tmp 36) k8_47 k8_48
def k8_49 := cp kc8 [1, 1, 1, 1, 1, 0, 0, 0, 0, 0, 0, 0, 1, 0]
def k8_18 : Code := .seq k8_54 k8_19
def k8_31 : Code := .seq k8_46 k8_32
def k8_30 : Code := .block 3 k8_49
def k8_51 := cp kc8 [1, 1, 1, 1, 1, 0, 0, 0, 0, 1, 0, 1, 0]
def k8_52 := cp kc8 [1, 1, 1, 1, 1, 0, 0, 0, 0, 1, 0, 1, 1]
def k8_17 : Code := .loop k8_18
def k8_29 : Code := .seq k8_31 k8_30
def k8_50 := cp kc8 [1, 1, 1, 1, 1, 0, 0, 0, 0, 1, 0, 0]
def k8_15 : Code := .cond (.tmp 39) k8_51 k8_52
def k8_53 := cp kc8 [1, 1, 1, 1, 1, 0, 0, 0, 0, 1, 1, 0]
def k8_16 : Code := .block 4 k8_17
def k8_28 : Code := .loop k8_29
def k8_14 : Code := .seq k8_50 k8_15
def k8_13 : Code := .seq k8_53 k8_16
def k8_27 : Code := .block 2 k8_28
def k8_12 : Code := .seq k8_14 k8_13
def k8_11 : Code := .seq k8_27 k8_12
def k8_62 := cp kc8 [1, 1, 1, 1, 1, 1, 0, 1, 0]
def k8_63 := cp kc8 [1, 1, 1, 1, 1, 1, 0, 1, 1]
def k8_10 : Code := .block 1 k8_11
def k8_61 := cp kc8 [1, 1, 1, 1, 1, 1, 0, 0]
def k8_7 : Code := .cond (.tmp 54) k8_62 k8_63
def k8_64 := cp kc8 [1, 1, 1, 1, 1, 1, 1, 0]
def k8_5 := cp kc8 [1, 1, 1, 1, 1, 1, 1, 1]
def k8_9 : Code := .loop k8_10
def k8_6 : Code := .seq k8_61 k8_7
def k8_4 : Code := .seq k8_64 k8_5
def k8_8 : Code := .block 0 k8_9
def k8_3 : Code := .seq k8_6 k8_4
def k8_43 := cp kc8 [1, 0, 1, 0, 0]
def k8_37 := cp kc8 [1, 0, 1, 0, 1]
def k8_45 := cp kc8 [1, 1, 1, 1, 0]
def k8_2 : Code := .seq k8_8 k8_3
def k8_36 : Code := .seq k8_43 k8_37
def k8_42 := cp kc8 [1, 0, 1, 1]
def k8_44 := cp kc8 [1, 1, 1, 0]
def k8_1 : Code := .seq k8_45 k8_2
def k8_41 := cp kc8 [1, 0, 0]
def k8_35 : Code := .cond (.tmp 10) k8_36 k8_42
def k8_0 : Code := .seq k8_44 k8_1
def k8_34 : Code := .seq k8_41 k8_35
def k8_33 := cp kc8 [1, 1]
def k8_40 := cp kc8 [0]
def k8_38 := cp kc8 [1]
def k8_39 := cp kc8 []
def e8 (cf : CallF) (lf : Nat) (c0 : Value) (c1 : Value) (r2 : Value) (r3 : Value) (v : Value) (h : Heap) : Ans :=
 d18 cf lf c0 c1 v h fun h =>
  bindO (loadA E 22 r2 h) fun tr2 =>
  bindO (loadA E 24 r3 h) fun tr3 =>
  some (.ret (.tuple ⟨[tr2, tr3]⟩), h)
theorem e8_normal (cf : CallF) (lf : Nat) (c0 : Value) (c1 : Value) (T : Tmps) (h : Heap) : finD E cf lf [.cell 2 22, .cell 3 24] Tryd.f18 [c0, c1] .normal T h = e8 cf lf c0 c1 (T 2) (T 3) .nilIface h :=
 (show finD E cf lf [.cell 2 22, .cell 3 24] Tryd.f18 [c0, c1] .normal T h = deferredK E cf lf Tryd.f18 [c0, c1] .nilIface h (fun h => resK E T h [.cell 2 22, .cell 3 24] [] fun v => some (.ret v, h)) by kernel_rfl).trans ((d18_ok cf lf c0 c1 .nilIface h (fun h => resK E T h [.cell 2 22, .cell 3 24] [] fun v => some (.ret v, h))).trans (by kernel_rfl))
theorem e8_ret (cf : CallF) (lf : Nat) (c0 : Value) (c1 : Value) (T : Tmps) (h : Heap) : finD E cf lf [.cell 2 22, .cell 3 24] Tryd.f18 [c0, c1] .ret T h = e8 cf lf c0 c1 (T 2) (T 3) .nilIface h :=
 (show finD E cf lf [.cell 2 22, .cell 3 24] Tryd.f18 [c0, c1] .ret T h = deferredK E cf lf Tryd.f18 [c0, c1] .nilIface h (fun h => resK E T h [.cell 2 22, .cell 3 24] [] fun v => some (.ret v, h)) by kernel_rfl).trans ((d18_ok cf lf c0 c1 .nilIface h (fun h => resK E T h [.cell 2 22, .cell 3 24] [] fun v => some (.ret v, h))).trans (by kernel_rfl))
theorem e8_panic (cf : CallF) (lf : Nat) (c0 : Value) (c1 : Value) (T : Tmps) (h : Heap) (v : Value) : finD E cf lf [.cell 2 22, .cell 3 24] Tryd.f18 [c0, c1] (.panic v) T h = e8 cf lf c0 c1 (T 2) (T 3) v h :=
 (show finD E cf lf [.cell 2 22, .cell 3 24] Tryd.f18 [c0, c1] (.panic v) T h = deferredK E cf lf Tryd.f18 [c0, c1] v h (fun h => resK E T h [.cell 2 22, .cell 3 24] [] fun v => some (.ret v, h)) by kernel_rfl).trans ((d18_ok cf lf c0 c1 v h (fun h => resK E T h [.cell 2 22, .cell 3 24] [] fun v => some (.ret v, h))).trans (by kernel_rfl))
def e8K (cf : CallF) (lf : Nat) (c0 : Value) (c1 : Value) : Kont := fun x T h => match x with
 | .normal => e8 cf lf c0 c1 (T 2) (T 3) .nilIface h
 | .ret => e8 cf lf c0 c1 (T 2) (T 3) .nilIface h
 | .panic v => e8 cf lf c0 c1 (T 2) (T 3) v h
 | .exit _ => none
theorem e8K_ok (cf : CallF) (lf : Nat) (c0 : Value) (c1 : Value) : finD E cf lf [.cell 2 22, .cell 3 24] Tryd.f18 [c0, c1] = e8K cf lf c0 c1 := by
 funext x T h
 cases x with
 | normal => exact e8_normal cf lf c0 c1 T h
 | ret => exact e8_ret cf lf c0 c1 T h
 | panic v => exact e8_panic cf lf c0 c1 T h v
 | exit i => rfl
def p8_4 (cf : CallF) (lf : Nat) (c0 : Value) (c1 : Value) (s2 : Value) (s3 : Value) (s4 : Value) (h : Heap) : Ans :=
 bindO (nilA s4) fun t59 =>
 bindO (fieldAddrA E 57 t59 2) fun t60 =>
 bindO (loadA E 22 t60 h) fun t61 =>
 bindR (skipR (storeA E 22 s2 t61 h)) (fun v h => e8 cf lf c0 c1 s2 s3 v h) fun _ h =>
 bindR (skipR (storeA E 24 s3 (.nilIface) h)) (fun v h => e8 cf lf c0 c1 s2 s3 v h) fun _ h =>
 e8 cf lf c0 c1 s2 s3 .nilIface h
theorem p8_4_ok (cf : CallF) (lf : Nat) (c0 : Value) (c1 : Value) (T : Tmps) (h : Heap) : execK E cf lf 62 k8_4 T h (e8K cf lf c0 c1) = p8_4 cf lf c0 c1 (T 2) (T 3) (T 4) h := by simp only [k8_4, execK_all]; delta p8_4; (try delta e8K); generalize e8 = G0; as_aux_lemma => kernel_rfl
def p8_3 (cf : CallF) (lf : Nat) (c0 : Value) (c1 : Value) (s0 : Value) (s2 : Value) (s3 : Value) (s4 : Value) (h : Heap) : Ans :=
 bindO (nilA s4) fun t50 =>
 bindO (fieldAddrA E 57 t50 3) fun t51 =>
 bindO (loadA E 55 t51 h) fun t52 =>
 bindO (lenA E 55 t52) fun t53 =>
 bindO (binA E 3 .gtr t53 (.int .i64 (0))) fun t54 =>
 condV t54 (
  bindO (lenA E 9 s0) fun t56 =>
  bindR (cf 25 [(.int .i64 (19)), t56] h) (fun v h => e8 cf lf c0 c1 s2 s3 v h) fun t57 h =>
  p8_4 cf lf c0 c1 s2 s3 s4 h
 ) (
  p8_4 cf lf c0 c1 s2 s3 s4 h
 )
theorem p8_3_ok (cf : CallF) (lf : Nat) (c0 : Value) (c1 : Value) (T : Tmps) (h : Heap) : execK E cf lf 62 k8_3 T h (e8K cf lf c0 c1) = p8_3 cf lf c0 c1 (T 0) (T 2) (T 3) (T 4) h := by simp only [k8_3, k8_6, k8_7, execK_all, p8_4_ok]; delta p8_3; (try delta e8K); generalize p8_4 = G0; generalize e8 = G1; as_aux_lemma => kernel_rfl
def p8_18 (cf : CallF) (lf : Nat) (c0 : Value) (c1 : Value) (F9 : Value → Value → Value → Value → Value → Heap → Ans) (F17 : Value → Value → Value → Value → Value → Value → Value → Value → Heap → Ans) (s0 : Value) (s2 : Value) (s3 : Value) (s4 : Value) (s5 : Value) (s40 : Value) (s41 : Value) (s42 : Value) (h : Heap) : Ans :=
 bindO (binB E 3 .lss s42 s41) fun t43 =>
 condV t43 (
  bindO (indexAddrA E 58 s40 s42) fun t44 =>
  bindO (loadA E 34 t44 h) fun t45 =>
  bindR (callA E cf t45 [] h) (fun v h => e8 cf lf c0 c1 s2 s3 v h) fun t47 h =>
  condV t47 (
   F9 s0 s2 s3 s4 s5 h
  ) (
   bindO (binA E 3 .add s42 (.int .i64 (1))) fun t48 =>
   F17 s0 s2 s3 s4 s5 s40 s41 t48 h
  )
 ) (
  F9 s0 s2 s3 s4 s5 h
 )
theorem p8_18_ok (cf : CallF) (lf : Nat) (c0 : Value) (c1 : Value) (F9 : Value → Value → Value → Value → Value → Heap → Ans) (F17 : Value → Value → Value → Value → Value → Value → Value → Value → Heap → Ans) (T : Tmps) (h : Heap) : execK E cf lf 62 k8_18 T h (seqK (fun T h => F17 (T 0) (T 2) (T 3) (T 4) (T 5) (T 40) (T 41) (T 42) h) (blockK 4 (blockK 1 (seqK (fun T h => F9 (T 0) (T 2) (T 3) (T 4) (T 5) h) (blockK 0 (seqK (fun T h => p8_3 cf lf c0 c1 (T 0) (T 2) (T 3) (T 4) h) (e8K cf lf c0 c1))))))) = p8_18 cf lf c0 c1 F9 F17 (T 0) (T 2) (T 3) (T 4) (T 5) (T 40) (T 41) (T 42) h := by simp only [k8_18, k8_19, k8_20, k8_21, k8_23, k8_24, k8_25, k8_26, execK_all]; delta p8_18; (try delta e8K); generalize e8 = G0; as_aux_lemma => kernel_rfl
def l8_17 (cf : CallF) (lf : Nat) (c0 : Value) (c1 : Value) (F9 : Value → Value → Value → Value → Value → Heap → Ans) : Nat → Value → Value → Value → Value → Value → Value → Value → Value → Heap → Ans
 | 0, _, _, _, _, _, _, _, _, _ => none
 | n + 1, s0, s2, s3, s4, s5, s40, s41, s42, h => p8_18 cf lf c0 c1 F9 (l8_17 cf lf c0 c1 F9 n) s0 s2 s3 s4 s5 s40 s41 s42 h
theorem l8_17_ok (cf : CallF) (lf : Nat) (c0 : Value) (c1 : Value) (F9 : Value → Value → Value → Value → Value → Heap → Ans) (n : Nat) : ∀ (T : Tmps) (h : Heap), iterK (fun T h K => execK E cf lf 62 k8_18 T h K) (blockK 4 (blockK 1 (seqK (fun T h => F9 (T 0) (T 2) (T 3) (T 4) (T 5) h) (blockK 0 (seqK (fun T h => p8_3 cf lf c0 c1 (T 0) (T 2) (T 3) (T 4) h) (e8K cf lf c0 c1)))))) n T h = l8_17 cf lf c0 c1 F9 n (T 0) (T 2) (T 3) (T 4) (T 5) (T 40) (T 41) (T 42) h := by
 induction n with
 | zero => intro T h; rfl
 | succ n ih =>
  intro T h
  rw [iterK_succ, show iterK (fun T h K => execK E cf lf 62 k8_18 T h K) (blockK 4 (blockK 1 (seqK (fun T h => F9 (T 0) (T 2) (T 3) (T 4) (T 5) h) (blockK 0 (seqK (fun T h => p8_3 cf lf c0 c1 (T 0) (T 2) (T 3) (T 4) h) (e8K cf lf c0 c1)))))) n = (fun T h => l8_17 cf lf c0 c1 F9 n (T 0) (T 2) (T 3) (T 4) (T 5) (T 40) (T 41) (T 42) h) from funext fun T => funext fun h => ih T h]
  exact p8_18_ok cf lf c0 c1 F9 (l8_17 cf lf c0 c1 F9 n) T h
def p8_12 (cf : CallF) (lf : Nat) (c0 : Value) (c1 : Value) (F9 : Value → Value → Value → Value → Value → Heap → Ans) (s0 : Value) (s2 : Value) (s3 : Value) (s4 : Value) (s5 : Value) (h : Heap) : Ans :=
 bindR (cf 24 [s4] h) (fun v h => e8 cf lf c0 c1 s2 s3 v h) fun t38 h =>
 bindO (unA .not t38) fun t39 =>
 condV t39 (
  p8_3 cf lf c0 c1 s0 s2 s3 s4 h
 ) (
  bindO (lenA E 58 s5) fun t41 =>
  l8_17 cf lf c0 c1 F9 lf s0 s2 s3 s4 s5 s5 t41 (.int .i64 (0)) h
 )
theorem p8_12_ok (cf : CallF) (lf : Nat) (c0 : Value) (c1 : Value) (F9 : Value → Value → Value → Value → Value → Heap → Ans) (T : Tmps) (h : Heap) : execK E cf lf 62 k8_12 T h (blockK 1 (seqK (fun T h => F9 (T 0) (T 2) (T 3) (T 4) (T 5) h) (blockK 0 (seqK (fun T h => p8_3 cf lf c0 c1 (T 0) (T 2) (T 3) (T 4) h) (e8K cf lf c0 c1))))) = p8_12 cf lf c0 c1 F9 (T 0) (T 2) (T 3) (T 4) (T 5) h := by simp only [k8_12, k8_13, k8_14, k8_15, k8_16, k8_17, execK_all, l8_17_ok]; delta p8_12; (try delta e8K); generalize l8_17 = G0; generalize e8 = G1; as_aux_lemma => kernel_rfl
def p8_29 (cf : CallF) (lf : Nat) (c0 : Value) (c1 : Value) (F9 : Value → Value → Value → Value → Value → Heap → Ans) (F28 : Value → Value → Value → Value → Value → Heap → Ans) (s0 : Value) (s2 : Value) (s3 : Value) (s4 : Value) (s5 : Value) (h : Heap) : Ans :=
 bindR (cf 23 [s4, (.string (mkS [32]))] h) (fun v h => e8 cf lf c0 c1 s2 s3 v h) fun t28 h =>
 bindO (gO (boolIs false t28) (some s4)) fun t30 =>
 bindR (gR (boolIs false t28) (cf 23 [t30, (.string (mkS [9]))] h) h) (fun v h => e8 cf lf c0 c1 s2 s3 v h) fun t31 h =>
 bindO (pickA t28 (.bool true) t31) fun t32 =>
 bindO (gO (boolIs false t32) (some s4)) fun t34 =>
 bindR (gR (boolIs false t32) (cf 23 [t34, (.string (mkS [92, 10]))] h) h) (fun v h => e8 cf lf c0 c1 s2 s3 v h) fun t35 h =>
 bindO (pickA t32 (.bool true) t35) fun t36 =>
 condV t36 (
  F28 s0 s2 s3 s4 s5 h
 ) (
  p8_12 cf lf c0 c1 F9 s0 s2 s3 s4 s5 h
 )
theorem p8_29_ok (cf : CallF) (lf : Nat) (c0 : Value) (c1 : Value) (F9 : Value → Value → Value → Value → Value → Heap → Ans) (F28 : Value → Value → Value → Value → Value → Heap → Ans) (T : Tmps) (h : Heap) : execK E cf lf 62 k8_29 T h (seqK (fun T h => F28 (T 0) (T 2) (T 3) (T 4) (T 5) h) (blockK 2 (seqK (fun T h => p8_12 cf lf c0 c1 F9 (T 0) (T 2) (T 3) (T 4) (T 5) h) (blockK 1 (seqK (fun T h => F9 (T 0) (T 2) (T 3) (T 4) (T 5) h) (blockK 0 (seqK (fun T h => p8_3 cf lf c0 c1 (T 0) (T 2) (T 3) (T 4) h) (e8K cf lf c0 c1)))))))) = p8_29 cf lf c0 c1 F9 F28 (T 0) (T 2) (T 3) (T 4) (T 5) h := by simp only [k8_29, k8_30, k8_31, k8_32, execK_all]; delta p8_29; (try delta e8K); generalize e8 = G0; as_aux_lemma => kernel_rfl
def l8_28 (cf : CallF) (lf : Nat) (c0 : Value) (c1 : Value) (F9 : Value → Value → Value → Value → Value → Heap → Ans) : Nat → Value → Value → Value → Value → Value → Heap → Ans
 | 0, _, _, _, _, _, _ => none
 | n + 1, s0, s2, s3, s4, s5, h => p8_29 cf lf c0 c1 F9 (l8_28 cf lf c0 c1 F9 n) s0 s2 s3 s4 s5 h
theorem l8_28_ok (cf : CallF) (lf : Nat) (c0 : Value) (c1 : Value) (F9 : Value → Value → Value → Value → Value → Heap → Ans) (n : Nat) : ∀ (T : Tmps) (h : Heap), iterK (fun T h K => execK E cf lf 62 k8_29 T h K) (blockK 2 (seqK (fun T h => p8_12 cf lf c0 c1 F9 (T 0) (T 2) (T 3) (T 4) (T 5) h) (blockK 1 (seqK (fun T h => F9 (T 0) (T 2) (T 3) (T 4) (T 5) h) (blockK 0 (seqK (fun T h => p8_3 cf lf c0 c1 (T 0) (T 2) (T 3) (T 4) h) (e8K cf lf c0 c1))))))) n T h = l8_28 cf lf c0 c1 F9 n (T 0) (T 2) (T 3) (T 4) (T 5) h := by
 induction n with
 | zero => intro T h; rfl
 | succ n ih =>
  intro T h
  rw [iterK_succ, show iterK (fun T h K => execK E cf lf 62 k8_29 T h K) (blockK 2 (seqK (fun T h => p8_12 cf lf c0 c1 F9 (T 0) (T 2) (T 3) (T 4) (T 5) h) (blockK 1 (seqK (fun T h => F9 (T 0) (T 2) (T 3) (T 4) (T 5) h) (blockK 0 (seqK (fun T h => p8_3 cf lf c0 c1 (T 0) (T 2) (T 3) (T 4) h) (e8K cf lf c0 c1))))))) n = (fun T h => l8_28 cf lf c0 c1 F9 n (T 0) (T 2) (T 3) (T 4) (T 5) h) from funext fun T => funext fun h => ih T h]
  exact p8_29_ok cf lf c0 c1 F9 (l8_28 cf lf c0 c1 F9 n) T h
def p8_10 (cf : CallF) (lf : Nat) (c0 : Value) (c1 : Value) (F9 : Value → Value → Value → Value → Value → Heap → Ans) (s0 : Value) (s2 : Value) (s3 : Value) (s4 : Value) (s5 : Value) (h : Heap) : Ans :=
 l8_28 cf lf c0 c1 F9 lf s0 s2 s3 s4 s5 h
theorem p8_10_ok (cf : CallF) (lf : Nat) (c0 : Value) (c1 : Value) (F9 : Value → Value → Value → Value → Value → Heap → Ans) (T : Tmps) (h : Heap) : execK E cf lf 62 k8_10 T h (seqK (fun T h => F9 (T 0) (T 2) (T 3) (T 4) (T 5) h) (blockK 0 (seqK (fun T h => p8_3 cf lf c0 c1 (T 0) (T 2) (T 3) (T 4) h) (e8K cf lf c0 c1)))) = p8_10 cf lf c0 c1 F9 (T 0) (T 2) (T 3) (T 4) (T 5) h := by simp only [k8_10, k8_11, k8_27, k8_28, execK_all, l8_28_ok, p8_12_ok]; delta p8_10; (try delta e8K); generalize l8_28 = G0; generalize p8_12 = G1; generalize e8 = G2; as_aux_lemma => kernel_rfl
def l8_9 (cf : CallF) (lf : Nat) (c0 : Value) (c1 : Value) : Nat → Value → Value → Value → Value → Value → Heap → Ans
 | 0, _, _, _, _, _, _ => none
 | n + 1, s0, s2, s3, s4, s5, h => p8_10 cf lf c0 c1 (l8_9 cf lf c0 c1 n) s0 s2 s3 s4 s5 h
theorem l8_9_ok (cf : CallF) (lf : Nat) (c0 : Value) (c1 : Value) (n : Nat) : ∀ (T : Tmps) (h : Heap), iterK (fun T h K => execK E cf lf 62 k8_10 T h K) (blockK 0 (seqK (fun T h => p8_3 cf lf c0 c1 (T 0) (T 2) (T 3) (T 4) h) (e8K cf lf c0 c1))) n T h = l8_9 cf lf c0 c1 n (T 0) (T 2) (T 3) (T 4) (T 5) h := by
 induction n with
 | zero => intro T h; rfl
 | succ n ih =>
  intro T h
  rw [iterK_succ, show iterK (fun T h K => execK E cf lf 62 k8_10 T h K) (blockK 0 (seqK (fun T h => p8_3 cf lf c0 c1 (T 0) (T 2) (T 3) (T 4) h) (e8K cf lf c0 c1))) n = (fun T h => l8_9 cf lf c0 c1 n (T 0) (T 2) (T 3) (T 4) (T 5) h) from funext fun T => funext fun h => ih T h]
  exact p8_10_ok cf lf c0 c1 (l8_9 cf lf c0 c1 n) T h
def p8_0 (cf : CallF) (lf : Nat) (c0 : Value) (c1 : Value) (s0 : Value) (s2 : Value) (s3 : Value) (h : Heap) : Ans :=
 bindO (buildA E 57 [(0, s0)]) fun t16 =>
 bindR (valR (some (boxA 57 t16 h))) (fun v h => e8 cf lf c0 c1 s2 s3 v h) fun t17 h =>
 bindR (valR (buildSliceA E 58 4 [(0, (.func (.func 19) ⟨[t17]⟩ ⟨[]⟩)), (1, (.func (.func 20) ⟨[t17]⟩ ⟨[]⟩)), (2, (.func (.func 21) ⟨[t17]⟩ ⟨[]⟩)), (3, (.func (.func 22) ⟨[t17]⟩ ⟨[]⟩))] h)) (fun v h => e8 cf lf c0 c1 s2 s3 v h) fun t26 h =>
 l8_9 cf lf c0 c1 lf s0 s2 s3 t17 t26 h
theorem p8_0_ok (cf : CallF) (lf : Nat) (c0 : Value) (c1 : Value) (T : Tmps) (h : Heap) : execK E cf lf 62 k8_0 T h (e8K cf lf c0 c1) = p8_0 cf lf c0 c1 (T 0) (T 2) (T 3) h := by simp only [k8_0, k8_1, k8_2, k8_8, k8_9, execK_all, l8_9_ok, p8_3_ok]; delta p8_0; (try delta e8K); generalize l8_9 = G0; generalize p8_3 = G1; generalize e8 = G2; as_aux_lemma => kernel_rfl
def q8_2 (cf : CallF) (lf : Nat) (s0 : Value) (s2 : Value) (s3 : Value) (h : Heap) : Ans :=
 p8_0 cf lf s2 s3 s0 s2 s3 h
theorem q8_2_ok (cf : CallF) (lf : Nat) (T : Tmps) (h : Heap) : spineK E cf lf 62 [.cell 2 22, .cell 3 24] k8_33 T h = q8_2 cf lf (T 0) (T 2) (T 3) h := by
 refine Eq.trans (show spineK E cf lf 62 [.cell 2 22, .cell 3 24] k8_33 T h = execK E cf lf 62 k8_0 (putT 62 T (some 14) (.func (.func 18) ⟨[]⟩ ⟨[(T 2), (T 3)]⟩)) h (finD E cf lf [.cell 2 22, .cell 3 24] Tryd.f18 [(T 2), (T 3)]) by kernel_rfl) ?_
 rw [e8K_ok, p8_0_ok]; delta q8_2; generalize p8_0 = G0; as_aux_lemma => kernel_rfl
def q8_1 (cf : CallF) (lf : Nat) (s0 : Value) (s2 : Value) (s3 : Value) (h : Heap) : Ans :=
 bindO (lenA E 9 s0) fun t9 =>
 bindO (binA E 3 .gtr t9 (.int .i64 (4000))) fun t10 =>
 condV t10 (
  bindO (buildA E 52 [(0, (.int .i64 (3))), (1, (.int .i64 (4000)))]) fun t11 =>
  bindR (valR (some (boxA 52 t11 h))) (fun v h => some (.panic v, h)) fun t12 h =>
  bindO (ifaceA E 51 t12) fun t13 =>
  bindR (skipR (storeA E 22 s2 (.slice none 0 0) h)) (fun v h => some (.panic v, h)) fun _ h =>
  bindR (skipR (storeA E 24 s3 t13 h)) (fun v h => some (.panic v, h)) fun _ h =>
  bindO (loadA E 22 s2 h) fun tr2 =>
  bindO (loadA E 24 s3 h) fun tr3 =>
  some (.ret (.tuple ⟨[tr2, tr3]⟩), h)
 ) (
  q8_2 cf lf s0 s2 s3 h
 )
theorem q8_1_ok (cf : CallF) (lf : Nat) (T : Tmps) (h : Heap) : spineK E cf lf 62 [.cell 2 22, .cell 3 24] k8_38 T h = q8_1 cf lf (T 0) (T 2) (T 3) h := by
 refine Eq.trans (show spineK E cf lf 62 [.cell 2 22, .cell 3 24] k8_38 T h = execK E cf lf 62 k8_34 T h (seqK (fun T h => spineK E cf lf 62 [.cell 2 22, .cell 3 24] k8_33 T h) (finK E [.cell 2 22, .cell 3 24])) by kernel_rfl) ?_
 simp only [k8_34, k8_35, k8_36, execK_all, q8_2_ok]; delta q8_1; generalize q8_2 = G0; as_aux_lemma => kernel_rfl
def q8_0 (cf : CallF) (lf : Nat) (s0 : Value) (h : Heap) : Ans :=
 bindR (valR (allocA E 22 h)) (fun v h => some (.panic v, h)) fun t2 h =>
 bindR (valR (allocA E 24 h)) (fun v h => some (.panic v, h)) fun t3 h =>
 q8_1 cf lf s0 t2 t3 h
theorem q8_0_ok (cf : CallF) (lf : Nat) (T : Tmps) (h : Heap) : spineK E cf lf 62 [.cell 2 22, .cell 3 24] k8_39 T h = q8_0 cf lf (T 0) h := by
 refine Eq.trans (show spineK E cf lf 62 [.cell 2 22, .cell 3 24] k8_39 T h = execK E cf lf 62 k8_40 T h (seqK (fun T h => spineK E cf lf 62 [.cell 2 22, .cell 3 24] k8_38 T h) (finK E [.cell 2 22, .cell 3 24])) by kernel_rfl) ?_
 simp only [execK_all, q8_1_ok]; delta q8_0; generalize q8_1 = G0; as_aux_lemma => kernel_rfl
def f8 (cf : CallF) (lf : Nat) (a0 : Value) (h : Heap) : Ans := q8_0 cf lf a0 h
theorem f8_ok (cf : CallF) (lf : Nat) (a0 : Value) (h : Heap) : stepN E cf lf 8 [a0] h = f8 cf lf a0 h :=
 (show stepN E cf lf 8 [a0] h = spineK E cf lf 62 [.cell 2 22, .cell 3 24] k8_39 (T0 [a0]) h by kernel_rfl).trans ((q8_0_ok cf lf (T0 [a0]) h).trans (by kernel_rfl))
noncomputable def kc9 := codeOf Tryd.f9
def k9_164 := cp kc9 [1, 1, 1, 1, 1, 1, 0, 0, 0, 0, 1, 1, 1, 0, 1, 0, 1, 1, 0, 1, 0, 0, 1, 0, 0, 1, 1, 1, 1, 0, 1, 0, 1, 0, 1, 0, 1, 0]
def k9_100 := cp kc9 [1, 1, 1, 1, 1, 1, 0, 0, 0, 0, 1, 1, 1, 0, 1, 0, 1, 1, 0, 1, 0, 0, 1, 0, 0, 1, 1, 1, 1, 0, 1, 0, 1, 0, 1, 0, 1, 1]
def k9_163 := cp kc9 [1, 1, 1, 1, 1, 1, 0, 0, 0, 0, 1, 1, 1, 0, 1, 0, 1, 1, 0, 1, 0, 0, 1, 0, 0, 1, 1, 1, 1, 0, 1, 0, 1, 0, 1, 0, 0]
def k9_99 : Code := .seq k9_164 k9_100
def k9_98 : Code := .seq k9_163 k9_99
def k9_162 := cp kc9 [1, 1, 1, 1, 1, 1, 0, 0, 0, 0, 1, 1, 1, 0, 1, 0, 1, 1, 0, 1, 0, 0, 1, 0, 0, 1, 1, 1, 1, 0, 1, 0, 1, 0, 1, 1]
def k9_161 := cp kc9 [1, 1, 1, 1, 1, 1, 0, 0, 0, 0, 1, 1, 1, 0, 1, 0, 1, 1, 0, 1, 0, 0, 1, 0, 0, 1, 1, 1, 1, 0, 1, 0, 1, 0, 0]
def k9_97 : Code := .cond (.tmp 132) k9_98 k9_162
def k9_96 : Code := .seq k9_161 k9_97
def k9_95 := cp kc9 [1, 1, 1, 1, 1, 1, 0, 0, 0, 0, 1, 1, 1, 0, 1, 0, 1, 1, 0, 1, 0, 0, 1, 0, 0, 1, 1, 1, 1, 0, 1, 0, 1, 1]
def k9_160 := cp kc9 [1, 1, 1, 1, 1, 1, 0, 0, 0, 0, 1, 1, 1, 0, 1, 0, 1, 1, 0, 1, 0, 0, 1, 0, 0, 1, 1, 1, 1, 0, 1, 0, 0]
def k9_94 : Code := .seq k9_96 k9_95
def k9_93 : Code := .seq k9_160 k9_94
def k9_159 := cp kc9 [1, 1, 1, 1, 1, 1, 0, 0, 0, 0, 1, 1, 1, 0, 1, 0, 1, 1, 0, 1, 0, 0, 1, 0, 0, 1, 1, 1, 1, 0, 1, 1]
def k9_158 := cp kc9 [1, 1, 1, 1, 1, 1, 0, 0, 0, 0, 1, 1, 1, 0, 1, 0, 1, 1, 0, 1, 0, 0, 1, 0, 0, 1, 1, 1, 1, 0, 0]
def k9_92 : Code := .cond (.tmp 123) k9_93 k9_159
def k9_190 := cp kc9 [1, 1, 1, 1, 1, 1, 0, 0, 0, 0, 1, 1, 1, 1, 1, 1, 1, 1, 1, 1, 1, 1, 1, 0, 1, 0, 1, 0, 1, 0, 0]
def k9_59 := cp kc9 [1, 1, 1, 1, 1, 1, 0, 0, 0, 0, 1, 1, 1, 1, 1, 1, 1, 1, 1, 1, 1, 1, 1, 0, 1, 0, 1, 0, 1, 0, 1]
def k9_155 := cp kc9 [1, 1, 1, 1, 1, 1, 0, 0, 0, 0, 1, 1, 1, 0, 1, 0, 1, 1, 0, 1, 0, 0, 1, 0, 0, 1, 0, 1, 0, 0]
def k9_87 := cp kc9 [1, 1, 1, 1, 1, 1, 0, 0, 0, 0, 1, 1, 1, 0, 1, 0, 1, 1, 0, 1, 0, 0, 1, 0, 0, 1, 0, 1, 0, 1]
def k9_91 : Code := .seq k9_158 k9_92
def k9_90 := cp kc9 [1, 1, 1, 1, 1, 1, 0, 0, 0, 0, 1, 1, 1, 0, 1, 0, 1, 1, 0, 1, 0, 0, 1, 0, 0, 1, 1, 1, 1, 1]
def k9_58 : Code := .seq k9_190 k9_59
def k9_189 := cp kc9 [1, 1, 1, 1, 1, 1, 0, 0, 0, 0, 1, 1, 1, 1, 1, 1, 1, 1, 1, 1, 1, 1, 1, 0, 1, 0, 1, 0, 1, 1]
def k9_192 := cp kc9 [1, 1, 1, 1, 1, 1, 0, 0, 0, 0, 1, 1, 1, 1, 1, 1, 1, 1, 1, 1, 1, 1, 1, 0, 1, 0, 1, 1, 1, 0]
def k9_61 := cp kc9 [1, 1, 1, 1, 1, 1, 0, 0, 0, 0, 1, 1, 1, 1, 1, 1, 1, 1, 1, 1, 1, 1, 1, 0, 1, 0, 1, 1, 1, 1]
def k9_86 : Code := .seq k9_155 k9_87
def k9_154 := cp kc9 [1, 1, 1, 1, 1, 1, 0, 0, 0, 0, 1, 1, 1, 0, 1, 0, 1, 1, 0, 1, 0, 0, 1, 0, 0, 1, 0, 1, 1]
def k9_157 := cp kc9 [1, 1, 1, 1, 1, 1, 0, 0, 0, 0, 1, 1, 1, 0, 1, 0, 1, 1, 0, 1, 0, 0, 1, 0, 0, 1, 1, 1, 0]
def k9_89 : Code := .seq k9_91 k9_90
def k9_188 := cp kc9 [1, 1, 1, 1, 1, 1, 0, 0, 0, 0, 1, 1, 1, 1, 1, 1, 1, 1, 1, 1, 1, 1, 1, 0, 1, 0, 1, 0, 0]
def k9_57 : Code := .cond (.tmp 266) k9_58 k9_189
def k9_191 := cp kc9 [1, 1, 1, 1, 1, 1, 0, 0, 0, 0, 1, 1, 1, 1, 1, 1, 1, 1, 1, 1, 1, 1, 1, 0, 1, 0, 1, 1, 0]
def k9_60 : Code := .seq k9_192 k9_61
def k9_153 := cp kc9 [1, 1, 1, 1, 1, 1, 0, 0, 0, 0, 1, 1, 1, 0, 1, 0, 1, 1, 0, 1, 0, 0, 1, 0, 0, 1, 0, 0]
def k9_85 : Code := .cond (.tmp 105) k9_86 k9_154
def k9_156 := cp kc9 [1, 1, 1, 1, 1, 1, 0, 0, 0, 0, 1, 1, 1, 0, 1, 0, 1, 1, 0, 1, 0, 0, 1, 0, 0, 1, 1, 0]
def k9_88 : Code := .seq k9_157 k9_89
def k9_56 : Code := .seq k9_188 k9_57
def k9_55 : Code := .seq k9_191 k9_60
def k9_84 : Code := .seq k9_153 k9_85
def k9_83 : Code := .seq k9_156 k9_88
def k9_187 := cp kc9 [1, 1, 1, 1, 1, 1, 0, 0, 0, 0, 1, 1, 1, 1, 1, 1, 1, 1, 1, 1, 1, 1, 1, 0, 1, 0, 0]
def k9_54 : Code := .seq k9_56 k9_55
def k9_152 := cp kc9 [1, 1, 1, 1, 1, 1, 0, 0, 0, 0, 1, 1, 1, 0, 1, 0, 1, 1, 0, 1, 0, 0, 1, 0, 0, 0]
def k9_82 : Code := .seq k9_84 k9_83
def k9_53 : Code := .seq k9_187 k9_54
def k9_186 := cp kc9 [1, 1, 1, 1, 1, 1, 0, 0, 0, 0, 1, 1, 1, 1, 1, 1, 1, 1, 1, 1, 1, 1, 1, 0, 1, 1]
def k9_150 := cp kc9 [1, 1, 1, 1, 1, 1, 0, 0, 0, 0, 1, 1, 1, 0, 1, 0, 1, 1, 0, 1, 0, 0, 0, 1, 0]
def k9_151 := cp kc9 [1, 1, 1, 1, 1, 1, 0, 0, 0, 0, 1, 1, 1, 0, 1, 0, 1, 1, 0, 1, 0, 0, 0, 1, 1]
def k9_81 : Code := .seq k9_152 k9_82
def k9_185 := cp kc9 [1, 1, 1, 1, 1, 1, 0, 0, 0, 0, 1, 1, 1, 1, 1, 1, 1, 1, 1, 1, 1, 1, 1, 0, 0]
def k9_52 : Code := .cond (.tmp 258) k9_53 k9_186
def k9_149 := cp kc9 [1, 1, 1, 1, 1, 1, 0, 0, 0, 0, 1, 1, 1, 0, 1, 0, 1, 1, 0, 1, 0, 0, 0, 0]
def k9_78 : Code := .cond (.tmp 91) k9_150 k9_151
def k9_80 : Code := .block 7 k9_81
def k9_79 := cp kc9 [1, 1, 1, 1, 1, 1, 0, 0, 0, 0, 1, 1, 1, 0, 1, 0, 1, 1, 0, 1, 0, 0, 1, 1]
def k9_182 := cp kc9 [1, 1, 1, 1, 1, 1, 0, 0, 0, 0, 1, 1, 1, 1, 1, 1, 1, 1, 1, 1, 0, 1, 0, 0]
def k9_47 := cp kc9 [1, 1, 1, 1, 1, 1, 0, 0, 0, 0, 1, 1, 1, 1, 1, 1, 1, 1, 1, 1, 0, 1, 0, 1]
def k9_51 : Code := .seq k9_185 k9_52
def k9_50 := cp kc9 [1, 1, 1, 1, 1, 1, 0, 0, 0, 0, 1, 1, 1, 1, 1, 1, 1, 1, 1, 1, 1, 1, 1, 1]
def k9_77 : Code := .seq k9_149 k9_78
def k9_76 : Code := .seq k9_80 k9_79
def k9_46 : Code := .seq k9_182 k9_47
def k9_181 := cp kc9 [1, 1, 1, 1, 1, 1, 0, 0, 0, 0, 1, 1, 1, 1, 1, 1, 1, 1, 1, 1, 0, 1, 1]
def k9_184 := cp kc9 [1, 1, 1, 1, 1, 1, 0, 0, 0, 0, 1, 1, 1, 1, 1, 1, 1, 1, 1, 1, 1, 1, 0]
def k9_49 : Code := .seq k9_51 k9_50
def k9_75 : Code := .seq k9_77 k9_76
def k9_175 := cp kc9 [1, 1, 1, 1, 1, 1, 0, 0, 0, 0, 1, 1, 1, 1, 1, 1, 1, 0, 1, 0, 1, 0]
def k9_36 := cp kc9 [1, 1, 1, 1, 1, 1, 0, 0, 0, 0, 1, 1, 1, 1, 1, 1, 1, 0, 1, 0, 1, 1]
def k9_178 := cp kc9 [1, 1, 1, 1, 1, 1, 0, 0, 0, 0, 1, 1, 1, 1, 1, 1, 1, 1, 0, 1, 0, 0]
def k9_41 := cp kc9 [1, 1, 1, 1, 1, 1, 0, 0, 0, 0, 1, 1, 1, 1, 1, 1, 1, 1, 0, 1, 0, 1]
def k9_180 := cp kc9 [1, 1, 1, 1, 1, 1, 0, 0, 0, 0, 1, 1, 1, 1, 1, 1, 1, 1, 1, 1, 0, 0]
def k9_45 : Code := .cond (.tmp 217) k9_46 k9_181
def k9_183 := cp kc9 [1, 1, 1, 1, 1, 1, 0, 0, 0, 0, 1, 1, 1, 1, 1, 1, 1, 1, 1, 1, 1, 0]
def k9_48 : Code := .seq k9_184 k9_49
def k9_141 := cp kc9 [1, 1, 1, 1, 1, 1, 0, 0, 0, 0, 1, 1, 0, 1, 0, 0, 0, 0, 0, 1, 0]
def k9_142 := cp kc9 [1, 1, 1, 1, 1, 1, 0, 0, 0, 0, 1, 1, 0, 1, 0, 0, 0, 0, 0, 1, 1]
def k9_74 : Code := .loop k9_75
def k9_166 := cp kc9 [1, 1, 1, 1, 1, 1, 0, 0, 0, 0, 1, 1, 1, 0, 1, 0, 1, 1, 1, 1, 0]
def k9_71 := cp kc9 [1, 1, 1, 1, 1, 1, 0, 0, 0, 0, 1, 1, 1, 0, 1, 0, 1, 1, 1, 1, 1]
def k9_174 := cp kc9 [1, 1, 1, 1, 1, 1, 0, 0, 0, 0, 1, 1, 1, 1, 1, 1, 1, 0, 1, 0, 0]
def k9_35 : Code := .seq k9_175 k9_36
def k9_40 : Code := .seq k9_178 k9_41
def k9_177 := cp kc9 [1, 1, 1, 1, 1, 1, 0, 0, 0, 0, 1, 1, 1, 1, 1, 1, 1, 1, 0, 1, 1]
def k9_44 : Code := .seq k9_180 k9_45
def k9_43 : Code := .seq k9_183 k9_48
def k9_140 := cp kc9 [1, 1, 1, 1, 1, 1, 0, 0, 0, 0, 1, 1, 0, 1, 0, 0, 0, 0, 0, 0]
def k9_110 : Code := .cond (.tmp 74) k9_141 k9_142
def k9_143 := cp kc9 [1, 1, 1, 1, 1, 1, 0, 0, 0, 0, 1, 1, 0, 1, 0, 0, 0, 0, 1, 0]
def k9_148 := cp kc9 [1, 1, 1, 1, 1, 1, 0, 0, 0, 0, 1, 1, 1, 0, 1, 0, 1, 1, 0, 0]
def k9_73 : Code := .block 6 k9_74
def k9_165 := cp kc9 [1, 1, 1, 1, 1, 1, 0, 0, 0, 0, 1, 1, 1, 0, 1, 0, 1, 1, 1, 0]
def k9_70 : Code := .seq k9_166 k9_71
def k9_34 : Code := .seq k9_174 k9_35
def k9_173 := cp kc9 [1, 1, 1, 1, 1, 1, 0, 0, 0, 0, 1, 1, 1, 1, 1, 1, 1, 0, 1, 1]
def k9_176 := cp kc9 [1, 1, 1, 1, 1, 1, 0, 0, 0, 0, 1, 1, 1, 1, 1, 1, 1, 1, 0, 0]
def k9_39 : Code := .cond (.tmp 205) k9_40 k9_177
def k9_179 := cp kc9 [1, 1, 1, 1, 1, 1, 0, 0, 0, 0, 1, 1, 1, 1, 1, 1, 1, 1, 1, 0]
def k9_42 : Code := .seq k9_44 k9_43
def k9_109 : Code := .seq k9_140 k9_110
def k9_108 : Code := .block 5 k9_143
def k9_72 : Code := .seq k9_148 k9_73
def k9_69 : Code := .seq k9_165 k9_70
def k9_172 := cp kc9 [1, 1, 1, 1, 1, 1, 0, 0, 0, 0, 1, 1, 1, 1, 1, 1, 1, 0, 0]
def k9_33 : Code := .cond (.tmp 181) k9_34 k9_173
def k9_38 : Code := .seq k9_176 k9_39
def k9_37 : Code := .seq k9_179 k9_42
def k9_133 := cp kc9 [1, 1, 1, 1, 1, 1, 0, 0, 0, 0, 0, 0, 0, 1, 0, 0, 1, 0]
def k9_134 := cp kc9 [1, 1, 1, 1, 1, 1, 0, 0, 0, 0, 0, 0, 0, 1, 0, 0, 1, 1]
def k9_107 : Code := .seq k9_109 k9_108
def k9_147 := cp kc9 [1, 1, 1, 1, 1, 1, 0, 0, 0, 0, 1, 1, 1, 0, 1, 0, 1, 0]
def k9_68 : Code := .seq k9_72 k9_69
def k9_169 := cp kc9 [1, 1, 1, 1, 1, 1, 0, 0, 0, 0, 1, 1, 1, 1, 1, 0, 1, 0]
def k9_170 := cp kc9 [1, 1, 1, 1, 1, 1, 0, 0, 0, 0, 1, 1, 1, 1, 1, 0, 1, 1]
def k9_32 : Code := .seq k9_172 k9_33
def k9_31 : Code := .seq k9_38 k9_37
def k9_132 := cp kc9 [1, 1, 1, 1, 1, 1, 0, 0, 0, 0, 0, 0, 0, 1, 0, 0, 0]
def k9_120 : Code := .cond (.tmp 52) k9_133 k9_134
def k9_106 : Code := .loop k9_107
def k9_146 := cp kc9 [1, 1, 1, 1, 1, 1, 0, 0, 0, 0, 1, 1, 1, 0, 1, 0, 0]
def k9_67 : Code := .seq k9_147 k9_68
def k9_168 := cp kc9 [1, 1, 1, 1, 1, 1, 0, 0, 0, 0, 1, 1, 1, 1, 1, 0, 0]
def k9_63 : Code := .cond (.tmp 174) k9_169 k9_170
def k9_171 := cp kc9 [1, 1, 1, 1, 1, 1, 0, 0, 0, 0, 1, 1, 1, 1, 1, 1, 0]
def k9_30 : Code := .seq k9_32 k9_31
def k9_130 := cp kc9 [1, 1, 1, 1, 1, 1, 0, 0, 0, 0, 0, 0, 0, 0, 1, 0]
def k9_131 := cp kc9 [1, 1, 1, 1, 1, 1, 0, 0, 0, 0, 0, 0, 0, 0, 1, 1]
def k9_119 : Code := .seq k9_132 k9_120
def k9_118 := cp kc9 [1, 1, 1, 1, 1, 1, 0, 0, 0, 0, 0, 0, 0, 1, 0, 1]
def k9_105 : Code := .block 4 k9_106
def k9_104 := cp kc9 [1, 1, 1, 1, 1, 1, 0, 0, 0, 0, 1, 1, 0, 1, 0, 1]
def k9_66 : Code := .seq k9_146 k9_67
def k9_145 := cp kc9 [1, 1, 1, 1, 1, 1, 0, 0, 0, 0, 1, 1, 1, 0, 1, 1]
def k9_62 : Code := .seq k9_168 k9_63
def k9_29 : Code := .seq k9_171 k9_30
def k9_129 := cp kc9 [1, 1, 1, 1, 1, 1, 0, 0, 0, 0, 0, 0, 0, 0, 0]
def k9_116 : Code := .cond (.tmp 48) k9_130 k9_131
def k9_117 : Code := .seq k9_119 k9_118
def k9_103 : Code := .seq k9_105 k9_104
def k9_139 := cp kc9 [1, 1, 1, 1, 1, 1, 0, 0, 0, 0, 1, 1, 0, 1, 1]
def k9_144 := cp kc9 [1, 1, 1, 1, 1, 1, 0, 0, 0, 0, 1, 1, 1, 0, 0]
def k9_65 : Code := .cond (.tmp 80) k9_66 k9_145
def k9_167 := cp kc9 [1, 1, 1, 1, 1, 1, 0, 0, 0, 0, 1, 1, 1, 1, 0]
def k9_28 : Code := .seq k9_62 k9_29
def k9_115 : Code := .seq k9_129 k9_116
def k9_114 : Code := .block 3 k9_117
def k9_136 := cp kc9 [1, 1, 1, 1, 1, 1, 0, 0, 0, 0, 1, 0, 1, 0]
def k9_137 := cp kc9 [1, 1, 1, 1, 1, 1, 0, 0, 0, 0, 1, 0, 1, 1]
def k9_138 := cp kc9 [1, 1, 1, 1, 1, 1, 0, 0, 0, 0, 1, 1, 0, 0]
def k9_102 : Code := .cond (.tmp 64) k9_103 k9_139
def k9_64 : Code := .seq k9_144 k9_65
def k9_27 : Code := .seq k9_167 k9_28
def k9_113 : Code := .seq k9_115 k9_114
def k9_135 := cp kc9 [1, 1, 1, 1, 1, 1, 0, 0, 0, 0, 1, 0, 0]
def k9_25 : Code := .cond (.tmp 60) k9_136 k9_137
def k9_101 : Code := .seq k9_138 k9_102
def k9_26 : Code := .seq k9_64 k9_27
def k9_112 : Code := .loop k9_113
def k9_24 : Code := .seq k9_135 k9_25
def k9_23 : Code := .seq k9_101 k9_26
def k9_111 : Code := .block 2 k9_112
def k9_22 : Code := .seq k9_24 k9_23
def k9_195 := cp kc9 [1, 1, 1, 1, 1, 1, 1, 0, 1, 0, 0]
def k9_16 := cp kc9 [1, 1, 1, 1, 1, 1, 1, 0, 1, 0, 1]
def k9_21 : Code := .seq k9_111 k9_22
def k9_15 : Code := .seq k9_195 k9_16
def k9_194 := cp kc9 [1, 1, 1, 1, 1, 1, 1, 0, 1, 1]
def k9_20 : Code := .block 1 k9_21
def k9_193 := cp kc9 [1, 1, 1, 1, 1, 1, 1, 0, 0]
def k9_14 : Code := .cond (.tmp 287) k9_15 k9_194
def k9_196 := cp kc9 [1, 1, 1, 1, 1, 1, 1, 1, 0]
def k9_17 := cp kc9 [1, 1, 1, 1, 1, 1, 1, 1, 1]
def k9_19 : Code := .loop k9_20
def k9_13 : Code := .seq k9_193 k9_14
def k9_12 : Code := .seq k9_196 k9_17
def k9_18 : Code := .block 0 k9_19
def k9_11 : Code := .seq k9_13 k9_12
def k9_128 := cp kc9 [1, 1, 1, 1, 1, 0]
def k9_10 : Code := .seq k9_18 k9_11
def k9_124 := cp kc9 [1, 0, 1, 0, 0]
def k9_6 := cp kc9 [1, 0, 1, 0, 1]
def k9_127 := cp kc9 [1, 1, 1, 1, 0]
def k9_9 : Code := .seq k9_128 k9_10
def k9_5 : Code := .seq k9_124 k9_6
def k9_123 := cp kc9 [1, 0, 1, 1]
def k9_126 := cp kc9 [1, 1, 1, 0]
def k9_8 : Code := .seq k9_127 k9_9
def k9_122 := cp kc9 [1, 0, 0]
def k9_4 : Code := .cond (.tmp 26) k9_5 k9_123
def k9_125 := cp kc9 [1, 1, 0]
def k9_7 : Code := .seq k9_126 k9_8
def k9_3 : Code := .seq k9_122 k9_4
def k9_2 : Code := .seq k9_125 k9_7
def k9_121 := cp kc9 [0]
def k9_1 : Code := .seq k9_3 k9_2
def k9_0 : Code := .seq k9_121 k9_1
def p9_11 (cf : CallF) (lf : Nat) (s0 : Value) (s3 : Value) (s4 : Value) (s5 : Value) (h : Heap) : Ans :=
 bindO (lenA E 60 s5) fun t286 =>
 bindO (binA E 3 .gtr t286 (.int .i64 (0))) fun t287 =>
 condV t287 (
  bindO (lenA E 9 s0) fun t289 =>
  bindR (cf 28 [t289] h) (fun v h => some (.panic v, h)) fun t290 h =>
  bindR (skipR (storeA E 29 s3 t290 h)) (fun v h => some (.panic v, h)) fun _ h =>
  bindO (loadA E 29 s3 h) fun tr3 =>
  some (.ret (.tuple ⟨[(.slice none 0 0), tr3]⟩), h)
 ) (
  bindO (buildA E 29 []) fun t292 =>
  bindR (skipR (storeA E 29 s3 t292 h)) (fun v h => some (.panic v, h)) fun _ h =>
  bindO (loadA E 29 s3 h) fun tr3 =>
  some (.ret (.tuple ⟨[s4, tr3]⟩), h)
 )
theorem p9_11_ok (cf : CallF) (lf : Nat) (T : Tmps) (h : Heap) : execK E cf lf 293 k9_11 T h (finK E [.tmp 2, .cell 3 29]) = p9_11 cf lf (T 0) (T 3) (T 4) (T 5) h := by kernel_rfl
def p9_50 (cf : CallF) (lf : Nat) (F19 : Value → Value → Value → Value → Value → Value → Heap → Ans) (s0 : Value) (s3 : Value) (s4 : Value) (s5 : Value) (s6 : Value) (s18 : Value) (h : Heap) : Ans :=
 F19 s0 s3 s4 s5 s6 s18 h
theorem p9_50_ok (cf : CallF) (lf : Nat) (F19 : Value → Value → Value → Value → Value → Value → Heap → Ans) (T : Tmps) (h : Heap) : execK E cf lf 293 k9_50 T h (blockK 1 (seqK (fun T h => F19 (T 0) (T 3) (T 4) (T 5) (T 6) (T 7) h) (blockK 0 (seqK (fun T h => p9_11 cf lf (T 0) (T 3) (T 4) (T 5) h) (finK E [.tmp 2, .cell 3 29]))))) = p9_50 cf lf F19 (T 0) (T 3) (T 4) (T 5) (T 6) (T 18) h := by kernel_rfl
def p9_61 (cf : CallF) (lf : Nat) (F19 : Value → Value → Value → Value → Value → Value → Heap → Ans) (s0 : Value) (s3 : Value) (s4 : Value) (s5 : Value) (s6 : Value) (s7 : Value) (s18 : Value) (s22 : Value) (h : Heap) : Ans :=
 bindO (buildA E 39 [(0, (.int .i64 (3))), (3, s22), (4, s7)]) fun t281 =>
 bindR (valR (buildSliceA E 22 1 [(0, t281)] h)) (fun v h => some (.panic v, h)) fun t282 h =>
 bindR (valR (appendA E 22 s4 t282 h)) (fun v h => some (.panic v, h)) fun t283 h =>
 p9_50 cf lf F19 s0 s3 t283 s5 s6 s18 h
theorem p9_61_ok (cf : CallF) (lf : Nat) (F19 : Value → Value → Value → Value → Value → Value → Heap → Ans) (T : Tmps) (h : Heap) : execK E cf lf 293 k9_61 T h (seqK (fun T h => p9_50 cf lf F19 (T 0) (T 3) (T 4) (T 5) (T 6) (T 18) h) (blockK 1 (seqK (fun T h => F19 (T 0) (T 3) (T 4) (T 5) (T 6) (T 7) h) (blockK 0 (seqK (fun T h => p9_11 cf lf (T 0) (T 3) (T 4) (T 5) h) (finK E [.tmp 2, .cell 3 29])))))) = p9_61 cf lf F19 (T 0) (T 3) (T 4) (T 5) (T 6) (T 7) (T 18) (T 22) h := by kernel_rfl
def p9_52 (cf : CallF) (lf : Nat) (F19 : Value → Value → Value → Value → Value → Value → Heap → Ans) (s0 : Value) (s3 : Value) (s4 : Value) (s5 : Value) (s6 : Value) (s7 : Value) (s17 : Value) (s18 : Value) (s258 : Value) (h : Heap) : Ans :=
 condV s258 (
  bindR (cf 31 [s17] h) (fun v h => some (.panic v, h)) fun t261 h =>
  bindO (extractA t261 0) fun t262 =>
  bindO (extractA t261 1) fun t263 =>
  bindO (extractA t261 2) fun t264 =>
  bindO (unA .not t264) fun t266 =>
  condV t266 (
   bindR (cf 28 [s7] h) (fun v h => some (.panic v, h)) fun t268 h =>
   bindR (skipR (storeA E 29 s3 t268 h)) (fun v h => some (.panic v, h)) fun _ h =>
   bindO (loadA E 29 s3 h) fun tr3 =>
   some (.ret (.tuple ⟨[(.slice none 0 0), tr3]⟩), h)
  ) (
   bindO (lenA E 22 s4) fun t271 =>
   bindR (valR (buildSliceA E 60 1 [(0, t271)] h)) (fun v h => some (.panic v, h)) fun t272 h =>
   bindR (valR (appendA E 60 s5 t272 h)) (fun v h => some (.panic v, h)) fun t273 h =>
   bindR (valR (buildSliceA E 40 1 [(0, t262)] h)) (fun v h => some (.panic v, h)) fun t276 h =>
   bindR (valR (appendA E 40 s6 t276 h)) (fun v h => some (.panic v, h)) fun t277 h =>
   p9_61 cf lf F19 s0 s3 s4 t273 t277 s7 s18 t263 h
  )
 ) (
  p9_50 cf lf F19 s0 s3 s4 s5 s6 s18 h
 )
theorem p9_52_ok (cf : CallF) (lf : Nat) (F19 : Value → Value → Value → Value → Value → Value → Heap → Ans) (T : Tmps) (h : Heap) : execK E cf lf 293 k9_52 T h (seqK (fun T h => p9_50 cf lf F19 (T 0) (T 3) (T 4) (T 5) (T 6) (T 18) h) (blockK 1 (seqK (fun T h => F19 (T 0) (T 3) (T 4) (T 5) (T 6) (T 7) h) (blockK 0 (seqK (fun T h => p9_11 cf lf (T 0) (T 3) (T 4) (T 5) h) (finK E [.tmp 2, .cell 3 29])))))) = p9_52 cf lf F19 (T 0) (T 3) (T 4) (T 5) (T 6) (T 7) (T 17) (T 18) (T 258) h := by simp only [k9_52, k9_53, k9_54, k9_55, k9_56, k9_57, k9_58, k9_60, execK_all, p9_61_ok]; delta p9_52; generalize p9_61 = G0; as_aux_lemma => kernel_rfl
def p9_48 (cf : CallF) (lf : Nat) (F19 : Value → Value → Value → Value → Value → Value → Heap → Ans) (s0 : Value) (s3 : Value) (s4 : Value) (s5 : Value) (s6 : Value) (s7 : Value) (s17 : Value) (s18 : Value) (s20 : Value) (h : Heap) : Ans :=
 bindO (buildA E 39 [(0, (.int .i64 (0))), (2, s17), (4, s7)]) fun t255 =>
 bindR (valR (buildSliceA E 22 1 [(0, t255)] h)) (fun v h => some (.panic v, h)) fun t256 h =>
 bindR (valR (appendA E 22 s4 t256 h)) (fun v h => some (.panic v, h)) fun t257 h =>
 p9_52 cf lf F19 s0 s3 t257 s5 s6 s7 s17 s18 s20 h
theorem p9_48_ok (cf : CallF) (lf : Nat) (F19 : Value → Value → Value → Value → Value → Value → Heap → Ans) (T : Tmps) (h : Heap) : execK E cf lf 293 k9_48 T h (blockK 1 (seqK (fun T h => F19 (T 0) (T 3) (T 4) (T 5) (T 6) (T 7) h) (blockK 0 (seqK (fun T h => p9_11 cf lf (T 0) (T 3) (T 4) (T 5) h) (finK E [.tmp 2, .cell 3 29]))))) = p9_48 cf lf F19 (T 0) (T 3) (T 4) (T 5) (T 6) (T 7) (T 17) (T 18) (T 20) h := by simp only [k9_48, k9_49, k9_51, execK_all, p9_50_ok, p9_52_ok]; delta p9_48; generalize p9_50 = G0; generalize p9_52 = G1; as_aux_lemma => kernel_rfl
def p9_39 (cf : CallF) (lf : Nat) (F19 : Value → Value → Value → Value → Value → Value → Heap → Ans) (s0 : Value) (s3 : Value) (s4 : Value) (s5 : Value) (s6 : Value) (s7 : Value) (s205 : Value) (h : Heap) : Ans :=
 condV s205 (
  bindR (cf 28 [s7] h) (fun v h => some (.panic v, h)) fun t207 h =>
  bindR (skipR (storeA E 29 s3 t207 h)) (fun v h => some (.panic v, h)) fun _ h =>
  bindO (loadA E 29 s3 h) fun tr3 =>
  some (.ret (.tuple ⟨[(.slice none 0 0), tr3]⟩), h)
 ) (
  bindR (cf 29 [s0, s7, (.int .i64 (0)), (.int .i64 (0))] h) (fun v h => some (.panic v, h)) fun t211 h =>
  bindO (extractA t211 0) fun t212 =>
  bindO (extractA t211 1) fun t213 =>
  bindO (extractA t211 2) fun t214 =>
  bindR (valR (allocA E 29 h)) (fun v h => some (.panic v, h)) fun t19 h =>
  bindR (skipR (storeA E 29 t19 t214 h)) (fun v h => some (.panic v, h)) fun _ h =>
  bindO (fieldAddrA E 29 t19 0) fun t215 =>
  bindO (loadA E 27 t215 h) fun t216 =>
  bindO (binA E 27 .neq t216 (.int .i64 (0))) fun t217 =>
  condV t217 (
   bindO (loadA E 29 t19 h) fun t218 =>
   bindR (skipR (storeA E 29 s3 t218 h)) (fun v h => some (.panic v, h)) fun _ h =>
   bindO (loadA E 29 s3 h) fun tr3 =>
   some (.ret (.tuple ⟨[(.slice none 0 0), tr3]⟩), h)
  ) (
   bindO (lenA E 22 s4) fun t220 =>
   bindO (binA E 3 .gtr t220 (.int .i64 (0))) fun t221 =>
   bindO (gO (boolIs true t221) (some s4)) fun t223 =>
   bindO (gO (boolIs true t221) (some s4)) fun t224 =>
   bindO (gO (boolIs true t221) (lenA E 22 t224)) fun t225 =>
   bindO (gO (boolIs true t221) (binA E 3 .sub t225 (.int .i64 (1)))) fun t226 =>
   bindO (gO (boolIs true t221) (indexAddrA E 22 t223 t226)) fun t227 =>
   bindO (gO (boolIs true t221) (fieldAddrA E 39 t227 0)) fun t228 =>
   bindO (gO (boolIs true t221) (loadA E 3 t228 h)) fun t229 =>
   bindO (gO (boolIs true t221) (binA E 3 .eql t229 (.int .i64 (1)))) fun t230 =>
   bindO (pickA t221 t230 (.bool false)) fun t231 =>
   bindO (gO (boolIs true t231) (some s4)) fun t233 =>
   bindO (gO (boolIs true t231) (some s4)) fun t234 =>
   bindO (gO (boolIs true t231) (lenA E 22 t234)) fun t235 =>
   bindO (gO (boolIs true t231) (binA E 3 .sub t235 (.int .i64 (1)))) fun t236 =>
   bindO (gO (boolIs true t231) (indexAddrA E 22 t233 t236)) fun t237 =>
   bindO (gO (boolIs true t231) (fieldAddrA E 39 t237 1)) fun t238 =>
   bindO (gO (boolIs true t231) (loadA E 9 t238 h)) fun t239 =>
   bindO (gO (boolIs true t231) (some s4)) fun t240 =>
   bindO (gO (boolIs true t231) (some s4)) fun t241 =>
   bindO (gO (boolIs true t231) (lenA E 22 t241)) fun t242 =>
   bindO (gO (boolIs true t231) (binA E 3 .sub t242 (.int .i64 (1)))) fun t243 =>
   bindO (gO (boolIs true t231) (indexAddrA E 22 t240 t243)) fun t244 =>
   bindO (gO (boolIs true t231) (fieldAddrA E 39 t244 1)) fun t245 =>
   bindO (gO (boolIs true t231) (loadA E 9 t245 h)) fun t246 =>
   bindO (gO (boolIs true t231) (lenA E 9 t246)) fun t247 =>
   bindO (gO (boolIs true t231) (binA E 3 .sub t247 (.int .i64 (2)))) fun t248 =>
   bindO (gO (boolIs true t231) (maxL [t248, (.int .i64 (0))])) fun t249 =>
   bindR (gR (boolIs true t231) (cf 26 [t239, t249, (.string (mkS [60, 60]))] h) h) (fun v h => some (.panic v, h)) fun t250 h =>
   bindO (pickA t231 t250 (.bool false)) fun t251 =>
   p9_48 cf lf F19 s0 s3 s4 s5 s6 s7 t212 t213 t251 h
  )
 )
theorem p9_39_ok (cf : CallF) (lf : Nat) (F19 : Value → Value → Value → Value → Value → Value → Heap → Ans) (T : Tmps) (h : Heap) : execK E cf lf 293 k9_39 T h (seqK (fun T h => execK E cf lf 293 k9_37 T h (blockK 1 (seqK (fun T h => F19 (T 0) (T 3) (T 4) (T 5) (T 6) (T 7) h) (blockK 0 (seqK (fun T h => p9_11 cf lf (T 0) (T 3) (T 4) (T 5) h) (finK E [.tmp 2, .cell 3 29])))))) (blockK 1 (seqK (fun T h => F19 (T 0) (T 3) (T 4) (T 5) (T 6) (T 7) h) (blockK 0 (seqK (fun T h => p9_11 cf lf (T 0) (T 3) (T 4) (T 5) h) (finK E [.tmp 2, .cell 3 29])))))) = p9_39 cf lf F19 (T 0) (T 3) (T 4) (T 5) (T 6) (T 7) (T 205) h := by simp only [k9_37, k9_39, k9_40, k9_42, k9_43, k9_44, k9_45, k9_46, execK_all, p9_48_ok]; delta p9_39; generalize p9_48 = G0; as_aux_lemma => kernel_rfl
def p9_33 (cf : CallF) (lf : Nat) (F19 : Value → Value → Value → Value → Value → Value → Heap → Ans) (s0 : Value) (s3 : Value) (s4 : Value) (s5 : Value) (s6 : Value) (s7 : Value) (s15 : Value) (s16 : Value) (s181 : Value) (h : Heap) : Ans :=
 condV s181 (
  bindO (binB E 3 .add s7 s15) fun t187 =>
  bindO (lenA E 9 s16) fun t189 =>
  bindO (binB E 3 .add t187 t189) fun t190 =>
  bindO (sliceA E 9 s0 (some s7) (some t190) h) fun t191 =>
  bindO (buildA E 39 [(0, (.int .i64 (1))), (1, t191), (4, s7)]) fun t193 =>
  bindR (valR (buildSliceA E 22 1 [(0, t193)] h)) (fun v h => some (.panic v, h)) fun t194 h =>
  bindR (valR (appendA E 22 s4 t194 h)) (fun v h => some (.panic v, h)) fun t195 h =>
  bindO (binB E 3 .add s7 s15) fun t198 =>
  bindO (lenA E 9 s16) fun t200 =>
  bindO (binB E 3 .add t198 t200) fun t201 =>
  F19 s0 s3 t195 s5 s6 t201 h
 ) (
  bindO (indexA E 9 s0 s7) fun t204 =>
  bindO (binA E 5 .eql t204 (.int .u8 (38))) fun t205 =>
  p9_39 cf lf F19 s0 s3 s4 s5 s6 s7 t205 h
 )
theorem p9_33_ok (cf : CallF) (lf : Nat) (F19 : Value → Value → Value → Value → Value → Value → Heap → Ans) (T : Tmps) (h : Heap) : execK E cf lf 293 k9_33 T h (seqK (fun T h => execK E cf lf 293 k9_31 T h (blockK 1 (seqK (fun T h => F19 (T 0) (T 3) (T 4) (T 5) (T 6) (T 7) h) (blockK 0 (seqK (fun T h => p9_11 cf lf (T 0) (T 3) (T 4) (T 5) h) (finK E [.tmp 2, .cell 3 29])))))) (blockK 1 (seqK (fun T h => F19 (T 0) (T 3) (T 4) (T 5) (T 6) (T 7) h) (blockK 0 (seqK (fun T h => p9_11 cf lf (T 0) (T 3) (T 4) (T 5) h) (finK E [.tmp 2, .cell 3 29])))))) = p9_33 cf lf F19 (T 0) (T 3) (T 4) (T 5) (T 6) (T 7) (T 15) (T 16) (T 181) h := by simp only [k9_31, k9_33, k9_34, k9_35, k9_38, execK_all, p9_39_ok]; delta p9_33; generalize p9_39 = G0; as_aux_lemma => kernel_rfl
def p9_29 (cf : CallF) (lf : Nat) (F19 : Value → Value → Value → Value → Value → Value → Heap → Ans) (s0 : Value) (s3 : Value) (s4 : Value) (s5 : Value) (s6 : Value) (s7 : Value) (s15 : Value) (h : Heap) : Ans :=
 bindO (binB E 3 .add s7 s15) fun t178 =>
 bindR (cf 30 [s0, t178] h) (fun v h => some (.panic v, h)) fun t179 h =>
 bindO (binA E 9 .neq t179 (.string (mkS []))) fun t181 =>
 p9_33 cf lf F19 s0 s3 s4 s5 s6 s7 s15 t179 t181 h
theorem p9_29_ok (cf : CallF) (lf : Nat) (F19 : Value → Value → Value → Value → Value → Value → Heap → Ans) (T : Tmps) (h : Heap) : execK E cf lf 293 k9_29 T h (blockK 1 (seqK (fun T h => F19 (T 0) (T 3) (T 4) (T 5) (T 6) (T 7) h) (blockK 0 (seqK (fun T h => p9_11 cf lf (T 0) (T 3) (T 4) (T 5) h) (finK E [.tmp 2, .cell 3 29]))))) = p9_29 cf lf F19 (T 0) (T 3) (T 4) (T 5) (T 6) (T 7) (T 15) h := by simp only [k9_29, k9_30, k9_32, execK_all, p9_33_ok]; delta p9_29; generalize p9_33 = G0; as_aux_lemma => kernel_rfl
def p9_63 (cf : CallF) (lf : Nat) (F19 : Value → Value → Value → Value → Value → Value → Heap → Ans) (s0 : Value) (s3 : Value) (s4 : Value) (s5 : Value) (s6 : Value) (s7 : Value) (s15 : Value) (s174 : Value) (h : Heap) : Ans :=
 condV s174 (
  p9_29 cf lf F19 s0 s3 s4 s5 s6 s7 (.int .i64 (1)) h
 ) (
  p9_29 cf lf F19 s0 s3 s4 s5 s6 s7 s15 h
 )
theorem p9_63_ok (cf : CallF) (lf : Nat) (F19 : Value → Value → Value → Value → Value → Value → Heap → Ans) (T : Tmps) (h : Heap) : execK E cf lf 293 k9_63 T h (seqK (fun T h => p9_29 cf lf F19 (T 0) (T 3) (T 4) (T 5) (T 6) (T 7) (T 15) h) (blockK 1 (seqK (fun T h => F19 (T 0) (T 3) (T 4) (T 5) (T 6) (T 7) h) (blockK 0 (seqK (fun T h => p9_11 cf lf (T 0) (T 3) (T 4) (T 5) h) (finK E [.tmp 2, .cell 3 29])))))) = p9_63 cf lf F19 (T 0) (T 3) (T 4) (T 5) (T 6) (T 7) (T 15) (T 174) h := by kernel_rfl
def p9_27 (cf : CallF) (lf : Nat) (F19 : Value → Value → Value → Value → Value → Value → Heap → Ans) (s0 : Value) (s3 : Value) (s4 : Value) (s5 : Value) (s6 : Value) (s7 : Value) (h : Heap) : Ans :=
 bindO (indexA E 9 s0 s7) fun t146 =>
 bindO (binA E 5 .geq t146 (.int .u8 (48))) fun t147 =>
 bindO (gO (boolIs true t147) (some s0)) fun t149 =>
 bindO (gO (boolIs true t147) (some s7)) fun t150 =>
 bindO (gO (boolIs true t147) (indexA E 9 t149 t150)) fun t151 =>
 bindO (gO (boolIs true t147) (binA E 5 .leq t151 (.int .u8 (50)))) fun t152 =>
 bindO (pickA t147 t152 (.bool false)) fun t153 =>
 bindO (gO (boolIs true t153) (some s7)) fun t155 =>
 bindO (gO (boolIs true t153) (binA E 3 .add t155 (.int .i64 (1)))) fun t156 =>
 bindO (gO (boolIs true t153) (some s0)) fun t157 =>
 bindO (gO (boolIs true t153) (lenA E 9 t157)) fun t158 =>
 bindO (gO (boolIs true t153) (binB E 3 .lss t156 t158)) fun t159 =>
 bindO (pickA t153 t159 (.bool false)) fun t160 =>
 bindO (gO (boolIs true t160) (some s0)) fun t162 =>
 bindO (gO (boolIs true t160) (some s7)) fun t163 =>
 bindO (gO (boolIs true t160) (binA E 3 .add t163 (.int .i64 (1)))) fun t164 =>
 bindO (gO (boolIs true t160) (indexA E 9 t162 t164)) fun t165 =>
 bindO (gO (boolIs true t160) (binA E 5 .eql t165 (.int .u8 (60)))) fun t166 =>
 bindO (gO (boolIs true t160) (some t166)) fun t167 =>
 bindO (gO (boolIs false t167) (some s0)) fun t168 =>
 bindO (gO (boolIs false t167) (some s7)) fun t169 =>
 bindO (gO (boolIs false t167) (binA E 3 .add t169 (.int .i64 (1)))) fun t170 =>
 bindO (gO (boolIs false t167) (indexA E 9 t168 t170)) fun t171 =>
 bindO (gO (boolIs false t167) (binA E 5 .eql t171 (.int .u8 (62)))) fun t172 =>
 bindO (gO (boolIs true t160) (pickA t167 (.bool true) t172)) fun t173 =>
 bindO (pickA t160 t173 (.bool false)) fun t174 =>
 p9_63 cf lf F19 s0 s3 s4 s5 s6 s7 (.int .i64 (0)) t174 h
theorem p9_27_ok (cf : CallF) (lf : Nat) (F19 : Value → Value → Value → Value → Value → Value → Heap → Ans) (T : Tmps) (h : Heap) : execK E cf lf 293 k9_27 T h (blockK 1 (seqK (fun T h => F19 (T 0) (T 3) (T 4) (T 5) (T 6) (T 7) h) (blockK 0 (seqK (fun T h => p9_11 cf lf (T 0) (T 3) (T 4) (T 5) h) (finK E [.tmp 2, .cell 3 29]))))) = p9_27 cf lf F19 (T 0) (T 3) (T 4) (T 5) (T 6) (T 7) h := by simp only [k9_27, k9_28, k9_62, execK_all, p9_29_ok, p9_63_ok]; delta p9_27; generalize p9_29 = G0; generalize p9_63 = G1; as_aux_lemma => kernel_rfl
def p9_69 (cf : CallF) (lf : Nat) (F19 : Value → Value → Value → Value → Value → Value → Heap → Ans) (s0 : Value) (s3 : Value) (s4 : Value) (s7 : Value) (h : Heap) : Ans :=
 F19 s0 s3 s4 (.slice none 0 0) (.slice none 0 0) s7 h
theorem p9_69_ok (cf : CallF) (lf : Nat) (F19 : Value → Value → Value → Value → Value → Value → Heap → Ans) (T : Tmps) (h : Heap) : execK E cf lf 293 k9_69 T h (seqK (fun T h => p9_27 cf lf F19 (T 0) (T 3) (T 4) (T 5) (T 6) (T 7) h) (blockK 1 (seqK (fun T h => F19 (T 0) (T 3) (T 4) (T 5) (T 6) (T 7) h) (blockK 0 (seqK (fun T h => p9_11 cf lf (T 0) (T 3) (T 4) (T 5) h) (finK E [.tmp 2, .cell 3 29])))))) = p9_69 cf lf F19 (T 0) (T 3) (T 4) (T 7) h := by kernel_rfl
def p9_79 (cf : CallF) (lf : Nat) (F19 : Value → Value → Value → Value → Value → Value → Heap → Ans) (F74 : Value → Value → Value → Value → Value → Value → Value → Heap → Ans) (s0 : Value) (s3 : Value) (s4 : Value) (s5 : Value) (s6 : Value) (s7 : Value) (s8 : Value) (h : Heap) : Ans :=
 bindO (binA E 3 .add s8 (.int .i64 (1))) fun t93 =>
 F74 s0 s3 s4 s5 s6 s7 t93 h
theorem p9_79_ok (cf : CallF) (lf : Nat) (F19 : Value → Value → Value → Value → Value → Value → Heap → Ans) (F74 : Value → Value → Value → Value → Value → Value → Value → Heap → Ans) (T : Tmps) (h : Heap) : execK E cf lf 293 k9_79 T h (seqK (fun T h => F74 (T 0) (T 3) (T 4) (T 5) (T 6) (T 7) (T 8) h) (blockK 6 (seqK (fun T h => p9_69 cf lf F19 (T 0) (T 3) (T 4) (T 7) h) (seqK (fun T h => p9_27 cf lf F19 (T 0) (T 3) (T 4) (T 5) (T 6) (T 7) h) (blockK 1 (seqK (fun T h => F19 (T 0) (T 3) (T 4) (T 5) (T 6) (T 7) h) (blockK 0 (seqK (fun T h => p9_11 cf lf (T 0) (T 3) (T 4) (T 5) h) (finK E [.tmp 2, .cell 3 29]))))))))) = p9_79 cf lf F19 F74 (T 0) (T 3) (T 4) (T 5) (T 6) (T 7) (T 8) h := by kernel_rfl
def p9_90 (cf : CallF) (lf : Nat) (F19 : Value → Value → Value → Value → Value → Value → Heap → Ans) (F74 : Value → Value → Value → Value → Value → Value → Value → Heap → Ans) (s0 : Value) (s3 : Value) (s4 : Value) (s5 : Value) (s6 : Value) (s8 : Value) (s10 : Value) (h : Heap) : Ans :=
 p9_79 cf lf F19 F74 s0 s3 s4 s5 s6 s10 s8 h
theorem p9_90_ok (cf : CallF) (lf : Nat) (F19 : Value → Value → Value → Value → Value → Value → Heap → Ans) (F74 : Value → Value → Value → Value → Value → Value → Value → Heap → Ans) (T : Tmps) (h : Heap) : execK E cf lf 293 k9_90 T h (blockK 7 (seqK (fun T h => p9_79 cf lf F19 F74 (T 0) (T 3) (T 4) (T 5) (T 6) (T 7) (T 8) h) (seqK (fun T h => F74 (T 0) (T 3) (T 4) (T 5) (T 6) (T 7) (T 8) h) (blockK 6 (seqK (fun T h => p9_69 cf lf F19 (T 0) (T 3) (T 4) (T 7) h) (seqK (fun T h => p9_27 cf lf F19 (T 0) (T 3) (T 4) (T 5) (T 6) (T 7) h) (blockK 1 (seqK (fun T h => F19 (T 0) (T 3) (T 4) (T 5) (T 6) (T 7) h) (blockK 0 (seqK (fun T h => p9_11 cf lf (T 0) (T 3) (T 4) (T 5) h) (finK E [.tmp 2, .cell 3 29]))))))))))) = p9_90 cf lf F19 F74 (T 0) (T 3) (T 4) (T 5) (T 6) (T 8) (T 10) h := by kernel_rfl
def p9_99 (cf : CallF) (lf : Nat) (F19 : Value → Value → Value → Value → Value → Value → Heap → Ans) (F74 : Value → Value → Value → Value → Value → Value → Value → Heap → Ans) (s3 : Value) (s14 : Value) (h : Heap) : Ans :=
 bindO (loadA E 29 s14 h) fun t138 =>
 bindR (skipR (storeA E 29 s3 t138 h)) (fun v h => some (.panic v, h)) fun _ h =>
 bindO (loadA E 29 s3 h) fun tr3 =>
 some (.ret (.tuple ⟨[(.slice none 0 0), tr3]⟩), h)
theorem p9_99_ok (cf : CallF) (lf : Nat) (F19 : Value → Value → Value → Value → Value → Value → Heap → Ans) (F74 : Value → Value → Value → Value → Value → Value → Value → Heap → Ans) (T : Tmps) (h : Heap) : execK E cf lf 293 k9_99 T h (seqK (fun T h => execK E cf lf 293 k9_95 T h (seqK (fun T h => p9_90 cf lf F19 F74 (T 0) (T 3) (T 4) (T 5) (T 6) (T 8) (T 10) h) (blockK 7 (seqK (fun T h => p9_79 cf lf F19 F74 (T 0) (T 3) (T 4) (T 5) (T 6) (T 7) (T 8) h) (seqK (fun T h => F74 (T 0) (T 3) (T 4) (T 5) (T 6) (T 7) (T 8) h) (blockK 6 (seqK (fun T h => p9_69 cf lf F19 (T 0) (T 3) (T 4) (T 7) h) (seqK (fun T h => p9_27 cf lf F19 (T 0) (T 3) (T 4) (T 5) (T 6) (T 7) h) (blockK 1 (seqK (fun T h => F19 (T 0) (T 3) (T 4) (T 5) (T 6) (T 7) h) (blockK 0 (seqK (fun T h => p9_11 cf lf (T 0) (T 3) (T 4) (T 5) h) (finK E [.tmp 2, .cell 3 29]))))))))))))) (seqK (fun T h => p9_90 cf lf F19 F74 (T 0) (T 3) (T 4) (T 5) (T 6) (T 8) (T 10) h) (blockK 7 (seqK (fun T h => p9_79 cf lf F19 F74 (T 0) (T 3) (T 4) (T 5) (T 6) (T 7) (T 8) h) (seqK (fun T h => F74 (T 0) (T 3) (T 4) (T 5) (T 6) (T 7) (T 8) h) (blockK 6 (seqK (fun T h => p9_69 cf lf F19 (T 0) (T 3) (T 4) (T 7) h) (seqK (fun T h => p9_27 cf lf F19 (T 0) (T 3) (T 4) (T 5) (T 6) (T 7) h) (blockK 1 (seqK (fun T h => F19 (T 0) (T 3) (T 4) (T 5) (T 6) (T 7) h) (blockK 0 (seqK (fun T h => p9_11 cf lf (T 0) (T 3) (T 4) (T 5) h) (finK E [.tmp 2, .cell 3 29]))))))))))))) = p9_99 cf lf F19 F74 (T 3) (T 14) h := by kernel_rfl
def p9_92 (cf : CallF) (lf : Nat) (F19 : Value → Value → Value → Value → Value → Value → Heap → Ans) (F74 : Value → Value → Value → Value → Value → Value → Value → Heap → Ans) (s0 : Value) (s3 : Value) (s4 : Value) (s5 : Value) (s6 : Value) (s7 : Value) (s8 : Value) (s9 : Value) (s10 : Value) (s11 : Value) (s123 : Value) (h : Heap) : Ans :=
 condV s123 (
  bindR (cf 29 [s9, (.int .i64 (0)), (.int .i64 (2)), (.int .i64 (0))] h) (fun v h => some (.panic v, h)) fun t126 h =>
  bindO (extractA t126 0) fun t127 =>
  bindO (extractA t126 1) fun t128 =>
  bindO (extractA t126 2) fun t129 =>
  bindR (valR (allocA E 29 h)) (fun v h => some (.panic v, h)) fun t14 h =>
  bindR (skipR (storeA E 29 t14 t129 h)) (fun v h => some (.panic v, h)) fun _ h =>
  bindO (fieldAddrA E 29 t14 0) fun t130 =>
  bindO (loadA E 27 t130 h) fun t131 =>
  bindO (binA E 27 .neq t131 (.int .i64 (0))) fun t132 =>
  condV t132 (
   bindO (fieldAddrA E 29 t14 1) fun t133 =>
   bindO (loadA E 3 t133 h) fun t134 =>
   bindO (binB E 3 .add t134 s7) fun t136 =>
   bindO (fieldAddrA E 29 t14 1) fun t137 =>
   bindR (skipR (storeA E 3 t137 t136 h)) (fun v h => some (.panic v, h)) fun _ h =>
   p9_99 cf lf F19 F74 s3 t14 h
  ) (
   bindO (nilA s11) fun t141 =>
   bindO (fieldAddrA E 39 t141 2) fun t142 =>
   bindR (skipR (storeA E 37 t142 t127 h)) (fun v h => some (.panic v, h)) fun _ h =>
   p9_90 cf lf F19 F74 s0 s3 s4 s5 s6 s8 s10 h
  )
 ) (
  p9_90 cf lf F19 F74 s0 s3 s4 s5 s6 s8 s10 h
 )
theorem p9_92_ok (cf : CallF) (lf : Nat) (F19 : Value → Value → Value → Value → Value → Value → Heap → Ans) (F74 : Value → Value → Value → Value → Value → Value → Value → Heap → Ans) (T : Tmps) (h : Heap) : execK E cf lf 293 k9_92 T h (seqK (fun T h => p9_90 cf lf F19 F74 (T 0) (T 3) (T 4) (T 5) (T 6) (T 8) (T 10) h) (blockK 7 (seqK (fun T h => p9_79 cf lf F19 F74 (T 0) (T 3) (T 4) (T 5) (T 6) (T 7) (T 8) h) (seqK (fun T h => F74 (T 0) (T 3) (T 4) (T 5) (T 6) (T 7) (T 8) h) (blockK 6 (seqK (fun T h => p9_69 cf lf F19 (T 0) (T 3) (T 4) (T 7) h) (seqK (fun T h => p9_27 cf lf F19 (T 0) (T 3) (T 4) (T 5) (T 6) (T 7) h) (blockK 1 (seqK (fun T h => F19 (T 0) (T 3) (T 4) (T 5) (T 6) (T 7) h) (blockK 0 (seqK (fun T h => p9_11 cf lf (T 0) (T 3) (T 4) (T 5) h) (finK E [.tmp 2, .cell 3 29])))))))))))) = p9_92 cf lf F19 F74 (T 0) (T 3) (T 4) (T 5) (T 6) (T 7) (T 8) (T 9) (T 10) (T 11) (T 123) h := by simp only [k9_92, k9_93, k9_94, k9_96, k9_97, k9_98, execK_all, p9_99_ok]; delta p9_92; generalize p9_99 = G0; as_aux_lemma => kernel_rfl
def p9_82 (cf : CallF) (lf : Nat) (F19 : Value → Value → Value → Value → Value → Value → Heap → Ans) (F74 : Value → Value → Value → Value → Value → Value → Value → Heap → Ans) (s0 : Value) (s3 : Value) (s4 : Value) (s5 : Value) (s6 : Value) (s7 : Value) (s8 : Value) (s9 : Value) (s10 : Value) (h : Heap) : Ans :=
 bindO (binA E 3 .lss s10 (.int .i64 (0))) fun t105 =>
 condV t105 (
  bindO (lenA E 9 s0) fun t107 =>
  bindR (cf 28 [t107] h) (fun v h => some (.panic v, h)) fun t108 h =>
  bindR (skipR (storeA E 29 s3 t108 h)) (fun v h => some (.panic v, h)) fun _ h =>
  bindO (loadA E 29 s3 h) fun tr3 =>
  some (.ret (.tuple ⟨[(.slice none 0 0), tr3]⟩), h)
 ) (
  bindO (indexAddrA E 60 s5 s8) fun t112 =>
  bindO (loadA E 3 t112 h) fun t113 =>
  bindO (indexAddrA E 22 s4 t113) fun t114 =>
  bindO (nilA t114) fun t117 =>
  bindO (fieldAddrA E 39 t117 1) fun t118 =>
  bindR (skipR (storeA E 9 t118 s9 h)) (fun v h => some (.panic v, h)) fun _ h =>
  bindO (nilA t114) fun t120 =>
  bindO (fieldAddrA E 39 t120 3) fun t121 =>
  bindO (loadA E 4 t121 h) fun t122 =>
  bindO (unA .not t122) fun t123 =>
  p9_92 cf lf F19 F74 s0 s3 s4 s5 s6 s7 s8 s9 s10 t114 t123 h
 )
theorem p9_82_ok (cf : CallF) (lf : Nat) (F19 : Value → Value → Value → Value → Value → Value → Heap → Ans) (F74 : Value → Value → Value → Value → Value → Value → Value → Heap → Ans) (T : Tmps) (h : Heap) : execK E cf lf 293 k9_82 T h (blockK 7 (seqK (fun T h => p9_79 cf lf F19 F74 (T 0) (T 3) (T 4) (T 5) (T 6) (T 7) (T 8) h) (seqK (fun T h => F74 (T 0) (T 3) (T 4) (T 5) (T 6) (T 7) (T 8) h) (blockK 6 (seqK (fun T h => p9_69 cf lf F19 (T 0) (T 3) (T 4) (T 7) h) (seqK (fun T h => p9_27 cf lf F19 (T 0) (T 3) (T 4) (T 5) (T 6) (T 7) h) (blockK 1 (seqK (fun T h => F19 (T 0) (T 3) (T 4) (T 5) (T 6) (T 7) h) (blockK 0 (seqK (fun T h => p9_11 cf lf (T 0) (T 3) (T 4) (T 5) h) (finK E [.tmp 2, .cell 3 29]))))))))))) = p9_82 cf lf F19 F74 (T 0) (T 3) (T 4) (T 5) (T 6) (T 7) (T 8) (T 9) (T 10) h := by simp only [k9_82, k9_83, k9_84, k9_85, k9_86, k9_88, k9_89, k9_91, execK_all, p9_90_ok, p9_92_ok]; delta p9_82; generalize p9_90 = G0; generalize p9_92 = G1; as_aux_lemma => kernel_rfl
def p9_75 (cf : CallF) (lf : Nat) (F19 : Value → Value → Value → Value → Value → Value → Heap → Ans) (F74 : Value → Value → Value → Value → Value → Value → Value → Heap → Ans) (s0 : Value) (s3 : Value) (s4 : Value) (s5 : Value) (s6 : Value) (s7 : Value) (s8 : Value) (h : Heap) : Ans :=
 bindO (lenA E 60 s5) fun t90 =>
 bindO (binB E 3 .lss s8 t90) fun t91 =>
 condV t91 (
  bindO (indexAddrA E 40 s6 s8) fun t99 =>
  bindO (loadA E 9 t99 h) fun t100 =>
  bindR (cf 27 [s0, s7, t100] h) (fun v h => some (.panic v, h)) fun t101 h =>
  bindO (extractA t101 0) fun t102 =>
  bindO (extractA t101 1) fun t103 =>
  p9_82 cf lf F19 F74 s0 s3 s4 s5 s6 s7 s8 t102 t103 h
 ) (
  p9_69 cf lf F19 s0 s3 s4 s7 h
 )
theorem p9_75_ok (cf : CallF) (lf : Nat) (F19 : Value → Value → Value → Value → Value → Value → Heap → Ans) (F74 : Value → Value → Value → Value → Value → Value → Value → Heap → Ans) (T : Tmps) (h : Heap) : execK E cf lf 293 k9_75 T h (seqK (fun T h => F74 (T 0) (T 3) (T 4) (T 5) (T 6) (T 7) (T 8) h) (blockK 6 (seqK (fun T h => p9_69 cf lf F19 (T 0) (T 3) (T 4) (T 7) h) (seqK (fun T h => p9_27 cf lf F19 (T 0) (T 3) (T 4) (T 5) (T 6) (T 7) h) (blockK 1 (seqK (fun T h => F19 (T 0) (T 3) (T 4) (T 5) (T 6) (T 7) h) (blockK 0 (seqK (fun T h => p9_11 cf lf (T 0) (T 3) (T 4) (T 5) h) (finK E [.tmp 2, .cell 3 29]))))))))) = p9_75 cf lf F19 F74 (T 0) (T 3) (T 4) (T 5) (T 6) (T 7) (T 8) h := by simp only [k9_75, k9_76, k9_77, k9_78, k9_80, k9_81, execK_all, p9_79_ok, p9_82_ok]; delta p9_75; generalize p9_79 = G0; generalize p9_82 = G1; as_aux_lemma => kernel_rfl
def l9_74 (cf : CallF) (lf : Nat) (F19 : Value → Value → Value → Value → Value → Value → Heap → Ans) : Nat → Value → Value → Value → Value → Value → Value → Value → Heap → Ans
 | 0, _, _, _, _, _, _, _, _ => none
 | n + 1, s0, s3, s4, s5, s6, s7, s8, h => p9_75 cf lf F19 (l9_74 cf lf F19 n) s0 s3 s4 s5 s6 s7 s8 h
theorem l9_74_ok (cf : CallF) (lf : Nat) (F19 : Value → Value → Value → Value → Value → Value → Heap → Ans) (n : Nat) : ∀ (T : Tmps) (h : Heap), iterK (fun T h K => execK E cf lf 293 k9_75 T h K) (blockK 6 (seqK (fun T h => p9_69 cf lf F19 (T 0) (T 3) (T 4) (T 7) h) (seqK (fun T h => p9_27 cf lf F19 (T 0) (T 3) (T 4) (T 5) (T 6) (T 7) h) (blockK 1 (seqK (fun T h => F19 (T 0) (T 3) (T 4) (T 5) (T 6) (T 7) h) (blockK 0 (seqK (fun T h => p9_11 cf lf (T 0) (T 3) (T 4) (T 5) h) (finK E [.tmp 2, .cell 3 29])))))))) n T h = l9_74 cf lf F19 n (T 0) (T 3) (T 4) (T 5) (T 6) (T 7) (T 8) h := by
 induction n with
 | zero => intro T h; rfl
 | succ n ih =>
  intro T h
  rw [iterK_succ, show iterK (fun T h K => execK E cf lf 293 k9_75 T h K) (blockK 6 (seqK (fun T h => p9_69 cf lf F19 (T 0) (T 3) (T 4) (T 7) h) (seqK (fun T h => p9_27 cf lf F19 (T 0) (T 3) (T 4) (T 5) (T 6) (T 7) h) (blockK 1 (seqK (fun T h => F19 (T 0) (T 3) (T 4) (T 5) (T 6) (T 7) h) (blockK 0 (seqK (fun T h => p9_11 cf lf (T 0) (T 3) (T 4) (T 5) h) (finK E [.tmp 2, .cell 3 29])))))))) n = (fun T h => l9_74 cf lf F19 n (T 0) (T 3) (T 4) (T 5) (T 6) (T 7) (T 8) h) from funext fun T => funext fun h => ih T h]
  exact p9_75_ok cf lf F19 (l9_74 cf lf F19 n) T h
def p9_73 (cf : CallF) (lf : Nat) (F19 : Value → Value → Value → Value → Value → Value → Heap → Ans) (s0 : Value) (s3 : Value) (s4 : Value) (s5 : Value) (s6 : Value) (s7 : Value) (s8 : Value) (h : Heap) : Ans :=
 l9_74 cf lf F19 lf s0 s3 s4 s5 s6 s7 s8 h
theorem p9_73_ok (cf : CallF) (lf : Nat) (F19 : Value → Value → Value → Value → Value → Value → Heap → Ans) (T : Tmps) (h : Heap) : execK E cf lf 293 k9_73 T h (seqK (fun T h => p9_69 cf lf F19 (T 0) (T 3) (T 4) (T 7) h) (seqK (fun T h => p9_27 cf lf F19 (T 0) (T 3) (T 4) (T 5) (T 6) (T 7) h) (blockK 1 (seqK (fun T h => F19 (T 0) (T 3) (T 4) (T 5) (T 6) (T 7) h) (blockK 0 (seqK (fun T h => p9_11 cf lf (T 0) (T 3) (T 4) (T 5) h) (finK E [.tmp 2, .cell 3 29]))))))) = p9_73 cf lf F19 (T 0) (T 3) (T 4) (T 5) (T 6) (T 7) (T 8) h := by simp only [k9_73, k9_74, execK_all, l9_74_ok]; delta p9_73; generalize l9_74 = G0; as_aux_lemma => kernel_rfl
def p9_65 (cf : CallF) (lf : Nat) (F19 : Value → Value → Value → Value → Value → Value → Heap → Ans) (s0 : Value) (s3 : Value) (s4 : Value) (s5 : Value) (s6 : Value) (s7 : Value) (s80 : Value) (h : Heap) : Ans :=
 condV s80 (
  bindO (buildA E 39 [(0, (.int .i64 (2))), (4, s7)]) fun t83 =>
  bindR (valR (buildSliceA E 22 1 [(0, t83)] h)) (fun v h => some (.panic v, h)) fun t84 h =>
  bindR (valR (appendA E 22 s4 t84 h)) (fun v h => some (.panic v, h)) fun t85 h =>
  bindO (binA E 3 .add s7 (.int .i64 (1))) fun t87 =>
  p9_73 cf lf F19 s0 s3 t85 s5 s6 t87 (.int .i64 (0)) h
 ) (
  p9_27 cf lf F19 s0 s3 s4 s5 s6 s7 h
 )
theorem p9_65_ok (cf : CallF) (lf : Nat) (F19 : Value → Value → Value → Value → Value → Value → Heap → Ans) (T : Tmps) (h : Heap) : execK E cf lf 293 k9_65 T h (seqK (fun T h => p9_27 cf lf F19 (T 0) (T 3) (T 4) (T 5) (T 6) (T 7) h) (blockK 1 (seqK (fun T h => F19 (T 0) (T 3) (T 4) (T 5) (T 6) (T 7) h) (blockK 0 (seqK (fun T h => p9_11 cf lf (T 0) (T 3) (T 4) (T 5) h) (finK E [.tmp 2, .cell 3 29])))))) = p9_65 cf lf F19 (T 0) (T 3) (T 4) (T 5) (T 6) (T 7) (T 80) h := by simp only [k9_65, k9_66, k9_67, k9_68, k9_72, execK_all, p9_69_ok, p9_73_ok]; delta p9_65; generalize p9_69 = G0; generalize p9_73 = G1; as_aux_lemma => kernel_rfl
def p9_26 (cf : CallF) (lf : Nat) (F19 : Value → Value → Value → Value → Value → Value → Heap → Ans) (s0 : Value) (s3 : Value) (s4 : Value) (s5 : Value) (s6 : Value) (s7 : Value) (h : Heap) : Ans :=
 bindO (indexA E 9 s0 s7) fun t79 =>
 bindO (binA E 5 .eql t79 (.int .u8 (10))) fun t80 =>
 p9_65 cf lf F19 s0 s3 s4 s5 s6 s7 t80 h
theorem p9_26_ok (cf : CallF) (lf : Nat) (F19 : Value → Value → Value → Value → Value → Value → Heap → Ans) (T : Tmps) (h : Heap) : execK E cf lf 293 k9_26 T h (blockK 1 (seqK (fun T h => F19 (T 0) (T 3) (T 4) (T 5) (T 6) (T 7) h) (blockK 0 (seqK (fun T h => p9_11 cf lf (T 0) (T 3) (T 4) (T 5) h) (finK E [.tmp 2, .cell 3 29]))))) = p9_26 cf lf F19 (T 0) (T 3) (T 4) (T 5) (T 6) (T 7) h := by simp only [k9_26, k9_64, execK_all, p9_27_ok, p9_65_ok]; delta p9_26; generalize p9_27 = G0; generalize p9_65 = G1; as_aux_lemma => kernel_rfl
def p9_107 (cf : CallF) (lf : Nat) (F19 : Value → Value → Value → Value → Value → Value → Heap → Ans) (F106 : Value → Value → Value → Value → Value → Value → Heap → Ans) (s0 : Value) (s3 : Value) (s4 : Value) (s5 : Value) (s6 : Value) (s7 : Value) (h : Heap) : Ans :=
 bindO (lenA E 9 s0) fun t67 =>
 bindO (binB E 3 .lss s7 t67) fun t68 =>
 bindO (gO (boolIs true t68) (some s0)) fun t70 =>
 bindO (gO (boolIs true t68) (some s7)) fun t71 =>
 bindO (gO (boolIs true t68) (indexA E 9 t70 t71)) fun t72 =>
 bindO (gO (boolIs true t68) (binA E 5 .neq t72 (.int .u8 (10)))) fun t73 =>
 bindO (pickA t68 t73 (.bool false)) fun t74 =>
 condV t74 (
  bindO (binA E 3 .add s7 (.int .i64 (1))) fun t76 =>
  F106 s0 s3 s4 s5 s6 t76 h
 ) (
  F19 s0 s3 s4 s5 s6 s7 h
 )
theorem p9_107_ok (cf : CallF) (lf : Nat) (F19 : Value → Value → Value → Value → Value → Value → Heap → Ans) (F106 : Value → Value → Value → Value → Value → Value → Heap → Ans) (T : Tmps) (h : Heap) : execK E cf lf 293 k9_107 T h (seqK (fun T h => F106 (T 0) (T 3) (T 4) (T 5) (T 6) (T 7) h) (blockK 4 (seqK (fun T h => execK E cf lf 293 k9_104 T h (seqK (fun T h => p9_26 cf lf F19 (T 0) (T 3) (T 4) (T 5) (T 6) (T 7) h) (blockK 1 (seqK (fun T h => F19 (T 0) (T 3) (T 4) (T 5) (T 6) (T 7) h) (blockK 0 (seqK (fun T h => p9_11 cf lf (T 0) (T 3) (T 4) (T 5) h) (finK E [.tmp 2, .cell 3 29]))))))) (seqK (fun T h => p9_26 cf lf F19 (T 0) (T 3) (T 4) (T 5) (T 6) (T 7) h) (blockK 1 (seqK (fun T h => F19 (T 0) (T 3) (T 4) (T 5) (T 6) (T 7) h) (blockK 0 (seqK (fun T h => p9_11 cf lf (T 0) (T 3) (T 4) (T 5) h) (finK E [.tmp 2, .cell 3 29]))))))))) = p9_107 cf lf F19 F106 (T 0) (T 3) (T 4) (T 5) (T 6) (T 7) h := by kernel_rfl
def l9_106 (cf : CallF) (lf : Nat) (F19 : Value → Value → Value → Value → Value → Value → Heap → Ans) : Nat → Value → Value → Value → Value → Value → Value → Heap → Ans
 | 0, _, _, _, _, _, _, _ => none
 | n + 1, s0, s3, s4, s5, s6, s7, h => p9_107 cf lf F19 (l9_106 cf lf F19 n) s0 s3 s4 s5 s6 s7 h
theorem l9_106_ok (cf : CallF) (lf : Nat) (F19 : Value → Value → Value → Value → Value → Value → Heap → Ans) (n : Nat) : ∀ (T : Tmps) (h : Heap), iterK (fun T h K => execK E cf lf 293 k9_107 T h K) (blockK 4 (seqK (fun T h => execK E cf lf 293 k9_104 T h (seqK (fun T h => p9_26 cf lf F19 (T 0) (T 3) (T 4) (T 5) (T 6) (T 7) h) (blockK 1 (seqK (fun T h => F19 (T 0) (T 3) (T 4) (T 5) (T 6) (T 7) h) (blockK 0 (seqK (fun T h => p9_11 cf lf (T 0) (T 3) (T 4) (T 5) h) (finK E [.tmp 2, .cell 3 29]))))))) (seqK (fun T h => p9_26 cf lf F19 (T 0) (T 3) (T 4) (T 5) (T 6) (T 7) h) (blockK 1 (seqK (fun T h => F19 (T 0) (T 3) (T 4) (T 5) (T 6) (T 7) h) (blockK 0 (seqK (fun T h => p9_11 cf lf (T 0) (T 3) (T 4) (T 5) h) (finK E [.tmp 2, .cell 3 29])))))))) n T h = l9_106 cf lf F19 n (T 0) (T 3) (T 4) (T 5) (T 6) (T 7) h := by
 induction n with
 | zero => intro T h; rfl
 | succ n ih =>
  intro T h
  rw [iterK_succ, show iterK (fun T h K => execK E cf lf 293 k9_107 T h K) (blockK 4 (seqK (fun T h => execK E cf lf 293 k9_104 T h (seqK (fun T h => p9_26 cf lf F19 (T 0) (T 3) (T 4) (T 5) (T 6) (T 7) h) (blockK 1 (seqK (fun T h => F19 (T 0) (T 3) (T 4) (T 5) (T 6) (T 7) h) (blockK 0 (seqK (fun T h => p9_11 cf lf (T 0) (T 3) (T 4) (T 5) h) (finK E [.tmp 2, .cell 3 29]))))))) (seqK (fun T h => p9_26 cf lf F19 (T 0) (T 3) (T 4) (T 5) (T 6) (T 7) h) (blockK 1 (seqK (fun T h => F19 (T 0) (T 3) (T 4) (T 5) (T 6) (T 7) h) (blockK 0 (seqK (fun T h => p9_11 cf lf (T 0) (T 3) (T 4) (T 5) h) (finK E [.tmp 2, .cell 3 29])))))))) n = (fun T h => l9_106 cf lf F19 n (T 0) (T 3) (T 4) (T 5) (T 6) (T 7) h) from funext fun T => funext fun h => ih T h]
  exact p9_107_ok cf lf F19 (l9_106 cf lf F19 n) T h
def p9_22 (cf : CallF) (lf : Nat) (F19 : Value → Value → Value → Value → Value → Value → Heap → Ans) (s0 : Value) (s3 : Value) (s4 : Value) (s5 : Value) (s6 : Value) (s7 : Value) (h : Heap) : Ans :=
 bindO (lenA E 9 s0) fun t59 =>
 bindO (binB E 3 .geq s7 t59) fun t60 =>
 condV t60 (
  p9_11 cf lf s0 s3 s4 s5 h
 ) (
  bindO (indexA E 9 s0 s7) fun t63 =>
  bindO (binA E 5 .eql t63 (.int .u8 (35))) fun t64 =>
  condV t64 (
   l9_106 cf lf F19 lf s0 s3 s4 s5 s6 s7 h
  ) (
   p9_26 cf lf F19 s0 s3 s4 s5 s6 s7 h
  )
 )
theorem p9_22_ok (cf : CallF) (lf : Nat) (F19 : Value → Value → Value → Value → Value → Value → Heap → Ans) (T : Tmps) (h : Heap) : execK E cf lf 293 k9_22 T h (blockK 1 (seqK (fun T h => F19 (T 0) (T 3) (T 4) (T 5) (T 6) (T 7) h) (blockK 0 (seqK (fun T h => p9_11 cf lf (T 0) (T 3) (T 4) (T 5) h) (finK E [.tmp 2, .cell 3 29]))))) = p9_22 cf lf F19 (T 0) (T 3) (T 4) (T 5) (T 6) (T 7) h := by simp only [k9_101, k9_102, k9_103, k9_105, k9_106, k9_22, k9_23, k9_24, k9_25, execK_all, l9_106_ok, p9_26_ok]; delta p9_22; generalize l9_106 = G0; generalize p9_26 = G1; as_aux_lemma => kernel_rfl
def p9_118 (cf : CallF) (lf : Nat) (F19 : Value → Value → Value → Value → Value → Value → Heap → Ans) (F112 : Value → Value → Value → Value → Value → Value → Heap → Ans) (s0 : Value) (s3 : Value) (s4 : Value) (s5 : Value) (s6 : Value) (s7 : Value) (h : Heap) : Ans :=
 bindO (binA E 3 .add s7 (.int .i64 (1))) fun t56 =>
 F112 s0 s3 s4 s5 s6 t56 h
theorem p9_118_ok (cf : CallF) (lf : Nat) (F19 : Value → Value → Value → Value → Value → Value → Heap → Ans) (F112 : Value → Value → Value → Value → Value → Value → Heap → Ans) (T : Tmps) (h : Heap) : execK E cf lf 293 k9_118 T h (blockK 3 (seqK (fun T h => F112 (T 0) (T 3) (T 4) (T 5) (T 6) (T 7) h) (blockK 2 (seqK (fun T h => p9_22 cf lf F19 (T 0) (T 3) (T 4) (T 5) (T 6) (T 7) h) (blockK 1 (seqK (fun T h => F19 (T 0) (T 3) (T 4) (T 5) (T 6) (T 7) h) (blockK 0 (seqK (fun T h => p9_11 cf lf (T 0) (T 3) (T 4) (T 5) h) (finK E [.tmp 2, .cell 3 29]))))))))) = p9_118 cf lf F19 F112 (T 0) (T 3) (T 4) (T 5) (T 6) (T 7) h := by kernel_rfl
def p9_116 (cf : CallF) (lf : Nat) (F19 : Value → Value → Value → Value → Value → Value → Heap → Ans) (F112 : Value → Value → Value → Value → Value → Value → Heap → Ans) (s0 : Value) (s3 : Value) (s4 : Value) (s5 : Value) (s6 : Value) (s7 : Value) (s48 : Value) (h : Heap) : Ans :=
 condV s48 (
  bindO (indexA E 9 s0 s7) fun t51 =>
  bindO (binA E 5 .eql t51 (.int .u8 (92))) fun t52 =>
  condV t52 (
   bindO (binA E 3 .add s7 (.int .i64 (1))) fun t54 =>
   p9_118 cf lf F19 F112 s0 s3 s4 s5 s6 t54 h
  ) (
   p9_118 cf lf F19 F112 s0 s3 s4 s5 s6 s7 h
  )
 ) (
  p9_22 cf lf F19 s0 s3 s4 s5 s6 s7 h
 )
theorem p9_116_ok (cf : CallF) (lf : Nat) (F19 : Value → Value → Value → Value → Value → Value → Heap → Ans) (F112 : Value → Value → Value → Value → Value → Value → Heap → Ans) (T : Tmps) (h : Heap) : execK E cf lf 293 k9_116 T h (seqK (fun T h => execK E cf lf 293 k9_114 T h (seqK (fun T h => F112 (T 0) (T 3) (T 4) (T 5) (T 6) (T 7) h) (blockK 2 (seqK (fun T h => p9_22 cf lf F19 (T 0) (T 3) (T 4) (T 5) (T 6) (T 7) h) (blockK 1 (seqK (fun T h => F19 (T 0) (T 3) (T 4) (T 5) (T 6) (T 7) h) (blockK 0 (seqK (fun T h => p9_11 cf lf (T 0) (T 3) (T 4) (T 5) h) (finK E [.tmp 2, .cell 3 29]))))))))) (seqK (fun T h => F112 (T 0) (T 3) (T 4) (T 5) (T 6) (T 7) h) (blockK 2 (seqK (fun T h => p9_22 cf lf F19 (T 0) (T 3) (T 4) (T 5) (T 6) (T 7) h) (blockK 1 (seqK (fun T h => F19 (T 0) (T 3) (T 4) (T 5) (T 6) (T 7) h) (blockK 0 (seqK (fun T h => p9_11 cf lf (T 0) (T 3) (T 4) (T 5) h) (finK E [.tmp 2, .cell 3 29]))))))))) = p9_116 cf lf F19 F112 (T 0) (T 3) (T 4) (T 5) (T 6) (T 7) (T 48) h := by simp only [k9_114, k9_116, k9_117, k9_119, k9_120, execK_all, p9_118_ok]; delta p9_116; generalize p9_118 = G0; as_aux_lemma => kernel_rfl
def p9_113 (cf : CallF) (lf : Nat) (F19 : Value → Value → Value → Value → Value → Value → Heap → Ans) (F112 : Value → Value → Value → Value → Value → Value → Heap → Ans) (s0 : Value) (s3 : Value) (s4 : Value) (s5 : Value) (s6 : Value) (s7 : Value) (h : Heap) : Ans :=
 bindO (lenA E 9 s0) fun t30 =>
 bindO (binB E 3 .lss s7 t30) fun t31 =>
 bindO (gO (boolIs true t31) (some s0)) fun t33 =>
 bindO (gO (boolIs true t31) (some s7)) fun t34 =>
 bindO (gO (boolIs true t31) (indexA E 9 t33 t34)) fun t35 =>
 bindO (gO (boolIs true t31) (binA E 5 .eql t35 (.int .u8 (32)))) fun t36 =>
 bindO (gO (boolIs true t31) (some t36)) fun t37 =>
 bindO (gO (boolIs false t37) (some s0)) fun t38 =>
 bindO (gO (boolIs false t37) (some s7)) fun t39 =>
 bindO (gO (boolIs false t37) (indexA E 9 t38 t39)) fun t40 =>
 bindO (gO (boolIs false t37) (binA E 5 .eql t40 (.int .u8 (9)))) fun t41 =>
 bindO (gO (boolIs true t31) (pickA t37 (.bool true) t41)) fun t42 =>
 bindO (gO (boolIs true t31) (some t42)) fun t43 =>
 bindO (gO (boolIs false t43) (some s0)) fun t44 =>
 bindO (gO (boolIs false t43) (some s7)) fun t45 =>
 bindR (gR (boolIs false t43) (cf 26 [t44, t45, (.string (mkS [92, 10]))] h) h) (fun v h => some (.panic v, h)) fun t46 h =>
 bindO (gO (boolIs true t31) (pickA t43 (.bool true) t46)) fun t47 =>
 bindO (pickA t31 t47 (.bool false)) fun t48 =>
 p9_116 cf lf F19 F112 s0 s3 s4 s5 s6 s7 t48 h
theorem p9_113_ok (cf : CallF) (lf : Nat) (F19 : Value → Value → Value → Value → Value → Value → Heap → Ans) (F112 : Value → Value → Value → Value → Value → Value → Heap → Ans) (T : Tmps) (h : Heap) : execK E cf lf 293 k9_113 T h (seqK (fun T h => F112 (T 0) (T 3) (T 4) (T 5) (T 6) (T 7) h) (blockK 2 (seqK (fun T h => p9_22 cf lf F19 (T 0) (T 3) (T 4) (T 5) (T 6) (T 7) h) (blockK 1 (seqK (fun T h => F19 (T 0) (T 3) (T 4) (T 5) (T 6) (T 7) h) (blockK 0 (seqK (fun T h => p9_11 cf lf (T 0) (T 3) (T 4) (T 5) h) (finK E [.tmp 2, .cell 3 29])))))))) = p9_113 cf lf F19 F112 (T 0) (T 3) (T 4) (T 5) (T 6) (T 7) h := by simp only [k9_113, k9_115, execK_all, p9_116_ok]; delta p9_113; generalize p9_116 = G0; as_aux_lemma => kernel_rfl
def l9_112 (cf : CallF) (lf : Nat) (F19 : Value → Value → Value → Value → Value → Value → Heap → Ans) : Nat → Value → Value → Value → Value → Value → Value → Heap → Ans
 | 0, _, _, _, _, _, _, _ => none
 | n + 1, s0, s3, s4, s5, s6, s7, h => p9_113 cf lf F19 (l9_112 cf lf F19 n) s0 s3 s4 s5 s6 s7 h
theorem l9_112_ok (cf : CallF) (lf : Nat) (F19 : Value → Value → Value → Value → Value → Value → Heap → Ans) (n : Nat) : ∀ (T : Tmps) (h : Heap), iterK (fun T h K => execK E cf lf 293 k9_113 T h K) (blockK 2 (seqK (fun T h => p9_22 cf lf F19 (T 0) (T 3) (T 4) (T 5) (T 6) (T 7) h) (blockK 1 (seqK (fun T h => F19 (T 0) (T 3) (T 4) (T 5) (T 6) (T 7) h) (blockK 0 (seqK (fun T h => p9_11 cf lf (T 0) (T 3) (T 4) (T 5) h) (finK E [.tmp 2, .cell 3 29]))))))) n T h = l9_112 cf lf F19 n (T 0) (T 3) (T 4) (T 5) (T 6) (T 7) h := by
 induction n with
 | zero => intro T h; rfl
 | succ n ih =>
  intro T h
  rw [iterK_succ, show iterK (fun T h K => execK E cf lf 293 k9_113 T h K) (blockK 2 (seqK (fun T h => p9_22 cf lf F19 (T 0) (T 3) (T 4) (T 5) (T 6) (T 7) h) (blockK 1 (seqK (fun T h => F19 (T 0) (T 3) (T 4) (T 5) (T 6) (T 7) h) (blockK 0 (seqK (fun T h => p9_11 cf lf (T 0) (T 3) (T 4) (T 5) h) (finK E [.tmp 2, .cell 3 29]))))))) n = (fun T h => l9_112 cf lf F19 n (T 0) (T 3) (T 4) (T 5) (T 6) (T 7) h) from funext fun T => funext fun h => ih T h]
  exact p9_113_ok cf lf F19 (l9_112 cf lf F19 n) T h
def p9_20 (cf : CallF) (lf : Nat) (F19 : Value → Value → Value → Value → Value → Value → Heap → Ans) (s0 : Value) (s3 : Value) (s4 : Value) (s5 : Value) (s6 : Value) (s7 : Value) (h : Heap) : Ans :=
 l9_112 cf lf F19 lf s0 s3 s4 s5 s6 s7 h
theorem p9_20_ok (cf : CallF) (lf : Nat) (F19 : Value → Value → Value → Value → Value → Value → Heap → Ans) (T : Tmps) (h : Heap) : execK E cf lf 293 k9_20 T h (seqK (fun T h => F19 (T 0) (T 3) (T 4) (T 5) (T 6) (T 7) h) (blockK 0 (seqK (fun T h => p9_11 cf lf (T 0) (T 3) (T 4) (T 5) h) (finK E [.tmp 2, .cell 3 29])))) = p9_20 cf lf F19 (T 0) (T 3) (T 4) (T 5) (T 6) (T 7) h := by simp only [k9_111, k9_112, k9_20, k9_21, execK_all, l9_112_ok, p9_22_ok]; delta p9_20; generalize l9_112 = G0; generalize p9_22 = G1; as_aux_lemma => kernel_rfl
def l9_19 (cf : CallF) (lf : Nat) : Nat → Value → Value → Value → Value → Value → Value → Heap → Ans
 | 0, _, _, _, _, _, _, _ => none
 | n + 1, s0, s3, s4, s5, s6, s7, h => p9_20 cf lf (l9_19 cf lf n) s0 s3 s4 s5 s6 s7 h
theorem l9_19_ok (cf : CallF) (lf : Nat) (n : Nat) : ∀ (T : Tmps) (h : Heap), iterK (fun T h K => execK E cf lf 293 k9_20 T h K) (blockK 0 (seqK (fun T h => p9_11 cf lf (T 0) (T 3) (T 4) (T 5) h) (finK E [.tmp 2, .cell 3 29]))) n T h = l9_19 cf lf n (T 0) (T 3) (T 4) (T 5) (T 6) (T 7) h := by
 induction n with
 | zero => intro T h; rfl
 | succ n ih =>
  intro T h
  rw [iterK_succ, show iterK (fun T h K => execK E cf lf 293 k9_20 T h K) (blockK 0 (seqK (fun T h => p9_11 cf lf (T 0) (T 3) (T 4) (T 5) h) (finK E [.tmp 2, .cell 3 29]))) n = (fun T h => l9_19 cf lf n (T 0) (T 3) (T 4) (T 5) (T 6) (T 7) h) from funext fun T => funext fun h => ih T h]
  exact p9_20_ok cf lf (l9_19 cf lf n) T h
def p9_0 (cf : CallF) (lf : Nat) (s0 : Value) (h : Heap) : Ans :=
 bindR (valR (allocA E 29 h)) (fun v h => some (.panic v, h)) fun t3 h =>
 bindO (lenA E 9 s0) fun t25 =>
 bindO (binA E 3 .gtr t25 (.int .i64 (4000))) fun t26 =>
 condV t26 (
  bindO (buildA E 29 [(0, (.int .i64 (3))), (1, (.int .i64 (4000)))]) fun t27 =>
  bindR (skipR (storeA E 29 t3 t27 h)) (fun v h => some (.panic v, h)) fun _ h =>
  bindO (loadA E 29 t3 h) fun tr3 =>
  some (.ret (.tuple ⟨[(.slice none 0 0), tr3]⟩), h)
 ) (
  l9_19 cf lf lf s0 t3 (.slice none 0 0) (.slice none 0 0) (.slice none 0 0) (.int .i64 (0)) h
 )
theorem p9_0_ok (cf : CallF) (lf : Nat) (T : Tmps) (h : Heap) : execK E cf lf 293 k9_0 T h (finK E [.tmp 2, .cell 3 29]) = p9_0 cf lf (T 0) h := by simp only [k9_0, k9_1, k9_10, k9_18, k9_19, k9_2, k9_3, k9_4, k9_5, k9_7, k9_8, k9_9, execK_all, l9_19_ok, p9_11_ok]; delta p9_0; generalize l9_19 = G0; generalize p9_11 = G1; as_aux_lemma => kernel_rfl
def f9 (cf : CallF) (lf : Nat) (a0 : Value) (h : Heap) : Ans := p9_0 cf lf a0 h
theorem f9_ok (cf : CallF) (lf : Nat) (a0 : Value) (h : Heap) : stepN E cf lf 9 [a0] h = f9 cf lf a0 h := (show stepN E cf lf 9 [a0] h = execK E cf lf 293 k9_0 (T0 [a0]) h (finK E [.tmp 2, .cell 3 29]) by kernel_rfl).trans ((p9_0_ok cf lf (T0 [a0]) h).trans (by kernel_rfl))
noncomputable def kc10 := codeOf Tryd.f10
def k10_12 := cp kc10 [1, 0, 1, 0, 0]
def k10_6 := cp kc10 [1, 0, 1, 0, 1]
def k10_5 : Code := .seq k10_12 k10_6
def k10_11 := cp kc10 [1, 0, 1, 1]
def k10_14 := cp kc10 [1, 1, 1, 0]
def k10_8 := cp kc10 [1, 1, 1, 1]
def k10_10 := cp kc10 [1, 0, 0]
def k10_4 : Code := .cond (.tmp 12) k10_5 k10_11
def k10_13 := cp kc10 [1, 1, 0]
def k10_7 : Code := .seq k10_14 k10_8
def k10_3 : Code := .seq k10_10 k10_4
def k10_2 : Code := .seq k10_13 k10_7
def k10_9 := cp kc10 [0]
def k10_1 : Code := .seq k10_3 k10_2
def k10_0 : Code := .seq k10_9 k10_1
def p10_7 (cf : CallF) (lf : Nat) (s0 : Value) (s3 : Value) (s5 : Value) (h : Heap) : Ans :=
 bindO (ifaceA E 71 s5) fun t21 =>
 bindR (cf 32 [s0, t21] h) (fun v h => some (.panic v, h)) fun t22 h =>
 bindO (gO (boolIs true t22) (loadA E 51 s5 h)) fun t24 =>
 bindO (gO (boolIs true t22) (nilA t24)) fun t25 =>
 bindO (gO (boolIs true t22) (fieldAddrA E 52 t25 0)) fun t26 =>
 bindO (gO (boolIs true t22) (loadA E 27 t26 h)) fun t27 =>
 bindO (gO (boolIs true t22) (fieldAddrA E 29 s3 0)) fun t28 =>
 bindO (gO (boolIs true t22) (loadA E 27 t28 h)) fun t29 =>
 bindO (gO (boolIs true t22) (binB E 27 .eql t27 t29)) fun t30 =>
 bindO (pickA t22 t30 (.bool false)) fun t31 =>
 bindO (gO (boolIs true t31) (loadA E 51 s5 h)) fun t33 =>
 bindO (gO (boolIs true t31) (nilA t33)) fun t34 =>
 bindO (gO (boolIs true t31) (fieldAddrA E 52 t34 1)) fun t35 =>
 bindO (gO (boolIs true t31) (loadA E 3 t35 h)) fun t36 =>
 bindO (gO (boolIs true t31) (fieldAddrA E 29 s3 1)) fun t37 =>
 bindO (gO (boolIs true t31) (loadA E 3 t37 h)) fun t38 =>
 bindO (gO (boolIs true t31) (binB E 3 .eql t36 t38)) fun t39 =>
 bindO (pickA t31 t39 (.bool false)) fun t40 =>
 bindO (gO (boolIs true t40) (some s0)) fun t42 =>
 bindO (gO (boolIs true t40) (fieldAddrA E 29 s3 0)) fun t43 =>
 bindO (gO (boolIs true t40) (loadA E 27 t43 h)) fun t44 =>
 bindO (gO (boolIs true t40) (ifaceA E 27 t44)) fun t45 =>
 bindR (gR (boolIs true t40) (cf 33 [t42, t45] h) h) (fun v h => some (.panic v, h)) fun t46 h =>
 bindO (pickA t40 t46 (.bool false)) fun t47 =>
 some (.ret t47, h)
theorem p10_7_ok (cf : CallF) (lf : Nat) (T : Tmps) (h : Heap) : execK E cf lf 48 k10_7 T h (finK E [.tmp 4]) = p10_7 cf lf (T 0) (T 3) (T 5) h := by kernel_rfl
def p10_0 (cf : CallF) (lf : Nat) (s0 : Value) (s1 : Value) (h : Heap) : Ans :=
 bindR (valR (some (boxA 29 s1 h))) (fun v h => some (.panic v, h)) fun t3 h =>
 bindO (binA E 24 .eql s0 (.nilIface)) fun t7 =>
 bindO (gO (boolIs false t7) (fieldAddrA E 29 t3 0)) fun t9 =>
 bindO (gO (boolIs false t7) (loadA E 27 t9 h)) fun t10 =>
 bindO (gO (boolIs false t7) (binA E 27 .eql t10 (.int .i64 (0)))) fun t11 =>
 bindO (pickA t7 (.bool true) t11) fun t12 =>
 condV t12 (
  bindO (binA E 24 .eql s0 (.nilIface)) fun t14 =>
  bindO (gO (boolIs true t14) (fieldAddrA E 29 t3 0)) fun t16 =>
  bindO (gO (boolIs true t14) (loadA E 27 t16 h)) fun t17 =>
  bindO (gO (boolIs true t14) (binA E 27 .eql t17 (.int .i64 (0)))) fun t18 =>
  bindO (pickA t14 t18 (.bool false)) fun t19 =>
  some (.ret t19, h)
 ) (
  bindR (valR (allocA E 51 h)) (fun v h => some (.panic v, h)) fun t5 h =>
  p10_7 cf lf s0 t3 t5 h
 )
theorem p10_0_ok (cf : CallF) (lf : Nat) (T : Tmps) (h : Heap) : execK E cf lf 48 k10_0 T h (finK E [.tmp 4]) = p10_0 cf lf (T 0) (T 1) h := by simp only [k10_0, k10_1, k10_2, k10_3, k10_4, k10_5, execK_all, p10_7_ok]; delta p10_0; generalize p10_7 = G0; as_aux_lemma => kernel_rfl
def f10 (cf : CallF) (lf : Nat) (a0 : Value) (a1 : Value) (h : Heap) : Ans := p10_0 cf lf a0 a1 h
theorem f10_ok (cf : CallF) (lf : Nat) (a0 a1 : Value) (h : Heap) : stepN E cf lf 10 [a0, a1] h = f10 cf lf a0 a1 h := (show stepN E cf lf 10 [a0, a1] h = execK E cf lf 48 k10_0 (T0 [a0, a1]) h (finK E [.tmp 4]) by kernel_rfl).trans ((p10_0_ok cf lf (T0 [a0, a1]) h).trans (by kernel_rfl))
noncomputable def kc11 := codeOf Tryd.f11
def k11_32 := cp kc11 [1, 1, 0, 1, 0, 0, 1, 0, 0, 1, 0, 0]
def k11_21 := cp kc11 [1, 1, 0, 1, 0, 0, 1, 0, 0, 1, 0, 1]
def k11_20 : Code := .seq k11_32 k11_21
def k11_31 := cp kc11 [1, 1, 0, 1, 0, 0, 1, 0, 0, 1, 1]
def k11_30 := cp kc11 [1, 1, 0, 1, 0, 0, 1, 0, 0, 0]
def k11_19 : Code := .cond (.tmp 80) k11_20 k11_31
def k11_28 := cp kc11 [1, 1, 0, 1, 0, 0, 0, 1, 0]
def k11_29 := cp kc11 [1, 1, 0, 1, 0, 0, 0, 1, 1]
def k11_18 : Code := .seq k11_30 k11_19
def k11_27 := cp kc11 [1, 1, 0, 1, 0, 0, 0, 0]
def k11_15 : Code := .cond (.tmp 14) k11_28 k11_29
def k11_17 : Code := .block 1 k11_18
def k11_16 := cp kc11 [1, 1, 0, 1, 0, 0, 1, 1]
def k11_14 : Code := .seq k11_27 k11_15
def k11_13 : Code := .seq k11_17 k11_16
def k11_12 : Code := .seq k11_14 k11_13
def k11_25 := cp kc11 [1, 0, 1, 0, 0]
def k11_6 := cp kc11 [1, 0, 1, 0, 1]
def k11_11 : Code := .loop k11_12
def k11_5 : Code := .seq k11_25 k11_6
def k11_24 := cp kc11 [1, 0, 1, 1]
def k11_26 := cp kc11 [1, 1, 0, 0]
def k11_10 : Code := .block 0 k11_11
def k11_33 := cp kc11 [1, 1, 1, 0]
def k11_8 := cp kc11 [1, 1, 1, 1]
def k11_23 := cp kc11 [1, 0, 0]
def k11_4 : Code := .cond (.tmp 10) k11_5 k11_24
def k11_9 : Code := .seq k11_26 k11_10
def k11_7 : Code := .seq k11_33 k11_8
def k11_3 : Code := .seq k11_23 k11_4
def k11_2 : Code := .seq k11_9 k11_7
def k11_22 := cp kc11 [0]
def k11_1 : Code := .seq k11_3 k11_2
def k11_0 : Code := .seq k11_22 k11_1
def p11_7 (cf : CallF) (lf : Nat) (h : Heap) : Ans :=
 some (.ret (.bool true), h)
theorem p11_7_ok (cf : CallF) (lf : Nat) (T : Tmps) (h : Heap) : execK E cf lf 81 k11_7 T h (finK E [.tmp 4]) = p11_7 cf lf h := by kernel_rfl
def p11_16 (cf : CallF) (lf : Nat) (F11 : Value → Value → Value → Heap → Ans) (s0 : Value) (s1 : Value) (s5 : Value) (h : Heap) : Ans :=
 bindO (binA E 3 .add s5 (.int .i64 (1))) fun t16 =>
 F11 s0 s1 t16 h
theorem p11_16_ok (cf : CallF) (lf : Nat) (F11 : Value → Value → Value → Heap → Ans) (T : Tmps) (h : Heap) : execK E cf lf 81 k11_16 T h (seqK (fun T h => F11 (T 0) (T 1) (T 5) h) (blockK 0 (seqK (fun T h => p11_7 cf lf h) (finK E [.tmp 4])))) = p11_16 cf lf F11 (T 0) (T 1) (T 5) h := by kernel_rfl
def p11_19 (cf : CallF) (lf : Nat) (F11 : Value → Value → Value → Heap → Ans) (s0 : Value) (s1 : Value) (s5 : Value) (s80 : Value) (h : Heap) : Ans :=
 condV s80 (
  some (.ret (.bool false), h)
 ) (
  p11_16 cf lf F11 s0 s1 s5 h
 )
theorem p11_19_ok (cf : CallF) (lf : Nat) (F11 : Value → Value → Value → Heap → Ans) (T : Tmps) (h : Heap) : execK E cf lf 81 k11_19 T h (blockK 1 (seqK (fun T h => p11_16 cf lf F11 (T 0) (T 1) (T 5) h) (seqK (fun T h => F11 (T 0) (T 1) (T 5) h) (blockK 0 (seqK (fun T h => p11_7 cf lf h) (finK E [.tmp 4])))))) = p11_19 cf lf F11 (T 0) (T 1) (T 5) (T 80) h := by kernel_rfl
def p11_12 (cf : CallF) (lf : Nat) (F11 : Value → Value → Value → Heap → Ans) (s0 : Value) (s1 : Value) (s5 : Value) (h : Heap) : Ans :=
 bindO (lenA E 22 s0) fun t13 =>
 bindO (binB E 3 .lss s5 t13) fun t14 =>
 condV t14 (
  bindO (indexAddrA E 22 s0 s5) fun t19 =>
  bindO (fieldAddrA E 39 t19 0) fun t20 =>
  bindO (loadA E 3 t20 h) fun t21 =>
  bindO (indexAddrA E 22 s1 s5) fun t24 =>
  bindO (fieldAddrA E 39 t24 0) fun t25 =>
  bindO (loadA E 3 t25 h) fun t26 =>
  bindO (binB E 3 .neq t21 t26) fun t27 =>
  bindO (gO (boolIs false t27) (some s0)) fun t29 =>
  bindO (gO (boolIs false t27) (some s5)) fun t30 =>
  bindO (gO (boolIs false t27) (indexAddrA E 22 t29 t30)) fun t31 =>
  bindO (gO (boolIs false t27) (fieldAddrA E 39 t31 1)) fun t32 =>
  bindO (gO (boolIs false t27) (loadA E 9 t32 h)) fun t33 =>
  bindO (gO (boolIs false t27) (some s1)) fun t34 =>
  bindO (gO (boolIs false t27) (some s5)) fun t35 =>
  bindO (gO (boolIs false t27) (indexAddrA E 22 t34 t35)) fun t36 =>
  bindO (gO (boolIs false t27) (fieldAddrA E 39 t36 1)) fun t37 =>
  bindO (gO (boolIs false t27) (loadA E 9 t37 h)) fun t38 =>
  bindO (gO (boolIs false t27) (binB E 9 .neq t33 t38)) fun t39 =>
  bindO (pickA t27 (.bool true) t39) fun t40 =>
  bindO (gO (boolIs false t40) (some s0)) fun t42 =>
  bindO (gO (boolIs false t40) (some s5)) fun t43 =>
  bindO (gO (boolIs false t40) (indexAddrA E 22 t42 t43)) fun t44 =>
  bindO (gO (boolIs false t40) (fieldAddrA E 39 t44 3)) fun t45 =>
  bindO (gO (boolIs false t40) (loadA E 4 t45 h)) fun t46 =>
  bindO (gO (boolIs false t40) (some s1)) fun t47 =>
  bindO (gO (boolIs false t40) (some s5)) fun t48 =>
  bindO (gO (boolIs false t40) (indexAddrA E 22 t47 t48)) fun t49 =>
  bindO (gO (boolIs false t40) (fieldAddrA E 39 t49 3)) fun t50 =>
  bindO (gO (boolIs false t40) (loadA E 4 t50 h)) fun t51 =>
  bindO (gO (boolIs false t40) (binB E 4 .neq t46 t51)) fun t52 =>
  bindO (pickA t40 (.bool true) t52) fun t53 =>
  bindO (gO (boolIs false t53) (some s0)) fun t55 =>
  bindO (gO (boolIs false t53) (some s5)) fun t56 =>
  bindO (gO (boolIs false t53) (indexAddrA E 22 t55 t56)) fun t57 =>
  bindO (gO (boolIs false t53) (fieldAddrA E 39 t57 4)) fun t58 =>
  bindO (gO (boolIs false t53) (loadA E 3 t58 h)) fun t59 =>
  bindO (gO (boolIs false t53) (some s1)) fun t60 =>
  bindO (gO (boolIs false t53) (some s5)) fun t61 =>
  bindO (gO (boolIs false t53) (indexAddrA E 22 t60 t61)) fun t62 =>
  bindO (gO (boolIs false t53) (fieldAddrA E 39 t62 4)) fun t63 =>
  bindO (gO (boolIs false t53) (loadA E 3 t63 h)) fun t64 =>
  bindO (gO (boolIs false t53) (binB E 3 .neq t59 t64)) fun t65 =>
  bindO (pickA t53 (.bool true) t65) fun t66 =>
  bindO (gO (boolIs false t66) (some s0)) fun t68 =>
  bindO (gO (boolIs false t66) (some s5)) fun t69 =>
  bindO (gO (boolIs false t66) (indexAddrA E 22 t68 t69)) fun t70 =>
  bindO (gO (boolIs false t66) (fieldAddrA E 39 t70 2)) fun t71 =>
  bindO (gO (boolIs false t66) (loadA E 37 t71 h)) fun t72 =>
  bindO (gO (boolIs false t66) (some s1)) fun t73 =>
  bindO (gO (boolIs false t66) (some s5)) fun t74 =>
  bindO (gO (boolIs false t66) (indexAddrA E 22 t73 t74)) fun t75 =>
  bindO (gO (boolIs false t66) (fieldAddrA E 39 t75 2)) fun t76 =>
  bindO (gO (boolIs false t66) (loadA E 37 t76 h)) fun t77 =>
  bindR (gR (boolIs false t66) (cf 34 [t72, t77] h) h) (fun v h => some (.panic v, h)) fun t78 h =>
  bindO (gO (boolIs false t66) (unA .not t78)) fun t79 =>
  bindO (pickA t66 (.bool true) t79) fun t80 =>
  p11_19 cf lf F11 s0 s1 s5 t80 h
 ) (
  p11_7 cf lf h
 )
theorem p11_12_ok (cf : CallF) (lf : Nat) (F11 : Value → Value → Value → Heap → Ans) (T : Tmps) (h : Heap) : execK E cf lf 81 k11_12 T h (seqK (fun T h => F11 (T 0) (T 1) (T 5) h) (blockK 0 (seqK (fun T h => p11_7 cf lf h) (finK E [.tmp 4])))) = p11_12 cf lf F11 (T 0) (T 1) (T 5) h := by simp only [k11_12, k11_13, k11_14, k11_15, k11_17, k11_18, execK_all, p11_16_ok, p11_19_ok]; delta p11_12; generalize p11_16 = G0; generalize p11_19 = G1; as_aux_lemma => kernel_rfl
def l11_11 (cf : CallF) (lf : Nat) : Nat → Value → Value → Value → Heap → Ans
 | 0, _, _, _, _ => none
 | n + 1, s0, s1, s5, h => p11_12 cf lf (l11_11 cf lf n) s0 s1 s5 h
theorem l11_11_ok (cf : CallF) (lf : Nat) (n : Nat) : ∀ (T : Tmps) (h : Heap), iterK (fun T h K => execK E cf lf 81 k11_12 T h K) (blockK 0 (seqK (fun T h => p11_7 cf lf h) (finK E [.tmp 4]))) n T h = l11_11 cf lf n (T 0) (T 1) (T 5) h := by
 induction n with
 | zero => intro T h; rfl
 | succ n ih =>
  intro T h
  rw [iterK_succ, show iterK (fun T h K => execK E cf lf 81 k11_12 T h K) (blockK 0 (seqK (fun T h => p11_7 cf lf h) (finK E [.tmp 4]))) n = (fun T h => l11_11 cf lf n (T 0) (T 1) (T 5) h) from funext fun T => funext fun h => ih T h]
  exact p11_12_ok cf lf (l11_11 cf lf n) T h
def p11_10 (cf : CallF) (lf : Nat) (s0 : Value) (s1 : Value) (s5 : Value) (h : Heap) : Ans :=
 l11_11 cf lf lf s0 s1 s5 h
theorem p11_10_ok (cf : CallF) (lf : Nat) (T : Tmps) (h : Heap) : execK E cf lf 81 k11_10 T h (seqK (fun T h => p11_7 cf lf h) (finK E [.tmp 4])) = p11_10 cf lf (T 0) (T 1) (T 5) h := by simp only [k11_10, k11_11, execK_all, l11_11_ok]; delta p11_10; generalize l11_11 = G0; as_aux_lemma => kernel_rfl
def p11_0 (cf : CallF) (lf : Nat) (s0 : Value) (s1 : Value) (h : Heap) : Ans :=
 bindO (lenA E 22 s0) fun t7 =>
 bindO (lenA E 22 s1) fun t9 =>
 bindO (binB E 3 .neq t7 t9) fun t10 =>
 condV t10 (
  some (.ret (.bool false), h)
 ) (
  p11_10 cf lf s0 s1 (.int .i64 (0)) h
 )
theorem p11_0_ok (cf : CallF) (lf : Nat) (T : Tmps) (h : Heap) : execK E cf lf 81 k11_0 T h (finK E [.tmp 4]) = p11_0 cf lf (T 0) (T 1) h := by simp only [k11_0, k11_1, k11_2, k11_3, k11_4, k11_5, k11_9, execK_all, p11_10_ok, p11_7_ok]; delta p11_0; generalize p11_10 = G0; generalize p11_7 = G1; as_aux_lemma => kernel_rfl
def f11 (cf : CallF) (lf : Nat) (a0 : Value) (a1 : Value) (h : Heap) : Ans := p11_0 cf lf a0 a1 h
theorem f11_ok (cf : CallF) (lf : Nat) (a0 a1 : Value) (h : Heap) : stepN E cf lf 11 [a0, a1] h = f11 cf lf a0 a1 h := (show stepN E cf lf 11 [a0, a1] h = execK E cf lf 81 k11_0 (T0 [a0, a1]) h (finK E [.tmp 4]) by kernel_rfl).trans ((p11_0_ok cf lf (T0 [a0, a1]) h).trans (by kernel_rfl))
def f12 (cf : CallF) (lf : Nat) (h : Heap) : Ans :=
 bindR (cf 14 [(.string (mkS [101, 99, 104, 111, 32, 97, 39, 98, 32, 99, 39, 34, 100, 36, 120, 34, 32, 50, 62, 102]))] h) (fun v h => some (.panic v, h)) fun t1 h =>
 bindO (binA E 9 .eql t1 (.string (mkS [91, 101, 99, 104, 111, 93, 91, 97, 46, 113, 98, 32, 99, 46, 113, 81, 100, 46, 36, 81, 120, 93, 32, 50, 62, 32, 91, 102, 93]))) fun t2 =>
 bindR (gR (boolIs true t2) (cf 14 [(.string (mkS [97, 59, 98, 38, 38, 99, 32, 35, 32, 120, 10]))] h) h) (fun v h => some (.panic v, h)) fun t4 h =>
 bindO (gO (boolIs true t2) (binA E 9 .eql t4 (.string (mkS [91, 97, 93, 32, 59, 32, 91, 98, 93, 32, 38, 38, 32, 91, 99, 93, 47])))) fun t5 =>
 bindO (pickA t2 t5 (.bool false)) fun t6 =>
 bindR (gR (boolIs true t6) (cf 14 [(.string (mkS [36, 123, 120, 58, 45, 97, 32, 98, 125, 34, 36, 123, 35, 121, 125, 34, 32, 36, 40, 102, 32, 39, 41, 39, 32, 41]))] h) h) (fun v h => some (.panic v, h)) fun t8 h =>
 bindO (gO (boolIs true t6) (binA E 9 .eql t8 (.string (mkS [91, 36, 120, 58, 45, 60, 97, 32, 98, 62, 46, 36, 81, 121, 108, 101, 110, 93, 91, 40, 102, 32, 39, 41, 39, 32, 93])))) fun t9 =>
 bindO (pickA t6 t9 (.bool false)) fun t10 =>
 bindR (gR (boolIs true t10) (cf 14 [(.string (mkS [99, 97, 116, 32, 60, 60, 69, 59, 120, 10, 104, 105, 32, 36, 121, 10, 69, 10]))] h) h) (fun v h => some (.panic v, h)) fun t12 h =>
 bindO (gO (boolIs true t10) (binA E 9 .eql t12 (.string (mkS [91, 99, 97, 116, 93, 32, 60, 60, 32, 91, 69, 93, 123, 104, 105, 32, 36, 121, 10, 58, 113, 81, 104, 105, 32, 46, 36, 81, 121, 46, 113, 81, 10, 125, 32, 59, 32, 91, 120, 93, 47])))) fun t13 =>
 bindO (pickA t10 t13 (.bool false)) fun t14 =>
 bindR (gR (boolIs true t14) (cf 15 [(.string (mkS [39, 97])), (.int .i64 (19)), (.int .i64 (0))] h) h) (fun v h => some (.panic v, h)) fun t16 h =>
 bindO (pickA t14 t16 (.bool false)) fun t17 =>
 bindR (gR (boolIs true t17) (cf 15 [(.string (mkS [97, 32, 38])), (.int .i64 (19)), (.int .i64 (2))] h) h) (fun v h => some (.panic v, h)) fun t19 h =>
 bindO (pickA t17 t19 (.bool false)) fun t20 =>
 bindR (gR (boolIs true t20) (cf 15 [(.string (mkS [34, 36, 123, 120, 34])), (.int .i64 (19)), (.int .i64 (1))] h) h) (fun v h => some (.panic v, h)) fun t22 h =>
 bindO (pickA t20 t22 (.bool false)) fun t23 =>
 bindR (gR (boolIs true t23) (cf 15 [(.string (mkS [96])), (.int .i64 (19)), (.int .i64 (0))] h) h) (fun v h => some (.panic v, h)) fun t25 h =>
 bindO (pickA t23 t25 (.bool false)) fun t26 =>
 some (.ret t26, h)
theorem f12_ok (cf : CallF) (lf : Nat) (h : Heap) : stepN E cf lf 12 [] h = f12 cf lf  h := by kernel_rfl
def f13 (cf : CallF) (lf : Nat) (a0 : Value) (a1 : Value) (h : Heap) : Ans :=
 bindR (cf 35 [a0, a1] h) (fun v h => some (.panic v, h)) fun t7 h =>
 some (.ret t7, h)
theorem f13_ok (cf : CallF) (lf : Nat) (a0 a1 : Value) (h : Heap) : stepN E cf lf 13 [a0, a1] h = f13 cf lf a0 a1 h := by kernel_rfl
noncomputable def kc14 := codeOf Tryd.f14
def k14_52 := cp kc14 [1, 1, 1, 1, 0, 1, 0, 0, 1, 0, 0, 1, 0, 1, 1, 1, 1, 1, 0, 1, 0, 1, 0]
def k14_53 := cp kc14 [1, 1, 1, 1, 0, 1, 0, 0, 1, 0, 0, 1, 0, 1, 1, 1, 1, 1, 0, 1, 0, 1, 1]
def k14_51 := cp kc14 [1, 1, 1, 1, 0, 1, 0, 0, 1, 0, 0, 1, 0, 1, 1, 1, 1, 1, 0, 1, 0, 0]
def k14_32 : Code := .cond (.tmp 65) k14_52 k14_53
def k14_31 : Code := .seq k14_51 k14_32
def k14_30 := cp kc14 [1, 1, 1, 1, 0, 1, 0, 0, 1, 0, 0, 1, 0, 1, 1, 1, 1, 1, 0, 1, 1]
def k14_50 := cp kc14 [1, 1, 1, 1, 0, 1, 0, 0, 1, 0, 0, 1, 0, 1, 1, 1, 1, 1, 0, 0]
def k14_29 : Code := .seq k14_31 k14_30
def k14_28 : Code := .seq k14_50 k14_29
def k14_49 := cp kc14 [1, 1, 1, 1, 0, 1, 0, 0, 1, 0, 0, 1, 0, 1, 1, 1, 1, 1, 1]
def k14_48 := cp kc14 [1, 1, 1, 1, 0, 1, 0, 0, 1, 0, 0, 1, 0, 1, 1, 1, 1, 0]
def k14_27 : Code := .cond (.tmp 50) k14_28 k14_49
def k14_47 := cp kc14 [1, 1, 1, 1, 0, 1, 0, 0, 1, 0, 0, 1, 0, 1, 1, 1, 0]
def k14_26 : Code := .seq k14_48 k14_27
def k14_46 := cp kc14 [1, 1, 1, 1, 0, 1, 0, 0, 1, 0, 0, 1, 0, 1, 1, 0]
def k14_25 : Code := .cond (.tmp 46) k14_47 k14_26
def k14_45 := cp kc14 [1, 1, 1, 1, 0, 1, 0, 0, 1, 0, 0, 1, 0, 1, 0]
def k14_24 : Code := .seq k14_46 k14_25
def k14_44 := cp kc14 [1, 1, 1, 1, 0, 1, 0, 0, 1, 0, 0, 1, 0, 0]
def k14_23 : Code := .cond (.tmp 34) k14_45 k14_24
def k14_22 : Code := .seq k14_44 k14_23
def k14_43 := cp kc14 [1, 1, 1, 1, 0, 1, 0, 0, 1, 0, 0, 0]
def k14_21 : Code := .block 2 k14_22
def k14_41 := cp kc14 [1, 1, 1, 1, 0, 1, 0, 0, 0, 1, 0]
def k14_42 := cp kc14 [1, 1, 1, 1, 0, 1, 0, 0, 0, 1, 1]
def k14_20 : Code := .seq k14_43 k14_21
def k14_40 := cp kc14 [1, 1, 1, 1, 0, 1, 0, 0, 0, 0]
def k14_17 : Code := .cond (.tmp 17) k14_41 k14_42
def k14_19 : Code := .block 1 k14_20
def k14_18 := cp kc14 [1, 1, 1, 1, 0, 1, 0, 0, 1, 1]
def k14_16 : Code := .seq k14_40 k14_17
def k14_15 : Code := .seq k14_19 k14_18
def k14_14 : Code := .seq k14_16 k14_15
def k14_13 : Code := .loop k14_14
def k14_37 := cp kc14 [1, 1, 0, 1, 0, 0]
def k14_7 := cp kc14 [1, 1, 0, 1, 0, 1]
def k14_39 := cp kc14 [1, 1, 1, 1, 0, 0]
def k14_12 : Code := .block 0 k14_13
def k14_54 := cp kc14 [1, 1, 1, 1, 1, 0]
def k14_10 := cp kc14 [1, 1, 1, 1, 1, 1]
def k14_6 : Code := .seq k14_37 k14_7
def k14_36 := cp kc14 [1, 1, 0, 1, 1]
def k14_11 : Code := .seq k14_39 k14_12
def k14_9 : Code := .seq k14_54 k14_10
def k14_35 := cp kc14 [1, 1, 0, 0]
def k14_5 : Code := .cond (.tmp 13) k14_6 k14_36
def k14_38 := cp kc14 [1, 1, 1, 0]
def k14_8 : Code := .seq k14_11 k14_9
def k14_4 : Code := .seq k14_35 k14_5
def k14_3 : Code := .seq k14_38 k14_8
def k14_34 := cp kc14 [1, 0]
def k14_2 : Code := .seq k14_4 k14_3
def k14_33 := cp kc14 [0]
def k14_1 : Code := .seq k14_34 k14_2
def k14_0 : Code := .seq k14_33 k14_1
def p14_9 (cf : CallF) (lf : Nat) (s5 : Value) (h : Heap) : Ans :=
 some (.ret s5, h)
theorem p14_9_ok (cf : CallF) (lf : Nat) (T : Tmps) (h : Heap) : execK E cf lf 78 k14_9 T h (finK E [.tmp 2]) = p14_9 cf lf (T 5) h := by kernel_rfl
def p14_18 (cf : CallF) (lf : Nat) (F13 : Value → Value → Value → Heap → Ans) (s3 : Value) (s5 : Value) (s6 : Value) (h : Heap) : Ans :=
 bindO (binA E 3 .add s6 (.int .i64 (1))) fun t19 =>
 F13 s3 s5 t19 h
theorem p14_18_ok (cf : CallF) (lf : Nat) (F13 : Value → Value → Value → Heap → Ans) (T : Tmps) (h : Heap) : execK E cf lf 78 k14_18 T h (seqK (fun T h => F13 (T 3) (T 5) (T 6) h) (blockK 0 (seqK (fun T h => p14_9 cf lf (T 5) h) (finK E [.tmp 2])))) = p14_18 cf lf F13 (T 3) (T 5) (T 6) h := by kernel_rfl
def p14_30 (cf : CallF) (lf : Nat) (F13 : Value → Value → Value → Heap → Ans) (s3 : Value) (s5 : Value) (s6 : Value) (h : Heap) : Ans :=
 bindO (binA E 9 .add s5 (.string (mkS [125]))) fun t76 =>
 p14_18 cf lf F13 s3 t76 s6 h
theorem p14_30_ok (cf : CallF) (lf : Nat) (F13 : Value → Value → Value → Heap → Ans) (T : Tmps) (h : Heap) : execK E cf lf 78 k14_30 T h (blockK 2 (blockK 1 (seqK (fun T h => p14_18 cf lf F13 (T 3) (T 5) (T 6) h) (seqK (fun T h => F13 (T 3) (T 5) (T 6) h) (blockK 0 (seqK (fun T h => p14_9 cf lf (T 5) h) (finK E [.tmp 2]))))))) = p14_30 cf lf F13 (T 3) (T 5) (T 6) h := by kernel_rfl
def p14_32 (cf : CallF) (lf : Nat) (F13 : Value → Value → Value → Heap → Ans) (s3 : Value) (s5 : Value) (s6 : Value) (s65 : Value) (h : Heap) : Ans :=
 condV s65 (
  bindO (binA E 9 .add s5 (.string (mkS [58]))) fun t67 =>
  bindO (indexAddrA E 22 s3 s6) fun t70 =>
  bindO (fieldAddrA E 39 t70 2) fun t71 =>
  bindO (loadA E 37 t71 h) fun t72 =>
  bindR (cf 36 [t72] h) (fun v h => some (.panic v, h)) fun t73 h =>
  bindO (binB E 9 .add t67 t73) fun t74 =>
  p14_30 cf lf F13 s3 t74 s6 h
 ) (
  p14_30 cf lf F13 s3 s5 s6 h
 )
theorem p14_32_ok (cf : CallF) (lf : Nat) (F13 : Value → Value → Value → Heap → Ans) (T : Tmps) (h : Heap) : execK E cf lf 78 k14_32 T h (seqK (fun T h => p14_30 cf lf F13 (T 3) (T 5) (T 6) h) (blockK 2 (blockK 1 (seqK (fun T h => p14_18 cf lf F13 (T 3) (T 5) (T 6) h) (seqK (fun T h => F13 (T 3) (T 5) (T 6) h) (blockK 0 (seqK (fun T h => p14_9 cf lf (T 5) h) (finK E [.tmp 2])))))))) = p14_32 cf lf F13 (T 3) (T 5) (T 6) (T 65) h := by kernel_rfl
def p14_21 (cf : CallF) (lf : Nat) (F13 : Value → Value → Value → Heap → Ans) (s3 : Value) (s5 : Value) (s6 : Value) (s24 : Value) (h : Heap) : Ans :=
 bindO (binA E 3 .eql s24 (.int .i64 (0))) fun t35 =>
 condV t35 (
  bindO (binA E 9 .add s5 (.string (mkS [91]))) fun t37 =>
  bindO (indexAddrA E 22 s3 s6) fun t40 =>
  bindO (fieldAddrA E 39 t40 2) fun t41 =>
  bindO (loadA E 37 t41 h) fun t42 =>
  bindR (cf 36 [t42] h) (fun v h => some (.panic v, h)) fun t43 h =>
  bindO (binB E 9 .add t37 t43) fun t44 =>
  bindO (binA E 9 .add t44 (.string (mkS [93]))) fun t45 =>
  p14_18 cf lf F13 s3 t45 s6 h
 ) (
  bindO (binA E 3 .eql s24 (.int .i64 (2))) fun t47 =>
  condV t47 (
   bindO (binA E 9 .add s5 (.string (mkS [47]))) fun t49 =>
   p14_18 cf lf F13 s3 t49 s6 h
  ) (
   bindO (binA E 3 .eql s24 (.int .i64 (3))) fun t51 =>
   condV t51 (
    bindO (binA E 9 .add s5 (.string (mkS [123]))) fun t53 =>
    bindO (indexAddrA E 22 s3 s6) fun t56 =>
    bindO (fieldAddrA E 39 t56 1) fun t57 =>
    bindO (loadA E 9 t57 h) fun t58 =>
    bindO (binB E 9 .add t53 t58) fun t59 =>
    bindO (indexAddrA E 22 s3 s6) fun t62 =>
    bindO (fieldAddrA E 39 t62 3) fun t63 =>
    bindO (loadA E 4 t63 h) fun t64 =>
    bindO (unA .not t64) fun t65 =>
    p14_32 cf lf F13 s3 t59 s6 t65 h
   ) (
    bindO (binA E 9 .add s5 (.string (mkS [32]))) fun t26 =>
    bindO (indexAddrA E 22 s3 s6) fun t29 =>
    bindO (fieldAddrA E 39 t29 1) fun t30 =>
    bindO (loadA E 9 t30 h) fun t31 =>
    bindO (binB E 9 .add t26 t31) fun t32 =>
    bindO (binA E 9 .add t32 (.string (mkS [32]))) fun t33 =>
    p14_18 cf lf F13 s3 t33 s6 h
   )
  )
 )
theorem p14_21_ok (cf : CallF) (lf : Nat) (F13 : Value → Value → Value → Heap → Ans) (T : Tmps) (h : Heap) : execK E cf lf 78 k14_21 T h (blockK 1 (seqK (fun T h => p14_18 cf lf F13 (T 3) (T 5) (T 6) h) (seqK (fun T h => F13 (T 3) (T 5) (T 6) h) (blockK 0 (seqK (fun T h => p14_9 cf lf (T 5) h) (finK E [.tmp 2])))))) = p14_21 cf lf F13 (T 3) (T 5) (T 6) (T 24) h := by simp only [k14_21, k14_22, k14_23, k14_24, k14_25, k14_26, k14_27, k14_28, k14_29, k14_31, execK_all, p14_30_ok, p14_32_ok]; delta p14_21; generalize p14_30 = G0; generalize p14_32 = G1; as_aux_lemma => kernel_rfl
def p14_14 (cf : CallF) (lf : Nat) (F13 : Value → Value → Value → Heap → Ans) (s3 : Value) (s5 : Value) (s6 : Value) (h : Heap) : Ans :=
 bindO (lenA E 22 s3) fun t16 =>
 bindO (binB E 3 .lss s6 t16) fun t17 =>
 condV t17 (
  bindO (indexAddrA E 22 s3 s6) fun t22 =>
  bindO (fieldAddrA E 39 t22 0) fun t23 =>
  bindO (loadA E 3 t23 h) fun t24 =>
  p14_21 cf lf F13 s3 s5 s6 t24 h
 ) (
  p14_9 cf lf s5 h
 )
theorem p14_14_ok (cf : CallF) (lf : Nat) (F13 : Value → Value → Value → Heap → Ans) (T : Tmps) (h : Heap) : execK E cf lf 78 k14_14 T h (seqK (fun T h => F13 (T 3) (T 5) (T 6) h) (blockK 0 (seqK (fun T h => p14_9 cf lf (T 5) h) (finK E [.tmp 2])))) = p14_14 cf lf F13 (T 3) (T 5) (T 6) h := by simp only [k14_14, k14_15, k14_16, k14_17, k14_19, k14_20, execK_all, p14_18_ok, p14_21_ok]; delta p14_14; generalize p14_18 = G0; generalize p14_21 = G1; as_aux_lemma => kernel_rfl
def l14_13 (cf : CallF) (lf : Nat) : Nat → Value → Value → Value → Heap → Ans
 | 0, _, _, _, _ => none
 | n + 1, s3, s5, s6, h => p14_14 cf lf (l14_13 cf lf n) s3 s5 s6 h
theorem l14_13_ok (cf : CallF) (lf : Nat) (n : Nat) : ∀ (T : Tmps) (h : Heap), iterK (fun T h K => execK E cf lf 78 k14_14 T h K) (blockK 0 (seqK (fun T h => p14_9 cf lf (T 5) h) (finK E [.tmp 2]))) n T h = l14_13 cf lf n (T 3) (T 5) (T 6) h := by
 induction n with
 | zero => intro T h; rfl
 | succ n ih =>
  intro T h
  rw [iterK_succ, show iterK (fun T h K => execK E cf lf 78 k14_14 T h K) (blockK 0 (seqK (fun T h => p14_9 cf lf (T 5) h) (finK E [.tmp 2]))) n = (fun T h => l14_13 cf lf n (T 3) (T 5) (T 6) h) from funext fun T => funext fun h => ih T h]
  exact p14_14_ok cf lf (l14_13 cf lf n) T h
def p14_12 (cf : CallF) (lf : Nat) (s3 : Value) (s5 : Value) (s6 : Value) (h : Heap) : Ans :=
 l14_13 cf lf lf s3 s5 s6 h
theorem p14_12_ok (cf : CallF) (lf : Nat) (T : Tmps) (h : Heap) : execK E cf lf 78 k14_12 T h (seqK (fun T h => p14_9 cf lf (T 5) h) (finK E [.tmp 2])) = p14_12 cf lf (T 3) (T 5) (T 6) h := by simp only [k14_12, k14_13, execK_all, l14_13_ok]; delta p14_12; generalize l14_13 = G0; as_aux_lemma => kernel_rfl
def p14_0 (cf : CallF) (lf : Nat) (s0 : Value) (h : Heap) : Ans :=
 bindR (cf 8 [s0] h) (fun v h => some (.panic v, h)) fun t9 h =>
 bindO (extractA t9 0) fun t10 =>
 bindO (extractA t9 1) fun t11 =>
 bindO (binA E 24 .neq t11 (.nilIface)) fun t13 =>
 condV t13 (
  some (.ret (.string (mkS [63])), h)
 ) (
  p14_12 cf lf t10 (.string (mkS [])) (.int .i64 (0)) h
 )
theorem p14_0_ok (cf : CallF) (lf : Nat) (T : Tmps) (h : Heap) : execK E cf lf 78 k14_0 T h (finK E [.tmp 2]) = p14_0 cf lf (T 0) h := by simp only [k14_0, k14_1, k14_11, k14_2, k14_3, k14_4, k14_5, k14_6, k14_8, execK_all, p14_12_ok, p14_9_ok]; delta p14_0; generalize p14_12 = G0; generalize p14_9 = G1; as_aux_lemma => kernel_rfl
def f14 (cf : CallF) (lf : Nat) (a0 : Value) (h : Heap) : Ans := p14_0 cf lf a0 h
theorem f14_ok (cf : CallF) (lf : Nat) (a0 : Value) (h : Heap) : stepN E cf lf 14 [a0] h = f14 cf lf a0 h := (show stepN E cf lf 14 [a0] h = execK E cf lf 78 k14_0 (T0 [a0]) h (finK E [.tmp 2]) by kernel_rfl).trans ((p14_0_ok cf lf (T0 [a0]) h).trans (by kernel_rfl))
def f15 (cf : CallF) (lf : Nat) (a0 : Value) (a1 : Value) (a2 : Value) (h : Heap) : Ans :=
 bindR (cf 8 [a0] h) (fun v h => some (.panic v, h)) fun t11 h =>
 bindO (extractA t11 0) fun t12 =>
 bindO (extractA t11 1) fun t13 =>
 bindO (lenA E 22 t12) fun t15 =>
 bindO (binA E 3 .eql t15 (.int .i64 (0))) fun t16 =>
 bindO (gO (boolIs true t16) (some t13)) fun t18 =>
 bindO (gO (boolIs true t16) (some a1)) fun t19 =>
 bindO (gO (boolIs true t16) (some a2)) fun t20 =>
 bindO (gO (boolIs true t16) (buildA E 29 [(0, t19), (1, t20)])) fun t21 =>
 bindR (gR (boolIs true t16) (cf 10 [t18, t21] h) h) (fun v h => some (.panic v, h)) fun t22 h =>
 bindO (pickA t16 t22 (.bool false)) fun t23 =>
 some (.ret t23, h)
theorem f15_ok (cf : CallF) (lf : Nat) (a0 a1 a2 : Value) (h : Heap) : stepN E cf lf 15 [a0, a1, a2] h = f15 cf lf a0 a1 a2 h := by kernel_rfl
noncomputable def kc19 := codeOf Tryd.f19
def k19_33 := cp kc19 [1, 1, 1, 1, 0, 1, 0, 0, 1, 1, 0, 0, 0]
def k19_22 := cp kc19 [1, 1, 1, 1, 0, 1, 0, 0, 1, 1, 0, 0, 1]
def k19_21 : Code := .seq k19_33 k19_22
def k19_31 := cp kc19 [1, 1, 1, 1, 0, 1, 0, 0, 1, 0, 0]
def k19_32 := cp kc19 [1, 1, 1, 1, 0, 1, 0, 0, 1, 0, 1]
def k19_20 : Code := .block 1 k19_21
def k19_19 := cp kc19 [1, 1, 1, 1, 0, 1, 0, 0, 1, 1, 1]
def k19_18 : Code := .cond (.tmp 35) k19_31 k19_32
def k19_17 : Code := .seq k19_20 k19_19
def k19_30 := cp kc19 [1, 1, 1, 1, 0, 1, 0, 0, 0]
def k19_16 : Code := .seq k19_18 k19_17
def k19_15 : Code := .seq k19_30 k19_16
def k19_14 : Code := .loop k19_15
def k19_35 := cp kc19 [1, 1, 1, 1, 1, 1, 0]
def k19_11 := cp kc19 [1, 1, 1, 1, 1, 1, 1]
def k19_29 := cp kc19 [1, 1, 1, 1, 0, 0]
def k19_13 : Code := .block 0 k19_14
def k19_34 := cp kc19 [1, 1, 1, 1, 1, 0]
def k19_10 : Code := .seq k19_35 k19_11
def k19_26 := cp kc19 [1, 0, 1, 0, 0]
def k19_6 := cp kc19 [1, 0, 1, 0, 1]
def k19_12 : Code := .seq k19_29 k19_13
def k19_9 : Code := .seq k19_34 k19_10
def k19_5 : Code := .seq k19_26 k19_6
def k19_25 := cp kc19 [1, 0, 1, 1]
def k19_28 := cp kc19 [1, 1, 1, 0]
def k19_8 : Code := .seq k19_12 k19_9
def k19_24 := cp kc19 [1, 0, 0]
def k19_4 : Code := .cond (.tmp 7) k19_5 k19_25
def k19_27 := cp kc19 [1, 1, 0]
def k19_7 : Code := .seq k19_28 k19_8
def k19_3 : Code := .seq k19_24 k19_4
def k19_2 : Code := .seq k19_27 k19_7
def k19_23 := cp kc19 [0]
def k19_1 : Code := .seq k19_3 k19_2
def k19_0 : Code := .seq k19_23 k19_1
def p19_9 (cf : CallF) (lf : Nat) (s0 : Value) (h : Heap) : Ans :=
 bindO (nilA s0) fun t43 =>
 bindO (fieldAddrA E 57 t43 3) fun t44 =>
 bindR (skipR (storeA E 55 t44 (.slice none 0 0) h)) (fun v h => some (.panic v, h)) fun _ h =>
 some (.ret (.bool true), h)
theorem p19_9_ok (cf : CallF) (lf : Nat) (T : Tmps) (h : Heap) : execK E cf lf 45 k19_9 T h (finK E [.tmp 2]) = p19_9 cf lf (T 0) h := by kernel_rfl
def p19_15 (cf : CallF) (lf : Nat) (F14 : Value → Value → Value → Value → Heap → Ans) (s0 : Value) (s32 : Value) (s33 : Value) (s34 : Value) (h : Heap) : Ans :=
 bindO (binB E 3 .lss s34 s33) fun t35 =>
 condV t35 (
  bindO (indexAddrA E 55 s32 s34) fun t36 =>
  bindO (loadA E 89 t36 h) fun t37 =>
  bindR (valR (allocA E 89 h)) (fun v h => some (.panic v, h)) fun t4 h =>
  bindR (skipR (storeA E 89 t4 t37 h)) (fun v h => some (.panic v, h)) fun _ h =>
  bindO (loadA E 89 t4 h) fun t39 =>
  bindR (cf 45 [s0, t39] h) (fun v h => some (.panic v, h)) fun t40 h =>
  bindO (binA E 3 .add s34 (.int .i64 (1))) fun t41 =>
  F14 s0 s32 s33 t41 h
 ) (
  p19_9 cf lf s0 h
 )
theorem p19_15_ok (cf : CallF) (lf : Nat) (F14 : Value → Value → Value → Value → Heap → Ans) (T : Tmps) (h : Heap) : execK E cf lf 45 k19_15 T h (seqK (fun T h => F14 (T 0) (T 32) (T 33) (T 34) h) (blockK 0 (seqK (fun T h => p19_9 cf lf (T 0) h) (finK E [.tmp 2])))) = p19_15 cf lf F14 (T 0) (T 32) (T 33) (T 34) h := by kernel_rfl
def l19_14 (cf : CallF) (lf : Nat) : Nat → Value → Value → Value → Value → Heap → Ans
 | 0, _, _, _, _, _ => none
 | n + 1, s0, s32, s33, s34, h => p19_15 cf lf (l19_14 cf lf n) s0 s32 s33 s34 h
theorem l19_14_ok (cf : CallF) (lf : Nat) (n : Nat) : ∀ (T : Tmps) (h : Heap), iterK (fun T h K => execK E cf lf 45 k19_15 T h K) (blockK 0 (seqK (fun T h => p19_9 cf lf (T 0) h) (finK E [.tmp 2]))) n T h = l19_14 cf lf n (T 0) (T 32) (T 33) (T 34) h := by
 induction n with
 | zero => intro T h; rfl
 | succ n ih =>
  intro T h
  rw [iterK_succ, show iterK (fun T h K => execK E cf lf 45 k19_15 T h K) (blockK 0 (seqK (fun T h => p19_9 cf lf (T 0) h) (finK E [.tmp 2]))) n = (fun T h => l19_14 cf lf n (T 0) (T 32) (T 33) (T 34) h) from funext fun T => funext fun h => ih T h]
  exact p19_15_ok cf lf (l19_14 cf lf n) T h
def p19_8 (cf : CallF) (lf : Nat) (s0 : Value) (h : Heap) : Ans :=
 bindO (nilA s0) fun t30 =>
 bindO (fieldAddrA E 57 t30 3) fun t31 =>
 bindO (loadA E 55 t31 h) fun t32 =>
 bindO (lenA E 55 t32) fun t33 =>
 l19_14 cf lf lf s0 t32 t33 (.int .i64 (0)) h
theorem p19_8_ok (cf : CallF) (lf : Nat) (T : Tmps) (h : Heap) : execK E cf lf 45 k19_8 T h (finK E [.tmp 2]) = p19_8 cf lf (T 0) h := by simp only [k19_12, k19_13, k19_14, k19_8, execK_all, l19_14_ok, p19_9_ok]; delta p19_8; generalize l19_14 = G0; generalize p19_9 = G1; as_aux_lemma => kernel_rfl
def p19_0 (cf : CallF) (lf : Nat) (s0 : Value) (h : Heap) : Ans :=
 bindR (cf 44 [s0, (.string (mkS [10]))] h) (fun v h => some (.panic v, h)) fun t6 h =>
 bindO (unA .not t6) fun t7 =>
 condV t7 (
  some (.ret (.bool false), h)
 ) (
  bindO (nilA s0) fun t10 =>
  bindO (fieldAddrA E 57 t10 2) fun t11 =>
  bindO (loadA E 22 t11 h) fun t12 =>
  bindO (nilA s0) fun t14 =>
  bindO (fieldAddrA E 57 t14 1) fun t15 =>
  bindO (loadA E 3 t15 h) fun t16 =>
  bindO (buildA E 39 [(0, (.int .i64 (2))), (4, t16)]) fun t17 =>
  bindR (valR (buildSliceA E 22 1 [(0, t17)] h)) (fun v h => some (.panic v, h)) fun t18 h =>
  bindR (valR (appendA E 22 t12 t18 h)) (fun v h => some (.panic v, h)) fun t19 h =>
  bindO (nilA s0) fun t20 =>
  bindO (fieldAddrA E 57 t20 2) fun t21 =>
  bindR (skipR (storeA E 22 t21 t19 h)) (fun v h => some (.panic v, h)) fun _ h =>
  bindO (nilA s0) fun t23 =>
  bindO (fieldAddrA E 57 t23 1) fun t24 =>
  bindO (loadA E 3 t24 h) fun t25 =>
  bindO (binA E 3 .add t25 (.int .i64 (1))) fun t26 =>
  bindO (nilA s0) fun t27 =>
  bindO (fieldAddrA E 57 t27 1) fun t28 =>
  bindR (skipR (storeA E 3 t28 t26 h)) (fun v h => some (.panic v, h)) fun _ h =>
  p19_8 cf lf s0 h
 )
theorem p19_0_ok (cf : CallF) (lf : Nat) (T : Tmps) (h : Heap) : execK E cf lf 45 k19_0 T h (finK E [.tmp 2]) = p19_0 cf lf (T 0) h := by simp only [k19_0, k19_1, k19_2, k19_3, k19_4, k19_5, k19_7, execK_all, p19_8_ok]; delta p19_0; generalize p19_8 = G0; as_aux_lemma => kernel_rfl
def f19 (cf : CallF) (lf : Nat) (a0 : Value) (h : Heap) : Ans := p19_0 cf lf a0 h
theorem f19_ok (cf : CallF) (lf : Nat) (a0 : Value) (h : Heap) : stepN E cf lf 19 [a0] h = f19 cf lf a0 h := (show stepN E cf lf 19 [a0] h = execK E cf lf 45 k19_0 (T0 [a0]) h (finK E [.tmp 2]) by kernel_rfl).trans ((p19_0_ok cf lf (T0 [a0]) h).trans (by kernel_rfl))
noncomputable def kc20 := codeOf Tryd.f20
def k20_13 := cp kc20 [1, 0, 1, 0, 0]
def k20_6 := cp kc20 [1, 0, 1, 0, 1]
def k20_16 := cp kc20 [1, 1, 1, 1, 0]
def k20_9 := cp kc20 [1, 1, 1, 1, 1]
def k20_5 : Code := .seq k20_13 k20_6
def k20_12 := cp kc20 [1, 0, 1, 1]
def k20_15 := cp kc20 [1, 1, 1, 0]
def k20_8 : Code := .seq k20_16 k20_9
def k20_11 := cp kc20 [1, 0, 0]
def k20_4 : Code := .cond (.tmp 8) k20_5 k20_12
def k20_14 := cp kc20 [1, 1, 0]
def k20_7 : Code := .seq k20_15 k20_8
def k20_3 : Code := .seq k20_11 k20_4
def k20_2 : Code := .seq k20_14 k20_7
def k20_10 := cp kc20 [0]
def k20_1 : Code := .seq k20_3 k20_2
def k20_0 : Code := .seq k20_10 k20_1
def p20_8 (cf : CallF) (lf : Nat) (h : Heap) : Ans :=
 some (.ret (.bool true), h)
theorem p20_8_ok (cf : CallF) (lf : Nat) (T : Tmps) (h : Heap) : execK E cf lf 32 k20_8 T h (finK E [.tmp 2]) = p20_8 cf lf h := by kernel_rfl
def p20_0 (cf : CallF) (lf : Nat) (s0 : Value) (h : Heap) : Ans :=
 bindR (cf 44 [s0, (.string (mkS [35]))] h) (fun v h => some (.panic v, h)) fun t7 h =>
 bindO (unA .not t7) fun t8 =>
 condV t8 (
  some (.ret (.bool false), h)
 ) (
  bindO (nilA s0) fun t11 =>
  bindO (fieldAddrA E 57 t11 0) fun t12 =>
  bindO (loadA E 9 t12 h) fun t13 =>
  bindO (nilA s0) fun t15 =>
  bindO (fieldAddrA E 57 t15 1) fun t16 =>
  bindO (loadA E 3 t16 h) fun t17 =>
  bindO (sliceA E 9 t13 (some t17) none h) fun t18 =>
  bindR (cf 46 [t18, (.string (mkS [10]))] h) (fun v h => some (.panic v, h)) fun t19 h =>
  bindO (extractA t19 0) fun t20 =>
  bindO (extractA t19 1) fun t21 =>
  bindO (extractA t19 2) fun t22 =>
  bindO (nilA s0) fun t24 =>
  bindO (fieldAddrA E 57 t24 1) fun t25 =>
  bindO (loadA E 3 t25 h) fun t26 =>
  bindO (lenA E 9 t20) fun t28 =>
  bindO (binB E 3 .add t26 t28) fun t29 =>
  bindO (nilA s0) fun t30 =>
  bindO (fieldAddrA E 57 t30 1) fun t31 =>
  bindR (skipR (storeA E 3 t31 t29 h)) (fun v h => some (.panic v, h)) fun _ h =>
  p20_8 cf lf h
 )
theorem p20_0_ok (cf : CallF) (lf : Nat) (T : Tmps) (h : Heap) : execK E cf lf 32 k20_0 T h (finK E [.tmp 2]) = p20_0 cf lf (T 0) h := by simp only [k20_0, k20_1, k20_2, k20_3, k20_4, k20_5, k20_7, execK_all, p20_8_ok]; delta p20_0; generalize p20_8 = G0; as_aux_lemma => kernel_rfl
def f20 (cf : CallF) (lf : Nat) (a0 : Value) (h : Heap) : Ans := p20_0 cf lf a0 h
theorem f20_ok (cf : CallF) (lf : Nat) (a0 : Value) (h : Heap) : stepN E cf lf 20 [a0] h = f20 cf lf a0 h := (show stepN E cf lf 20 [a0] h = execK E cf lf 32 k20_0 (T0 [a0]) h (finK E [.tmp 2]) by kernel_rfl).trans ((p20_0_ok cf lf (T0 [a0]) h).trans (by kernel_rfl))
noncomputable def kc21 := codeOf Tryd.f21
def k21_26 := cp kc21 [1, 1, 1, 0, 1, 0, 0, 1, 0]
def k21_27 := cp kc21 [1, 1, 1, 0, 1, 0, 0, 1, 1]
def k21_25 := cp kc21 [1, 1, 1, 0, 1, 0, 0, 0]
def k21_13 : Code := .cond (.tmp 64) k21_26 k21_27
def k21_28 := cp kc21 [1, 1, 1, 0, 1, 0, 1, 0]
def k21_11 := cp kc21 [1, 1, 1, 0, 1, 0, 1, 1]
def k21_12 : Code := .seq k21_25 k21_13
def k21_10 : Code := .seq k21_28 k21_11
def k21_21 := cp kc21 [1, 1, 0, 1, 1, 0]
def k21_22 := cp kc21 [1, 1, 0, 1, 1, 1]
def k21_9 : Code := .seq k21_12 k21_10
def k21_24 := cp kc21 [1, 1, 1, 0, 1, 1]
def k21_30 := cp kc21 [1, 1, 1, 1, 1, 0]
def k21_6 := cp kc21 [1, 1, 1, 1, 1, 1]
def k21_20 := cp kc21 [1, 1, 0, 1, 0]
def k21_16 : Code := .cond (.tmp 50) k21_21 k21_22
def k21_23 := cp kc21 [1, 1, 1, 0, 0]
def k21_8 : Code := .cond (.tmp 62) k21_9 k21_24
def k21_29 := cp kc21 [1, 1, 1, 1, 0]
def k21_5 : Code := .seq k21_30 k21_6
def k21_19 := cp kc21 [1, 1, 0, 0]
def k21_15 : Code := .seq k21_20 k21_16
def k21_7 : Code := .seq k21_23 k21_8
def k21_4 : Code := .seq k21_29 k21_5
def k21_14 : Code := .seq k21_19 k21_15
def k21_3 : Code := .seq k21_7 k21_4
def k21_18 := cp kc21 [1, 0]
def k21_2 : Code := .seq k21_14 k21_3
def k21_17 := cp kc21 [0]
def k21_1 : Code := .seq k21_18 k21_2
def k21_0 : Code := .seq k21_17 k21_1
def p21_4 (cf : CallF) (lf : Nat) (s0 : Value) (s3 : Value) (h : Heap) : Ans :=
 bindO (nilA s0) fun t69 =>
 bindO (fieldAddrA E 57 t69 2) fun t70 =>
 bindO (loadA E 22 t70 h) fun t71 =>
 bindO (nilA s0) fun t73 =>
 bindO (fieldAddrA E 57 t73 0) fun t74 =>
 bindO (loadA E 9 t74 h) fun t75 =>
 bindO (nilA s0) fun t78 =>
 bindO (fieldAddrA E 57 t78 1) fun t79 =>
 bindO (loadA E 3 t79 h) fun t80 =>
 bindO (sliceA E 9 t75 (some s3) (some t80) h) fun t81 =>
 bindO (buildA E 39 [(0, (.int .i64 (1))), (1, t81), (4, s3)]) fun t83 =>
 bindR (valR (buildSliceA E 22 1 [(0, t83)] h)) (fun v h => some (.panic v, h)) fun t84 h =>
 bindR (valR (appendA E 22 t71 t84 h)) (fun v h => some (.panic v, h)) fun t85 h =>
 bindO (nilA s0) fun t86 =>
 bindO (fieldAddrA E 57 t86 2) fun t87 =>
 bindR (skipR (storeA E 22 t87 t85 h)) (fun v h => some (.panic v, h)) fun _ h =>
 some (.ret (.bool true), h)
theorem p21_4_ok (cf : CallF) (lf : Nat) (T : Tmps) (h : Heap) : execK E cf lf 88 k21_4 T h (finK E [.tmp 2]) = p21_4 cf lf (T 0) (T 3) h := by kernel_rfl
def p21_10 (cf : CallF) (lf : Nat) (h : Heap) : Ans :=
 some (.ret (.bool false), h)
theorem p21_10_ok (cf : CallF) (lf : Nat) (T : Tmps) (h : Heap) : execK E cf lf 88 k21_10 T h (seqK (fun T h => p21_4 cf lf (T 0) (T 3) h) (finK E [.tmp 2])) = p21_10 cf lf h := by kernel_rfl
def p21_3 (cf : CallF) (lf : Nat) (s0 : Value) (s3 : Value) (h : Heap) : Ans :=
 bindR (cf 48 [] h) (fun v h => some (.panic v, h)) fun t58 h =>
 bindR (cf 47 [t58, (.func (.func 23) ⟨[s0]⟩ ⟨[]⟩)] h) (fun v h => some (.panic v, h)) fun t61 h =>
 bindO (unA .not t61) fun t62 =>
 condV t62 (
  bindR (cf 44 [s0, (.string (mkS [38]))] h) (fun v h => some (.panic v, h)) fun t64 h =>
  condV t64 (
   bindR (cf 25 [(.int .i64 (19)), s3] h) (fun v h => some (.panic v, h)) fun t66 h =>
   p21_10 cf lf h
  ) (
   p21_10 cf lf h
  )
 ) (
  p21_4 cf lf s0 s3 h
 )
theorem p21_3_ok (cf : CallF) (lf : Nat) (T : Tmps) (h : Heap) : execK E cf lf 88 k21_3 T h (finK E [.tmp 2]) = p21_3 cf lf (T 0) (T 3) h := by simp only [k21_12, k21_13, k21_3, k21_7, k21_8, k21_9, execK_all, p21_10_ok, p21_4_ok]; delta p21_3; generalize p21_10 = G0; generalize p21_4 = G1; as_aux_lemma => kernel_rfl
def p21_16 (cf : CallF) (lf : Nat) (s0 : Value) (s3 : Value) (s50 : Value) (h : Heap) : Ans :=
 condV s50 (
  bindO (nilA s0) fun t52 =>
  bindO (fieldAddrA E 57 t52 1) fun t53 =>
  bindO (loadA E 3 t53 h) fun t54 =>
  bindO (binA E 3 .add t54 (.int .i64 (1))) fun t55 =>
  bindO (nilA s0) fun t56 =>
  bindO (fieldAddrA E 57 t56 1) fun t57 =>
  bindR (skipR (storeA E 3 t57 t55 h)) (fun v h => some (.panic v, h)) fun _ h =>
  p21_3 cf lf s0 s3 h
 ) (
  p21_3 cf lf s0 s3 h
 )
theorem p21_16_ok (cf : CallF) (lf : Nat) (T : Tmps) (h : Heap) : execK E cf lf 88 k21_16 T h (seqK (fun T h => p21_3 cf lf (T 0) (T 3) h) (finK E [.tmp 2])) = p21_16 cf lf (T 0) (T 3) (T 50) h := by kernel_rfl
def p21_15 (cf : CallF) (lf : Nat) (s0 : Value) (s3 : Value) (s4 : Value) (h : Heap) : Ans :=
 bindO (binA E 5 .geq s4 (.int .u8 (48))) fun t16 =>
 bindO (gO (boolIs true t16) (some s4)) fun t18 =>
 bindO (gO (boolIs true t16) (binA E 5 .leq t18 (.int .u8 (50)))) fun t19 =>
 bindO (pickA t16 t19 (.bool false)) fun t20 =>
 bindO (gO (boolIs true t20) (some s3)) fun t22 =>
 bindO (gO (boolIs true t20) (binA E 3 .add t22 (.int .i64 (1)))) fun t23 =>
 bindO (gO (boolIs true t20) (some s0)) fun t24 =>
 bindO (gO (boolIs true t20) (nilA t24)) fun t25 =>
 bindO (gO (boolIs true t20) (fieldAddrA E 57 t25 0)) fun t26 =>
 bindO (gO (boolIs true t20) (loadA E 9 t26 h)) fun t27 =>
 bindO (gO (boolIs true t20) (lenA E 9 t27)) fun t28 =>
 bindO (gO (boolIs true t20) (binB E 3 .lss t23 t28)) fun t29 =>
 bindO (pickA t20 t29 (.bool false)) fun t30 =>
 bindO (gO (boolIs true t30) (some s0)) fun t32 =>
 bindO (gO (boolIs true t30) (nilA t32)) fun t33 =>
 bindO (gO (boolIs true t30) (fieldAddrA E 57 t33 0)) fun t34 =>
 bindO (gO (boolIs true t30) (loadA E 9 t34 h)) fun t35 =>
 bindO (gO (boolIs true t30) (some s3)) fun t36 =>
 bindO (gO (boolIs true t30) (binA E 3 .add t36 (.int .i64 (1)))) fun t37 =>
 bindO (gO (boolIs true t30) (indexA E 9 t35 t37)) fun t38 =>
 bindO (gO (boolIs true t30) (binA E 5 .eql t38 (.int .u8 (60)))) fun t39 =>
 bindO (gO (boolIs true t30) (some t39)) fun t40 =>
 bindO (gO (boolIs false t40) (some s0)) fun t41 =>
 bindO (gO (boolIs false t40) (nilA t41)) fun t42 =>
 bindO (gO (boolIs false t40) (fieldAddrA E 57 t42 0)) fun t43 =>
 bindO (gO (boolIs false t40) (loadA E 9 t43 h)) fun t44 =>
 bindO (gO (boolIs false t40) (some s3)) fun t45 =>
 bindO (gO (boolIs false t40) (binA E 3 .add t45 (.int .i64 (1)))) fun t46 =>
 bindO (gO (boolIs false t40) (indexA E 9 t44 t46)) fun t47 =>
 bindO (gO (boolIs false t40) (binA E 5 .eql t47 (.int .u8 (62)))) fun t48 =>
 bindO (gO (boolIs true t30) (pickA t40 (.bool true) t48)) fun t49 =>
 bindO (pickA t30 t49 (.bool false)) fun t50 =>
 p21_16 cf lf s0 s3 t50 h
theorem p21_15_ok (cf : CallF) (lf : Nat) (T : Tmps) (h : Heap) : execK E cf lf 88 k21_15 T h (seqK (fun T h => p21_3 cf lf (T 0) (T 3) h) (finK E [.tmp 2])) = p21_15 cf lf (T 0) (T 3) (T 4) h := by simp only [k21_15, execK_all, p21_16_ok]; delta p21_15; generalize p21_16 = G0; as_aux_lemma => kernel_rfl
def p21_0 (cf : CallF) (lf : Nat) (s0 : Value) (h : Heap) : Ans :=
 bindO (nilA s0) fun t6 =>
 bindO (fieldAddrA E 57 t6 1) fun t7 =>
 bindO (loadA E 3 t7 h) fun t8 =>
 bindO (nilA s0) fun t10 =>
 bindO (fieldAddrA E 57 t10 0) fun t11 =>
 bindO (loadA E 9 t11 h) fun t12 =>
 bindO (indexA E 9 t12 t8) fun t14 =>
 p21_15 cf lf s0 t8 t14 h
theorem p21_0_ok (cf : CallF) (lf : Nat) (T : Tmps) (h : Heap) : execK E cf lf 88 k21_0 T h (finK E [.tmp 2]) = p21_0 cf lf (T 0) h := by simp only [k21_0, k21_1, k21_14, k21_2, execK_all, p21_15_ok, p21_3_ok]; delta p21_0; generalize p21_15 = G0; generalize p21_3 = G1; as_aux_lemma => kernel_rfl
def f21 (cf : CallF) (lf : Nat) (a0 : Value) (h : Heap) : Ans := p21_0 cf lf a0 h
theorem f21_ok (cf : CallF) (lf : Nat) (a0 : Value) (h : Heap) : stepN E cf lf 21 [a0] h = f21 cf lf a0 h := (show stepN E cf lf 21 [a0] h = execK E cf lf 88 k21_0 (T0 [a0]) h (finK E [.tmp 2]) by kernel_rfl).trans ((p21_0_ok cf lf (T0 [a0]) h).trans (by kernel_rfl))
noncomputable def kc22 := codeOf Tryd.f22
def k22_48 := cp kc22 [1, 1, 1, 1, 1, 1, 1, 1, 0, 1, 0, 0, 1, 1, 0, 0, 1, 0, 1, 0]
def k22_49 := cp kc22 [1, 1, 1, 1, 1, 1, 1, 1, 0, 1, 0, 0, 1, 1, 0, 0, 1, 0, 1, 1]
def k22_47 := cp kc22 [1, 1, 1, 1, 1, 1, 1, 1, 0, 1, 0, 0, 1, 1, 0, 0, 1, 0, 0]
def k22_31 : Code := .cond (.tmp 78) k22_48 k22_49
def k22_50 := cp kc22 [1, 1, 1, 1, 1, 1, 1, 1, 0, 1, 0, 0, 1, 1, 0, 0, 1, 1, 0]
def k22_29 := cp kc22 [1, 1, 1, 1, 1, 1, 1, 1, 0, 1, 0, 0, 1, 1, 0, 0, 1, 1, 1]
def k22_30 : Code := .seq k22_47 k22_31
def k22_28 : Code := .seq k22_50 k22_29
def k22_46 := cp kc22 [1, 1, 1, 1, 1, 1, 1, 1, 0, 1, 0, 0, 1, 1, 0, 0, 0]
def k22_27 : Code := .seq k22_30 k22_28
def k22_26 : Code := .seq k22_46 k22_27
def k22_44 := cp kc22 [1, 1, 1, 1, 1, 1, 1, 1, 0, 1, 0, 0, 1, 0, 0]
def k22_45 := cp kc22 [1, 1, 1, 1, 1, 1, 1, 1, 0, 1, 0, 0, 1, 0, 1]
def k22_25 : Code := .block 1 k22_26
def k22_24 := cp kc22 [1, 1, 1, 1, 1, 1, 1, 1, 0, 1, 0, 0, 1, 1, 1]
def k22_23 : Code := .cond (.tmp 68) k22_44 k22_45
def k22_22 : Code := .seq k22_25 k22_24
def k22_43 := cp kc22 [1, 1, 1, 1, 1, 1, 1, 1, 0, 1, 0, 0, 0]
def k22_21 : Code := .seq k22_23 k22_22
def k22_20 : Code := .seq k22_43 k22_21
def k22_53 := cp kc22 [1, 1, 1, 1, 1, 1, 1, 1, 1, 1, 1, 0]
def k22_16 := cp kc22 [1, 1, 1, 1, 1, 1, 1, 1, 1, 1, 1, 1]
def k22_19 : Code := .loop k22_20
def k22_52 := cp kc22 [1, 1, 1, 1, 1, 1, 1, 1, 1, 1, 0]
def k22_15 : Code := .seq k22_53 k22_16
def k22_40 := cp kc22 [1, 1, 1, 1, 1, 1, 0, 1, 0, 0]
def k22_11 := cp kc22 [1, 1, 1, 1, 1, 1, 0, 1, 0, 1]
def k22_42 := cp kc22 [1, 1, 1, 1, 1, 1, 1, 1, 0, 0]
def k22_18 : Code := .block 0 k22_19
def k22_51 := cp kc22 [1, 1, 1, 1, 1, 1, 1, 1, 1, 0]
def k22_14 : Code := .seq k22_52 k22_15
def k22_10 : Code := .seq k22_40 k22_11
def k22_39 := cp kc22 [1, 1, 1, 1, 1, 1, 0, 1, 1]
def k22_17 : Code := .seq k22_42 k22_18
def k22_13 : Code := .seq k22_51 k22_14
def k22_38 := cp kc22 [1, 1, 1, 1, 1, 1, 0, 0]
def k22_9 : Code := .cond (.tmp 61) k22_10 k22_39
def k22_41 := cp kc22 [1, 1, 1, 1, 1, 1, 1, 0]
def k22_12 : Code := .seq k22_17 k22_13
def k22_8 : Code := .seq k22_38 k22_9
def k22_7 : Code := .seq k22_41 k22_12
def k22_37 := cp kc22 [1, 1, 1, 1, 1, 0]
def k22_6 : Code := .seq k22_8 k22_7
def k22_36 := cp kc22 [1, 1, 1, 1, 0]
def k22_5 : Code := .seq k22_37 k22_6
def k22_35 := cp kc22 [1, 1, 1, 0]
def k22_4 : Code := .seq k22_36 k22_5
def k22_34 := cp kc22 [1, 1, 0]
def k22_3 : Code := .seq k22_35 k22_4
def k22_33 := cp kc22 [1, 0]
def k22_2 : Code := .seq k22_34 k22_3
def k22_32 := cp kc22 [0]
def k22_1 : Code := .seq k22_33 k22_2
def k22_0 : Code := .seq k22_32 k22_1
def p22_13 (cf : CallF) (lf : Nat) (s0 : Value) (s7 : Value) (s8 : Value) (h : Heap) : Ans :=
 bindO (nilA s0) fun t96 =>
 bindO (fieldAddrA E 57 t96 3) fun t97 =>
 bindO (loadA E 55 t97 h) fun t98 =>
 bindO (nilA s0) fun t100 =>
 bindO (fieldAddrA E 57 t100 2) fun t101 =>
 bindO (loadA E 22 t101 h) fun t102 =>
 bindO (lenA E 22 t102) fun t103 =>
 bindO (buildA E 89 [(0, t103), (1, s8)]) fun t105 =>
 bindR (valR (buildSliceA E 55 1 [(0, t105)] h)) (fun v h => some (.panic v, h)) fun t106 h =>
 bindR (valR (appendA E 55 t98 t106 h)) (fun v h => some (.panic v, h)) fun t107 h =>
 bindO (nilA s0) fun t108 =>
 bindO (fieldAddrA E 57 t108 3) fun t109 =>
 bindR (skipR (storeA E 55 t109 t107 h)) (fun v h => some (.panic v, h)) fun _ h =>
 bindO (nilA s0) fun t112 =>
 bindO (fieldAddrA E 57 t112 2) fun t113 =>
 bindO (loadA E 22 t113 h) fun t114 =>
 bindO (loadA E 39 s7 h) fun t115 =>
 bindR (valR (buildSliceA E 22 1 [(0, t115)] h)) (fun v h => some (.panic v, h)) fun t116 h =>
 bindR (valR (appendA E 22 t114 t116 h)) (fun v h => some (.panic v, h)) fun t117 h =>
 bindO (nilA s0) fun t118 =>
 bindO (fieldAddrA E 57 t118 2) fun t119 =>
 bindR (skipR (storeA E 22 t119 t117 h)) (fun v h => some (.panic v, h)) fun _ h =>
 some (.ret (.bool true), h)
theorem p22_13_ok (cf : CallF) (lf : Nat) (T : Tmps) (h : Heap) : execK E cf lf 120 k22_13 T h (finK E [.tmp 2]) = p22_13 cf lf (T 0) (T 7) (T 8) h := by kernel_rfl
def p22_24 (cf : CallF) (lf : Nat) (F19 : Value → Value → Value → Value → Value → Value → Value → Heap → Ans) (s0 : Value) (s3 : Value) (s7 : Value) (s8 : Value) (s65 : Value) (s66 : Value) (s67 : Value) (h : Heap) : Ans :=
 bindO (binA E 3 .add s67 (.int .i64 (1))) fun t93 =>
 F19 s0 s3 s7 s8 s65 s66 t93 h
theorem p22_24_ok (cf : CallF) (lf : Nat) (F19 : Value → Value → Value → Value → Value → Value → Value → Heap → Ans) (T : Tmps) (h : Heap) : execK E cf lf 120 k22_24 T h (seqK (fun T h => F19 (T 0) (T 3) (T 7) (T 8) (T 65) (T 66) (T 67) h) (blockK 0 (seqK (fun T h => p22_13 cf lf (T 0) (T 7) (T 8) h) (finK E [.tmp 2])))) = p22_24 cf lf F19 (T 0) (T 3) (T 7) (T 8) (T 65) (T 66) (T 67) h := by kernel_rfl
def p22_28 (cf : CallF) (lf : Nat) (F19 : Value → Value → Value → Value → Value → Value → Value → Heap → Ans) (s0 : Value) (s3 : Value) (s7 : Value) (s8 : Value) (s10 : Value) (s65 : Value) (s66 : Value) (s67 : Value) (h : Heap) : Ans :=
 bindO (fieldAddrA E 49 s10 1) fun t82 =>
 bindO (loadA E 9 t82 h) fun t83 =>
 bindO (binB E 9 .add s8 t83) fun t84 =>
 bindO (fieldAddrA E 39 s7 3) fun t85 =>
 bindO (loadA E 4 t85 h) fun t86 =>
 bindO (gO (boolIs false t86) (fieldAddrA E 49 s10 0)) fun t88 =>
 bindO (gO (boolIs false t86) (loadA E 3 t88 h)) fun t89 =>
 bindO (gO (boolIs false t86) (binA E 3 .eql t89 (.int .i64 (1)))) fun t90 =>
 bindO (pickA t86 (.bool true) t90) fun t91 =>
 bindO (fieldAddrA E 39 s7 3) fun t92 =>
 bindR (skipR (storeA E 4 t92 t91 h)) (fun v h => some (.panic v, h)) fun _ h =>
 p22_24 cf lf F19 s0 s3 s7 t84 s65 s66 s67 h
theorem p22_28_ok (cf : CallF) (lf : Nat) (F19 : Value → Value → Value → Value → Value → Value → Value → Heap → Ans) (T : Tmps) (h : Heap) : execK E cf lf 120 k22_28 T h (blockK 1 (seqK (fun T h => p22_24 cf lf F19 (T 0) (T 3) (T 7) (T 8) (T 65) (T 66) (T 67) h) (seqK (fun T h => F19 (T 0) (T 3) (T 7) (T 8) (T 65) (T 66) (T 67) h) (blockK 0 (seqK (fun T h => p22_13 cf lf (T 0) (T 7) (T 8) h) (finK E [.tmp 2])))))) = p22_28 cf lf F19 (T 0) (T 3) (T 7) (T 8) (T 10) (T 65) (T 66) (T 67) h := by kernel_rfl
def p22_27 (cf : CallF) (lf : Nat) (F19 : Value → Value → Value → Value → Value → Value → Value → Heap → Ans) (s0 : Value) (s3 : Value) (s7 : Value) (s8 : Value) (s10 : Value) (s65 : Value) (s66 : Value) (s67 : Value) (h : Heap) : Ans :=
 bindO (fieldAddrA E 49 s10 0) fun t71 =>
 bindO (loadA E 3 t71 h) fun t72 =>
 bindO (binA E 3 .neq t72 (.int .i64 (0))) fun t73 =>
 bindO (gO (boolIs true t73) (fieldAddrA E 49 s10 0)) fun t75 =>
 bindO (gO (boolIs true t73) (loadA E 3 t75 h)) fun t76 =>
 bindO (gO (boolIs true t73) (binA E 3 .neq t76 (.int .i64 (1)))) fun t77 =>
 bindO (pickA t73 t77 (.bool false)) fun t78 =>
 condV t78 (
  bindR (cf 25 [(.int .i64 (19)), s3] h) (fun v h => some (.panic v, h)) fun t80 h =>
  p22_28 cf lf F19 s0 s3 s7 s8 s10 s65 s66 s67 h
 ) (
  p22_28 cf lf F19 s0 s3 s7 s8 s10 s65 s66 s67 h
 )
theorem p22_27_ok (cf : CallF) (lf : Nat) (F19 : Value → Value → Value → Value → Value → Value → Value → Heap → Ans) (T : Tmps) (h : Heap) : execK E cf lf 120 k22_27 T h (blockK 1 (seqK (fun T h => p22_24 cf lf F19 (T 0) (T 3) (T 7) (T 8) (T 65) (T 66) (T 67) h) (seqK (fun T h => F19 (T 0) (T 3) (T 7) (T 8) (T 65) (T 66) (T 67) h) (blockK 0 (seqK (fun T h => p22_13 cf lf (T 0) (T 7) (T 8) h) (finK E [.tmp 2])))))) = p22_27 cf lf F19 (T 0) (T 3) (T 7) (T 8) (T 10) (T 65) (T 66) (T 67) h := by simp only [k22_27, k22_30, k22_31, execK_all, p22_28_ok]; delta p22_27; generalize p22_28 = G0; as_aux_lemma => kernel_rfl
def p22_20 (cf : CallF) (lf : Nat) (F19 : Value → Value → Value → Value → Value → Value → Value → Heap → Ans) (s0 : Value) (s3 : Value) (s7 : Value) (s8 : Value) (s65 : Value) (s66 : Value) (s67 : Value) (h : Heap) : Ans :=
 bindO (binB E 3 .lss s67 s66) fun t68 =>
 condV t68 (
  bindO (indexAddrA E 37 s65 s67) fun t69 =>
  bindO (loadA E 49 t69 h) fun t70 =>
  bindR (valR (allocA E 49 h)) (fun v h => some (.panic v, h)) fun t10 h =>
  bindR (skipR (storeA E 49 t10 t70 h)) (fun v h => some (.panic v, h)) fun _ h =>
  p22_27 cf lf F19 s0 s3 s7 s8 t10 s65 s66 s67 h
 ) (
  p22_13 cf lf s0 s7 s8 h
 )
theorem p22_20_ok (cf : CallF) (lf : Nat) (F19 : Value → Value → Value → Value → Value → Value → Value → Heap → Ans) (T : Tmps) (h : Heap) : execK E cf lf 120 k22_20 T h (seqK (fun T h => F19 (T 0) (T 3) (T 7) (T 8) (T 65) (T 66) (T 67) h) (blockK 0 (seqK (fun T h => p22_13 cf lf (T 0) (T 7) (T 8) h) (finK E [.tmp 2])))) = p22_20 cf lf F19 (T 0) (T 3) (T 7) (T 8) (T 65) (T 66) (T 67) h := by simp only [k22_20, k22_21, k22_22, k22_23, k22_25, k22_26, execK_all, p22_24_ok, p22_27_ok]; delta p22_20; generalize p22_24 = G0; generalize p22_27 = G1; as_aux_lemma => kernel_rfl
def l22_19 (cf : CallF) (lf : Nat) : Nat → Value → Value → Value → Value → Value → Value → Value → Heap → Ans
 | 0, _, _, _, _, _, _, _, _ => none
 | n + 1, s0, s3, s7, s8, s65, s66, s67, h => p22_20 cf lf (l22_19 cf lf n) s0 s3 s7 s8 s65 s66 s67 h
theorem l22_19_ok (cf : CallF) (lf : Nat) (n : Nat) : ∀ (T : Tmps) (h : Heap), iterK (fun T h K => execK E cf lf 120 k22_20 T h K) (blockK 0 (seqK (fun T h => p22_13 cf lf (T 0) (T 7) (T 8) h) (finK E [.tmp 2]))) n T h = l22_19 cf lf n (T 0) (T 3) (T 7) (T 8) (T 65) (T 66) (T 67) h := by
 induction n with
 | zero => intro T h; rfl
 | succ n ih =>
  intro T h
  rw [iterK_succ, show iterK (fun T h K => execK E cf lf 120 k22_20 T h K) (blockK 0 (seqK (fun T h => p22_13 cf lf (T 0) (T 7) (T 8) h) (finK E [.tmp 2]))) n = (fun T h => l22_19 cf lf n (T 0) (T 3) (T 7) (T 8) (T 65) (T 66) (T 67) h) from funext fun T => funext fun h => ih T h]
  exact p22_20_ok cf lf (l22_19 cf lf n) T h
def p22_18 (cf : CallF) (lf : Nat) (s0 : Value) (s3 : Value) (s7 : Value) (s8 : Value) (s65 : Value) (s66 : Value) (s67 : Value) (h : Heap) : Ans :=
 l22_19 cf lf lf s0 s3 s7 s8 s65 s66 s67 h
theorem p22_18_ok (cf : CallF) (lf : Nat) (T : Tmps) (h : Heap) : execK E cf lf 120 k22_18 T h (seqK (fun T h => p22_13 cf lf (T 0) (T 7) (T 8) h) (finK E [.tmp 2])) = p22_18 cf lf (T 0) (T 3) (T 7) (T 8) (T 65) (T 66) (T 67) h := by simp only [k22_18, k22_19, execK_all, l22_19_ok]; delta p22_18; generalize l22_19 = G0; as_aux_lemma => kernel_rfl
def p22_4 (cf : CallF) (lf : Nat) (s0 : Value) (s3 : Value) (s5 : Value) (h : Heap) : Ans :=
 bindR (cf 49 [s0, (.int .i64 (0)), (.int .i64 (0))] h) (fun v h => some (.panic v, h)) fun t47 h =>
 bindO (buildA E 39 [(0, (.int .i64 (0))), (2, t47), (4, s3)]) fun t49 =>
 bindR (valR (allocA E 39 h)) (fun v h => some (.panic v, h)) fun t6 h =>
 bindR (skipR (storeA E 39 t6 t49 h)) (fun v h => some (.panic v, h)) fun _ h =>
 bindO (nilA s0) fun t52 =>
 bindO (fieldAddrA E 57 t52 2) fun t53 =>
 bindO (loadA E 22 t53 h) fun t54 =>
 bindO (loadA E 39 t6 h) fun t55 =>
 bindR (valR (buildSliceA E 22 1 [(0, t55)] h)) (fun v h => some (.panic v, h)) fun t56 h =>
 bindR (valR (appendA E 22 t54 t56 h)) (fun v h => some (.panic v, h)) fun t57 h =>
 bindO (nilA s0) fun t58 =>
 bindO (fieldAddrA E 57 t58 2) fun t59 =>
 bindR (skipR (storeA E 22 t59 t57 h)) (fun v h => some (.panic v, h)) fun _ h =>
 bindO (unA .not s5) fun t61 =>
 condV t61 (
  some (.ret (.bool true), h)
 ) (
  bindO (buildA E 39 [(0, (.int .i64 (3))), (4, s3)]) fun t63 =>
  bindR (valR (allocA E 39 h)) (fun v h => some (.panic v, h)) fun t7 h =>
  bindR (skipR (storeA E 39 t7 t63 h)) (fun v h => some (.panic v, h)) fun _ h =>
  bindO (fieldAddrA E 39 t6 2) fun t64 =>
  bindO (loadA E 37 t64 h) fun t65 =>
  bindO (lenA E 37 t65) fun t66 =>
  p22_18 cf lf s0 s3 t7 (.string (mkS [])) t65 t66 (.int .i64 (0)) h
 )
theorem p22_4_ok (cf : CallF) (lf : Nat) (T : Tmps) (h : Heap) : execK E cf lf 120 k22_4 T h (finK E [.tmp 2]) = p22_4 cf lf (T 0) (T 3) (T 5) h := by simp only [k22_10, k22_12, k22_17, k22_4, k22_5, k22_6, k22_7, k22_8, k22_9, execK_all, p22_13_ok, p22_18_ok]; delta p22_4; generalize p22_13 = G0; generalize p22_18 = G1; as_aux_lemma => kernel_rfl
def p22_0 (cf : CallF) (lf : Nat) (s0 : Value) (h : Heap) : Ans :=
 bindO (nilA s0) fun t12 =>
 bindO (fieldAddrA E 57 t12 1) fun t13 =>
 bindO (loadA E 3 t13 h) fun t14 =>
 bindO (nilA s0) fun t16 =>
 bindO (fieldAddrA E 57 t16 2) fun t17 =>
 bindO (loadA E 22 t17 h) fun t18 =>
 bindO (lenA E 22 t18) fun t19 =>
 bindO (binA E 3 .gtr t19 (.int .i64 (0))) fun t21 =>
 bindO (gO (boolIs true t21) (some s0)) fun t23 =>
 bindO (gO (boolIs true t21) (nilA t23)) fun t24 =>
 bindO (gO (boolIs true t21) (fieldAddrA E 57 t24 2)) fun t25 =>
 bindO (gO (boolIs true t21) (loadA E 22 t25 h)) fun t26 =>
 bindO (gO (boolIs true t21) (some t19)) fun t27 =>
 bindO (gO (boolIs true t21) (binA E 3 .sub t27 (.int .i64 (1)))) fun t28 =>
 bindO (gO (boolIs true t21) (indexAddrA E 22 t26 t28)) fun t29 =>
 bindO (gO (boolIs true t21) (fieldAddrA E 39 t29 0)) fun t30 =>
 bindO (gO (boolIs true t21) (loadA E 3 t30 h)) fun t31 =>
 bindO (gO (boolIs true t21) (binA E 3 .eql t31 (.int .i64 (1)))) fun t32 =>
 bindO (pickA t21 t32 (.bool false)) fun t33 =>
 bindO (gO (boolIs true t33) (some s0)) fun t35 =>
 bindO (gO (boolIs true t33) (nilA t35)) fun t36 =>
 bindO (gO (boolIs true t33) (fieldAddrA E 57 t36 2)) fun t37 =>
 bindO (gO (boolIs true t33) (loadA E 22 t37 h)) fun t38 =>
 bindO (gO (boolIs true t33) (some t19)) fun t39 =>
 bindO (gO (boolIs true t33) (binA E 3 .sub t39 (.int .i64 (1)))) fun t40 =>
 bindO (gO (boolIs true t33) (indexAddrA E 22 t38 t40)) fun t41 =>
 bindO (gO (boolIs true t33) (fieldAddrA E 39 t41 1)) fun t42 =>
 bindO (gO (boolIs true t33) (loadA E 9 t42 h)) fun t43 =>
 bindR (gR (boolIs true t33) (cf 13 [t43, (.string (mkS [60, 60]))] h) h) (fun v h => some (.panic v, h)) fun t44 h =>
 bindO (pickA t33 t44 (.bool false)) fun t45 =>
 p22_4 cf lf s0 t14 t45 h
theorem p22_0_ok (cf : CallF) (lf : Nat) (T : Tmps) (h : Heap) : execK E cf lf 120 k22_0 T h (finK E [.tmp 2]) = p22_0 cf lf (T 0) h := by simp only [k22_0, k22_1, k22_2, k22_3, execK_all, p22_4_ok]; delta p22_0; generalize p22_4 = G0; as_aux_lemma => kernel_rfl
def f22 (cf : CallF) (lf : Nat) (a0 : Value) (h : Heap) : Ans := p22_0 cf lf a0 h
theorem f22_ok (cf : CallF) (lf : Nat) (a0 : Value) (h : Heap) : stepN E cf lf 22 [a0] h = f22 cf lf a0 h := (show stepN E cf lf 22 [a0] h = execK E cf lf 120 k22_0 (T0 [a0]) h (finK E [.tmp 2]) by kernel_rfl).trans ((p22_0_ok cf lf (T0 [a0]) h).trans (by kernel_rfl))
def f23 (cf : CallF) (lf : Nat) (a0 : Value) (a1 : Value) (h : Heap) : Ans :=
 bindR (cf 44 [a0, a1] h) (fun v h => some (.panic v, h)) fun t7 h =>
 bindO (unA .not t7) fun t8 =>
 condV t8 (
  some (.ret (.bool false), h)
 ) (
  bindO (nilA a0) fun t10 =>
  bindO (fieldAddrA E 57 t10 1) fun t11 =>
  bindO (loadA E 3 t11 h) fun t12 =>
  bindO (lenA E 9 a1) fun t14 =>
  bindO (binB E 3 .add t12 t14) fun t15 =>
  bindO (nilA a0) fun t16 =>
  bindO (fieldAddrA E 57 t16 1) fun t17 =>
  bindR (skipR (storeA E 3 t17 t15 h)) (fun v h => some (.panic v, h)) fun _ h =>
  some (.ret (.bool true), h)
 )
theorem f23_ok (cf : CallF) (lf : Nat) (a0 a1 : Value) (h : Heap) : stepN E cf lf 23 [a0, a1] h = f23 cf lf a0 a1 h := by kernel_rfl
def f24 (cf : CallF) (lf : Nat) (a0 : Value) (h : Heap) : Ans :=
 bindO (nilA a0) fun t4 =>
 bindO (fieldAddrA E 57 t4 1) fun t5 =>
 bindO (loadA E 3 t5 h) fun t6 =>
 bindO (nilA a0) fun t8 =>
 bindO (fieldAddrA E 57 t8 0) fun t9 =>
 bindO (loadA E 9 t9 h) fun t10 =>
 bindO (lenA E 9 t10) fun t11 =>
 bindO (binB E 3 .lss t6 t11) fun t12 =>
 some (.ret t12, h)
theorem f24_ok (cf : CallF) (lf : Nat) (a0 : Value) (h : Heap) : stepN E cf lf 24 [a0] h = f24 cf lf a0 h := by kernel_rfl
def f25 (cf : CallF) (lf : Nat) (a0 : Value) (a1 : Value) (h : Heap) : Ans :=
 bindO (buildA E 52 [(0, a0), (1, a1)]) fun t6 =>
 bindR (valR (some (boxA 52 t6 h))) (fun v h => some (.panic v, h)) fun t7 h =>
 bindO (ifaceA E 51 t7) fun t8 =>
 bindR (panicA t8 h) (fun v h => some (.panic v, h)) fun _ h =>
 some (.ret (.tuple ⟨[]⟩), h)
theorem f25_ok (cf : CallF) (lf : Nat) (a0 a1 : Value) (h : Heap) : stepN E cf lf 25 [a0, a1] h = f25 cf lf a0 a1 h := by kernel_rfl
def f26 (cf : CallF) (lf : Nat) (a0 : Value) (a1 : Value) (a2 : Value) (h : Heap) : Ans :=
 bindO (lenA E 9 a2) fun t9 =>
 bindO (binB E 3 .add a1 t9) fun t10 =>
 bindO (lenA E 9 a0) fun t12 =>
 bindO (binB E 3 .leq t10 t12) fun t13 =>
 bindO (gO (boolIs true t13) (some a0)) fun t15 =>
 bindO (gO (boolIs true t13) (some a1)) fun t16 =>
 bindO (gO (boolIs true t13) (some a1)) fun t17 =>
 bindO (gO (boolIs true t13) (some a2)) fun t18 =>
 bindO (gO (boolIs true t13) (lenA E 9 t18)) fun t19 =>
 bindO (gO (boolIs true t13) (binB E 3 .add t17 t19)) fun t20 =>
 bindO (gO (boolIs true t13) (sliceA E 9 t15 (some t16) (some t20) h)) fun t21 =>
 bindO (gO (boolIs true t13) (some a2)) fun t22 =>
 bindO (gO (boolIs true t13) (binB E 9 .eql t21 t22)) fun t23 =>
 bindO (pickA t13 t23 (.bool false)) fun t24 =>
 some (.ret t24, h)
theorem f26_ok (cf : CallF) (lf : Nat) (a0 a1 a2 : Value) (h : Heap) : stepN E cf lf 26 [a0, a1, a2] h = f26 cf lf a0 a1 a2 h := by kernel_rfl
noncomputable def kc27 := codeOf Tryd.f27
def k27_33 := cp kc27 [1, 1, 0, 0, 0, 1, 0, 1, 0, 0, 0, 0, 1, 0]
def k27_34 := cp kc27 [1, 1, 0, 0, 0, 1, 0, 1, 0, 0, 0, 0, 1, 1]
def k27_39 := cp kc27 [1, 1, 0, 0, 0, 1, 0, 1, 1, 1, 0, 1, 0, 0]
def k27_19 := cp kc27 [1, 1, 0, 0, 0, 1, 0, 1, 1, 1, 0, 1, 0, 1]
def k27_32 := cp kc27 [1, 1, 0, 0, 0, 1, 0, 1, 0, 0, 0, 0, 0]
def k27_25 : Code := .cond (.tmp 26) k27_33 k27_34
def k27_35 := cp kc27 [1, 1, 0, 0, 0, 1, 0, 1, 0, 0, 0, 1, 0]
def k27_18 : Code := .seq k27_39 k27_19
def k27_38 := cp kc27 [1, 1, 0, 0, 0, 1, 0, 1, 1, 1, 0, 1, 1]
def k27_24 : Code := .seq k27_32 k27_25
def k27_23 : Code := .block 3 k27_35
def k27_37 := cp kc27 [1, 1, 0, 0, 0, 1, 0, 1, 1, 1, 0, 0]
def k27_17 : Code := .cond (.tmp 39) k27_18 k27_38
def k27_22 : Code := .seq k27_24 k27_23
def k27_16 : Code := .seq k27_37 k27_17
def k27_15 := cp kc27 [1, 1, 0, 0, 0, 1, 0, 1, 1, 1, 1]
def k27_21 : Code := .loop k27_22
def k27_36 := cp kc27 [1, 1, 0, 0, 0, 1, 0, 1, 1, 0]
def k27_14 : Code := .seq k27_16 k27_15
def k27_20 : Code := .block 2 k27_21
def k27_13 : Code := .seq k27_36 k27_14
def k27_29 := cp kc27 [1, 1, 0, 0, 0, 0, 1, 0]
def k27_30 := cp kc27 [1, 1, 0, 0, 0, 0, 1, 1]
def k27_31 := cp kc27 [1, 1, 0, 0, 0, 1, 0, 0]
def k27_12 : Code := .seq k27_20 k27_13
def k27_28 := cp kc27 [1, 1, 0, 0, 0, 0, 0]
def k27_10 : Code := .cond (.tmp 15) k27_29 k27_30
def k27_11 : Code := .seq k27_31 k27_12
def k27_9 : Code := .seq k27_28 k27_10
def k27_8 : Code := .block 1 k27_11
def k27_7 : Code := .seq k27_9 k27_8
def k27_6 : Code := .loop k27_7
def k27_40 := cp kc27 [1, 1, 1, 0]
def k27_4 := cp kc27 [1, 1, 1, 1]
def k27_5 : Code := .block 0 k27_6
def k27_3 : Code := .seq k27_40 k27_4
def k27_27 := cp kc27 [1, 0]
def k27_2 : Code := .seq k27_5 k27_3
def k27_26 := cp kc27 [0]
def k27_1 : Code := .seq k27_27 k27_2
def k27_0 : Code := .seq k27_26 k27_1
def p27_3 (cf : CallF) (lf : Nat) (h : Heap) : Ans :=
 some (.ret (.tuple ⟨[(.string (mkS [])), (.int .i64 (-1))]⟩), h)
theorem p27_3_ok (cf : CallF) (lf : Nat) (T : Tmps) (h : Heap) : execK E cf lf 46 k27_3 T h (finK E [.tmp 6, .tmp 7]) = p27_3 cf lf h := by kernel_rfl
def p27_13 (cf : CallF) (lf : Nat) (F6 : Value → Value → Value → Value → Heap → Ans) (s0 : Value) (s1 : Value) (s2 : Value) (s8 : Value) (s9 : Value) (h : Heap) : Ans :=
 bindO (binA E 3 .add s9 (.int .i64 (1))) fun t30 =>
 bindO (lenA E 9 s0) fun t32 =>
 bindO (minL [t30, t32]) fun t33 =>
 bindO (sliceA E 9 s0 (some s1) (some s9) h) fun t37 =>
 bindO (binB E 9 .eql t37 s2) fun t39 =>
 condV t39 (
  bindO (sliceA E 9 s0 (some s8) (some s1) h) fun t43 =>
  some (.ret (.tuple ⟨[t43, t33]⟩), h)
 ) (
  F6 s0 t33 s2 s8 h
 )
theorem p27_13_ok (cf : CallF) (lf : Nat) (F6 : Value → Value → Value → Value → Heap → Ans) (T : Tmps) (h : Heap) : execK E cf lf 46 k27_13 T h (blockK 1 (seqK (fun T h => F6 (T 0) (T 1) (T 2) (T 8) h) (blockK 0 (seqK (fun T h => p27_3 cf lf h) (finK E [.tmp 6, .tmp 7]))))) = p27_13 cf lf F6 (T 0) (T 1) (T 2) (T 8) (T 9) h := by kernel_rfl
def p27_22 (cf : CallF) (lf : Nat) (F6 : Value → Value → Value → Value → Heap → Ans) (F21 : Value → Value → Value → Value → Value → Heap → Ans) (s0 : Value) (s1 : Value) (s2 : Value) (s8 : Value) (s9 : Value) (h : Heap) : Ans :=
 bindO (lenA E 9 s0) fun t19 =>
 bindO (binB E 3 .lss s9 t19) fun t20 =>
 bindO (gO (boolIs true t20) (some s0)) fun t22 =>
 bindO (gO (boolIs true t20) (some s9)) fun t23 =>
 bindO (gO (boolIs true t20) (indexA E 9 t22 t23)) fun t24 =>
 bindO (gO (boolIs true t20) (binA E 5 .neq t24 (.int .u8 (10)))) fun t25 =>
 bindO (pickA t20 t25 (.bool false)) fun t26 =>
 condV t26 (
  bindO (binA E 3 .add s9 (.int .i64 (1))) fun t28 =>
  F21 s0 s1 s2 s8 t28 h
 ) (
  p27_13 cf lf F6 s0 s1 s2 s8 s9 h
 )
theorem p27_22_ok (cf : CallF) (lf : Nat) (F6 : Value → Value → Value → Value → Heap → Ans) (F21 : Value → Value → Value → Value → Value → Heap → Ans) (T : Tmps) (h : Heap) : execK E cf lf 46 k27_22 T h (seqK (fun T h => F21 (T 0) (T 1) (T 2) (T 8) (T 9) h) (blockK 2 (seqK (fun T h => p27_13 cf lf F6 (T 0) (T 1) (T 2) (T 8) (T 9) h) (blockK 1 (seqK (fun T h => F6 (T 0) (T 1) (T 2) (T 8) h) (blockK 0 (seqK (fun T h => p27_3 cf lf h) (finK E [.tmp 6, .tmp 7])))))))) = p27_22 cf lf F6 F21 (T 0) (T 1) (T 2) (T 8) (T 9) h := by kernel_rfl
def l27_21 (cf : CallF) (lf : Nat) (F6 : Value → Value → Value → Value → Heap → Ans) : Nat → Value → Value → Value → Value → Value → Heap → Ans
 | 0, _, _, _, _, _, _ => none
 | n + 1, s0, s1, s2, s8, s9, h => p27_22 cf lf F6 (l27_21 cf lf F6 n) s0 s1 s2 s8 s9 h
theorem l27_21_ok (cf : CallF) (lf : Nat) (F6 : Value → Value → Value → Value → Heap → Ans) (n : Nat) : ∀ (T : Tmps) (h : Heap), iterK (fun T h K => execK E cf lf 46 k27_22 T h K) (blockK 2 (seqK (fun T h => p27_13 cf lf F6 (T 0) (T 1) (T 2) (T 8) (T 9) h) (blockK 1 (seqK (fun T h => F6 (T 0) (T 1) (T 2) (T 8) h) (blockK 0 (seqK (fun T h => p27_3 cf lf h) (finK E [.tmp 6, .tmp 7]))))))) n T h = l27_21 cf lf F6 n (T 0) (T 1) (T 2) (T 8) (T 9) h := by
 induction n with
 | zero => intro T h; rfl
 | succ n ih =>
  intro T h
  rw [iterK_succ, show iterK (fun T h K => execK E cf lf 46 k27_22 T h K) (blockK 2 (seqK (fun T h => p27_13 cf lf F6 (T 0) (T 1) (T 2) (T 8) (T 9) h) (blockK 1 (seqK (fun T h => F6 (T 0) (T 1) (T 2) (T 8) h) (blockK 0 (seqK (fun T h => p27_3 cf lf h) (finK E [.tmp 6, .tmp 7]))))))) n = (fun T h => l27_21 cf lf F6 n (T 0) (T 1) (T 2) (T 8) (T 9) h) from funext fun T => funext fun h => ih T h]
  exact p27_22_ok cf lf F6 (l27_21 cf lf F6 n) T h
def p27_7 (cf : CallF) (lf : Nat) (F6 : Value → Value → Value → Value → Heap → Ans) (s0 : Value) (s1 : Value) (s2 : Value) (s8 : Value) (h : Heap) : Ans :=
 bindO (lenA E 9 s0) fun t14 =>
 bindO (binB E 3 .lss s1 t14) fun t15 =>
 condV t15 (
  l27_21 cf lf F6 lf s0 s1 s2 s8 s1 h
 ) (
  p27_3 cf lf h
 )
theorem p27_7_ok (cf : CallF) (lf : Nat) (F6 : Value → Value → Value → Value → Heap → Ans) (T : Tmps) (h : Heap) : execK E cf lf 46 k27_7 T h (seqK (fun T h => F6 (T 0) (T 1) (T 2) (T 8) h) (blockK 0 (seqK (fun T h => p27_3 cf lf h) (finK E [.tmp 6, .tmp 7])))) = p27_7 cf lf F6 (T 0) (T 1) (T 2) (T 8) h := by simp only [k27_10, k27_11, k27_12, k27_20, k27_21, k27_7, k27_8, k27_9, execK_all, l27_21_ok, p27_13_ok]; delta p27_7; generalize l27_21 = G0; generalize p27_13 = G1; as_aux_lemma => kernel_rfl
def l27_6 (cf : CallF) (lf : Nat) : Nat → Value → Value → Value → Value → Heap → Ans
 | 0, _, _, _, _, _ => none
 | n + 1, s0, s1, s2, s8, h => p27_7 cf lf (l27_6 cf lf n) s0 s1 s2 s8 h
theorem l27_6_ok (cf : CallF) (lf : Nat) (n : Nat) : ∀ (T : Tmps) (h : Heap), iterK (fun T h K => execK E cf lf 46 k27_7 T h K) (blockK 0 (seqK (fun T h => p27_3 cf lf h) (finK E [.tmp 6, .tmp 7]))) n T h = l27_6 cf lf n (T 0) (T 1) (T 2) (T 8) h := by
 induction n with
 | zero => intro T h; rfl
 | succ n ih =>
  intro T h
  rw [iterK_succ, show iterK (fun T h K => execK E cf lf 46 k27_7 T h K) (blockK 0 (seqK (fun T h => p27_3 cf lf h) (finK E [.tmp 6, .tmp 7]))) n = (fun T h => l27_6 cf lf n (T 0) (T 1) (T 2) (T 8) h) from funext fun T => funext fun h => ih T h]
  exact p27_7_ok cf lf (l27_6 cf lf n) T h
def p27_0 (cf : CallF) (lf : Nat) (s0 : Value) (s1 : Value) (s2 : Value) (h : Heap) : Ans :=
 l27_6 cf lf lf s0 s1 s2 s1 h
theorem p27_0_ok (cf : CallF) (lf : Nat) (T : Tmps) (h : Heap) : execK E cf lf 46 k27_0 T h (finK E [.tmp 6, .tmp 7]) = p27_0 cf lf (T 0) (T 1) (T 2) h := by simp only [k27_0, k27_1, k27_2, k27_5, k27_6, execK_all, l27_6_ok, p27_3_ok]; delta p27_0; generalize l27_6 = G0; generalize p27_3 = G1; as_aux_lemma => kernel_rfl
def f27 (cf : CallF) (lf : Nat) (a0 : Value) (a1 : Value) (a2 : Value) (h : Heap) : Ans := p27_0 cf lf a0 a1 a2 h
theorem f27_ok (cf : CallF) (lf : Nat) (a0 a1 a2 : Value) (h : Heap) : stepN E cf lf 27 [a0, a1, a2] h = f27 cf lf a0 a1 a2 h := (show stepN E cf lf 27 [a0, a1, a2] h = execK E cf lf 46 k27_0 (T0 [a0, a1, a2]) h (finK E [.tmp 6, .tmp 7]) by kernel_rfl).trans ((p27_0_ok cf lf (T0 [a0, a1, a2]) h).trans (by kernel_rfl))
def f28 (cf : CallF) (lf : Nat) (a0 : Value) (h : Heap) : Ans :=
 bindR (valR (allocA E 29 h)) (fun v h => some (.panic v, h)) fun t2 h =>
 bindO (buildA E 29 [(0, (.int .i64 (19))), (1, a0)]) fun t4 =>
 bindR (skipR (storeA E 29 t2 t4 h)) (fun v h => some (.panic v, h)) fun _ h =>
 bindO (loadA E 29 t2 h) fun tr2 =>
 some (.ret tr2, h)
theorem f28_ok (cf : CallF) (lf : Nat) (a0 : Value) (h : Heap) : stepN E cf lf 28 [a0] h = f28 cf lf a0 h := by kernel_rfl
noncomputable def kc29 := codeOf Tryd.f29
def k29_210 := cp kc29 [1, 1, 1, 1, 1, 0, 0, 0, 1, 1, 1, 1, 1, 1, 1, 1, 1, 1, 1, 0, 1, 1, 1, 1, 1, 1, 1, 0, 1, 1, 1, 0, 1, 0, 0]
def k29_78 := cp kc29 [1, 1, 1, 1, 1, 0, 0, 0, 1, 1, 1, 1, 1, 1, 1, 1, 1, 1, 1, 0, 1, 1, 1, 1, 1, 1, 1, 0, 1, 1, 1, 0, 1, 0, 1]
def k29_212 := cp kc29 [1, 1, 1, 1, 1, 0, 0, 0, 1, 1, 1, 1, 1, 1, 1, 1, 1, 1, 1, 0, 1, 1, 1, 1, 1, 1, 1, 0, 1, 1, 1, 1, 0, 1, 0]
def k29_213 := cp kc29 [1, 1, 1, 1, 1, 0, 0, 0, 1, 1, 1, 1, 1, 1, 1, 1, 1, 1, 1, 0, 1, 1, 1, 1, 1, 1, 1, 0, 1, 1, 1, 1, 0, 1, 1]
def k29_207 := cp kc29 [1, 1, 1, 1, 1, 0, 0, 0, 1, 1, 1, 1, 1, 1, 1, 1, 1, 1, 1, 0, 1, 1, 1, 1, 1, 1, 1, 0, 1, 1, 0, 1, 0, 0]
def k29_73 := cp kc29 [1, 1, 1, 1, 1, 0, 0, 0, 1, 1, 1, 1, 1, 1, 1, 1, 1, 1, 1, 0, 1, 1, 1, 1, 1, 1, 1, 0, 1, 1, 0, 1, 0, 1]
def k29_77 : Code := .seq k29_210 k29_78
def k29_209 := cp kc29 [1, 1, 1, 1, 1, 0, 0, 0, 1, 1, 1, 1, 1, 1, 1, 1, 1, 1, 1, 0, 1, 1, 1, 1, 1, 1, 1, 0, 1, 1, 1, 0, 1, 1]
def k29_211 := cp kc29 [1, 1, 1, 1, 1, 0, 0, 0, 1, 1, 1, 1, 1, 1, 1, 1, 1, 1, 1, 0, 1, 1, 1, 1, 1, 1, 1, 0, 1, 1, 1, 1, 0, 0]
def k29_82 : Code := .cond (.tmp 308) k29_212 k29_213
def k29_214 := cp kc29 [1, 1, 1, 1, 1, 0, 0, 0, 1, 1, 1, 1, 1, 1, 1, 1, 1, 1, 1, 0, 1, 1, 1, 1, 1, 1, 1, 0, 1, 1, 1, 1, 1, 0]
def k29_80 := cp kc29 [1, 1, 1, 1, 1, 0, 0, 0, 1, 1, 1, 1, 1, 1, 1, 1, 1, 1, 1, 0, 1, 1, 1, 1, 1, 1, 1, 0, 1, 1, 1, 1, 1, 1]
def k29_193 := cp kc29 [1, 1, 1, 1, 1, 0, 0, 0, 1, 1, 1, 1, 1, 1, 1, 1, 1, 1, 1, 0, 1, 1, 1, 1, 1, 0, 1, 0, 0, 0, 0, 1, 0]
def k29_194 := cp kc29 [1, 1, 1, 1, 1, 0, 0, 0, 1, 1, 1, 1, 1, 1, 1, 1, 1, 1, 1, 0, 1, 1, 1, 1, 1, 0, 1, 0, 0, 0, 0, 1, 1]
def k29_72 : Code := .seq k29_207 k29_73
def k29_206 := cp kc29 [1, 1, 1, 1, 1, 0, 0, 0, 1, 1, 1, 1, 1, 1, 1, 1, 1, 1, 1, 0, 1, 1, 1, 1, 1, 1, 1, 0, 1, 1, 0, 1, 1]
def k29_208 := cp kc29 [1, 1, 1, 1, 1, 0, 0, 0, 1, 1, 1, 1, 1, 1, 1, 1, 1, 1, 1, 0, 1, 1, 1, 1, 1, 1, 1, 0, 1, 1, 1, 0, 0]
def k29_76 : Code := .cond (.tmp 302) k29_77 k29_209
def k29_81 : Code := .seq k29_211 k29_82
def k29_79 : Code := .seq k29_214 k29_80
def k29_192 := cp kc29 [1, 1, 1, 1, 1, 0, 0, 0, 1, 1, 1, 1, 1, 1, 1, 1, 1, 1, 1, 0, 1, 1, 1, 1, 1, 0, 1, 0, 0, 0, 0, 0]
def k29_59 : Code := .cond (.tmp 257) k29_193 k29_194
def k29_195 := cp kc29 [1, 1, 1, 1, 1, 0, 0, 0, 1, 1, 1, 1, 1, 1, 1, 1, 1, 1, 1, 0, 1, 1, 1, 1, 1, 0, 1, 0, 0, 0, 1, 0]
def k29_198 := cp kc29 [1, 1, 1, 1, 1, 0, 0, 0, 1, 1, 1, 1, 1, 1, 1, 1, 1, 1, 1, 0, 1, 1, 1, 1, 1, 0, 1, 1, 0, 1, 0, 0]
def k29_52 := cp kc29 [1, 1, 1, 1, 1, 0, 0, 0, 1, 1, 1, 1, 1, 1, 1, 1, 1, 1, 1, 0, 1, 1, 1, 1, 1, 0, 1, 1, 0, 1, 0, 1]
def k29_203 := cp kc29 [1, 1, 1, 1, 1, 0, 0, 0, 1, 1, 1, 1, 1, 1, 1, 1, 1, 1, 1, 0, 1, 1, 1, 1, 1, 1, 1, 0, 0, 1, 0, 0]
def k29_67 := cp kc29 [1, 1, 1, 1, 1, 0, 0, 0, 1, 1, 1, 1, 1, 1, 1, 1, 1, 1, 1, 0, 1, 1, 1, 1, 1, 1, 1, 0, 0, 1, 0, 1]
def k29_205 := cp kc29 [1, 1, 1, 1, 1, 0, 0, 0, 1, 1, 1, 1, 1, 1, 1, 1, 1, 1, 1, 0, 1, 1, 1, 1, 1, 1, 1, 0, 1, 1, 0, 0]
def k29_71 : Code := .cond (.tmp 296) k29_72 k29_206
def k29_75 : Code := .seq k29_208 k29_76
def k29_74 : Code := .seq k29_81 k29_79
def k29_58 : Code := .seq k29_192 k29_59
def k29_57 : Code := .block 4 k29_195
def k29_51 : Code := .seq k29_198 k29_52
def k29_197 := cp kc29 [1, 1, 1, 1, 1, 0, 0, 0, 1, 1, 1, 1, 1, 1, 1, 1, 1, 1, 1, 0, 1, 1, 1, 1, 1, 0, 1, 1, 0, 1, 1]
def k29_66 : Code := .seq k29_203 k29_67
def k29_202 := cp kc29 [1, 1, 1, 1, 1, 0, 0, 0, 1, 1, 1, 1, 1, 1, 1, 1, 1, 1, 1, 0, 1, 1, 1, 1, 1, 1, 1, 0, 0, 1, 1]
def k29_70 : Code := .seq k29_205 k29_71
def k29_69 : Code := .seq k29_75 k29_74
def k29_56 : Code := .seq k29_58 k29_57
def k29_196 := cp kc29 [1, 1, 1, 1, 1, 0, 0, 0, 1, 1, 1, 1, 1, 1, 1, 1, 1, 1, 1, 0, 1, 1, 1, 1, 1, 0, 1, 1, 0, 0]
def k29_50 : Code := .cond (.tmp 263) k29_51 k29_197
def k29_199 := cp kc29 [1, 1, 1, 1, 1, 0, 0, 0, 1, 1, 1, 1, 1, 1, 1, 1, 1, 1, 1, 0, 1, 1, 1, 1, 1, 0, 1, 1, 1, 0]
def k29_53 := cp kc29 [1, 1, 1, 1, 1, 0, 0, 0, 1, 1, 1, 1, 1, 1, 1, 1, 1, 1, 1, 0, 1, 1, 1, 1, 1, 0, 1, 1, 1, 1]
def k29_201 := cp kc29 [1, 1, 1, 1, 1, 0, 0, 0, 1, 1, 1, 1, 1, 1, 1, 1, 1, 1, 1, 0, 1, 1, 1, 1, 1, 1, 1, 0, 0, 0]
def k29_65 : Code := .cond (.tmp 281) k29_66 k29_202
def k29_204 := cp kc29 [1, 1, 1, 1, 1, 0, 0, 0, 1, 1, 1, 1, 1, 1, 1, 1, 1, 1, 1, 0, 1, 1, 1, 1, 1, 1, 1, 0, 1, 0]
def k29_68 : Code := .seq k29_70 k29_69
def k29_55 : Code := .loop k29_56
def k29_49 : Code := .seq k29_196 k29_50
def k29_48 : Code := .seq k29_199 k29_53
def k29_64 : Code := .seq k29_201 k29_65
def k29_63 : Code := .seq k29_204 k29_68
def k29_215 := cp kc29 [1, 1, 1, 1, 1, 0, 0, 0, 1, 1, 1, 1, 1, 1, 1, 1, 1, 1, 1, 0, 1, 1, 1, 1, 1, 1, 1, 1, 0]
def k29_84 := cp kc29 [1, 1, 1, 1, 1, 0, 0, 0, 1, 1, 1, 1, 1, 1, 1, 1, 1, 1, 1, 0, 1, 1, 1, 1, 1, 1, 1, 1, 1]
def k29_188 := cp kc29 [1, 1, 1, 1, 1, 0, 0, 0, 1, 1, 1, 1, 1, 1, 1, 1, 1, 1, 1, 0, 1, 1, 1, 0, 0, 1, 0, 0]
def k29_42 := cp kc29 [1, 1, 1, 1, 1, 0, 0, 0, 1, 1, 1, 1, 1, 1, 1, 1, 1, 1, 1, 0, 1, 1, 1, 0, 0, 1, 0, 1]
def k29_54 : Code := .block 3 k29_55
def k29_47 : Code := .seq k29_49 k29_48
def k29_62 : Code := .seq k29_64 k29_63
def k29_83 : Code := .seq k29_215 k29_84
def k29_41 : Code := .seq k29_188 k29_42
def k29_187 := cp kc29 [1, 1, 1, 1, 1, 0, 0, 0, 1, 1, 1, 1, 1, 1, 1, 1, 1, 1, 1, 0, 1, 1, 1, 0, 0, 1, 1]
def k29_191 := cp kc29 [1, 1, 1, 1, 1, 0, 0, 0, 1, 1, 1, 1, 1, 1, 1, 1, 1, 1, 1, 0, 1, 1, 1, 1, 1, 0, 0]
def k29_46 : Code := .seq k29_54 k29_47
def k29_200 := cp kc29 [1, 1, 1, 1, 1, 0, 0, 0, 1, 1, 1, 1, 1, 1, 1, 1, 1, 1, 1, 0, 1, 1, 1, 1, 1, 1, 0]
def k29_61 : Code := .cond (.tmp 278) k29_62 k29_83
def k29_169 := cp kc29 [1, 1, 1, 1, 1, 0, 0, 0, 1, 1, 1, 1, 1, 1, 1, 0, 1, 0, 1, 1, 0, 1, 0, 1, 1, 0]
def k29_110 := cp kc29 [1, 1, 1, 1, 1, 0, 0, 0, 1, 1, 1, 1, 1, 1, 1, 0, 1, 0, 1, 1, 0, 1, 0, 1, 1, 1]
def k29_186 := cp kc29 [1, 1, 1, 1, 1, 0, 0, 0, 1, 1, 1, 1, 1, 1, 1, 1, 1, 1, 1, 0, 1, 1, 1, 0, 0, 0]
def k29_40 : Code := .cond (.tmp 228) k29_41 k29_187
def k29_189 := cp kc29 [1, 1, 1, 1, 1, 0, 0, 0, 1, 1, 1, 1, 1, 1, 1, 1, 1, 1, 1, 0, 1, 1, 1, 0, 1, 0]
def k29_38 := cp kc29 [1, 1, 1, 1, 1, 0, 0, 0, 1, 1, 1, 1, 1, 1, 1, 1, 1, 1, 1, 0, 1, 1, 1, 0, 1, 1]
def k29_45 : Code := .seq k29_191 k29_46
def k29_60 : Code := .seq k29_200 k29_61
def k29_168 := cp kc29 [1, 1, 1, 1, 1, 0, 0, 0, 1, 1, 1, 1, 1, 1, 1, 0, 1, 0, 1, 1, 0, 1, 0, 1, 0]
def k29_109 : Code := .seq k29_169 k29_110
def k29_39 : Code := .seq k29_186 k29_40
def k29_37 : Code := .seq k29_189 k29_38
def k29_190 := cp kc29 [1, 1, 1, 1, 1, 0, 0, 0, 1, 1, 1, 1, 1, 1, 1, 1, 1, 1, 1, 0, 1, 1, 1, 1, 0]
def k29_44 : Code := .cond (.tmp 244) k29_45 k29_60
def k29_167 := cp kc29 [1, 1, 1, 1, 1, 0, 0, 0, 1, 1, 1, 1, 1, 1, 1, 0, 1, 0, 1, 1, 0, 1, 0, 0]
def k29_108 : Code := .seq k29_168 k29_109
def k29_36 : Code := .seq k29_39 k29_37
def k29_43 : Code := .seq k29_190 k29_44
def k29_164 := cp kc29 [1, 1, 1, 1, 1, 0, 0, 0, 1, 1, 1, 1, 1, 1, 1, 0, 1, 0, 1, 0, 1, 0, 0]
def k29_102 := cp kc29 [1, 1, 1, 1, 1, 0, 0, 0, 1, 1, 1, 1, 1, 1, 1, 0, 1, 0, 1, 0, 1, 0, 1]
def k29_107 : Code := .seq k29_167 k29_108
def k29_166 := cp kc29 [1, 1, 1, 1, 1, 0, 0, 0, 1, 1, 1, 1, 1, 1, 1, 0, 1, 0, 1, 1, 0, 1, 1]
def k29_175 := cp kc29 [1, 1, 1, 1, 1, 0, 0, 0, 1, 1, 1, 1, 1, 1, 1, 1, 0, 1, 0, 1, 0, 1, 0]
def k29_176 := cp kc29 [1, 1, 1, 1, 1, 0, 0, 0, 1, 1, 1, 1, 1, 1, 1, 1, 0, 1, 0, 1, 0, 1, 1]
def k29_178 := cp kc29 [1, 1, 1, 1, 1, 0, 0, 0, 1, 1, 1, 1, 1, 1, 1, 1, 0, 1, 0, 1, 1, 1, 0]
def k29_91 := cp kc29 [1, 1, 1, 1, 1, 0, 0, 0, 1, 1, 1, 1, 1, 1, 1, 1, 0, 1, 0, 1, 1, 1, 1]
def k29_184 := cp kc29 [1, 1, 1, 1, 1, 0, 0, 0, 1, 1, 1, 1, 1, 1, 1, 1, 1, 1, 1, 0, 1, 0, 0]
def k29_33 := cp kc29 [1, 1, 1, 1, 1, 0, 0, 0, 1, 1, 1, 1, 1, 1, 1, 1, 1, 1, 1, 0, 1, 0, 1]
def k29_185 := cp kc29 [1, 1, 1, 1, 1, 0, 0, 0, 1, 1, 1, 1, 1, 1, 1, 1, 1, 1, 1, 0, 1, 1, 0]
def k29_35 : Code := .cond (.tmp 222) k29_36 k29_43
def k29_101 : Code := .seq k29_164 k29_102
def k29_163 := cp kc29 [1, 1, 1, 1, 1, 0, 0, 0, 1, 1, 1, 1, 1, 1, 1, 0, 1, 0, 1, 0, 1, 1]
def k29_165 := cp kc29 [1, 1, 1, 1, 1, 0, 0, 0, 1, 1, 1, 1, 1, 1, 1, 0, 1, 0, 1, 1, 0, 0]
def k29_106 : Code := .cond (.tmp 187) k29_107 k29_166
def k29_170 := cp kc29 [1, 1, 1, 1, 1, 0, 0, 0, 1, 1, 1, 1, 1, 1, 1, 0, 1, 0, 1, 1, 1, 0]
def k29_104 := cp kc29 [1, 1, 1, 1, 1, 0, 0, 0, 1, 1, 1, 1, 1, 1, 1, 0, 1, 0, 1, 1, 1, 1]
def k29_174 := cp kc29 [1, 1, 1, 1, 1, 0, 0, 0, 1, 1, 1, 1, 1, 1, 1, 1, 0, 1, 0, 1, 0, 0]
def k29_93 : Code := .cond (.tmp 195) k29_175 k29_176
def k29_177 := cp kc29 [1, 1, 1, 1, 1, 0, 0, 0, 1, 1, 1, 1, 1, 1, 1, 1, 0, 1, 0, 1, 1, 0]
def k29_90 : Code := .seq k29_178 k29_91
def k29_32 : Code := .seq k29_184 k29_33
def k29_34 : Code := .seq k29_185 k29_35
def k29_156 := cp kc29 [1, 1, 1, 1, 1, 0, 0, 0, 1, 1, 1, 1, 0, 1, 0, 1, 1, 1, 1, 1, 0]
def k29_123 := cp kc29 [1, 1, 1, 1, 1, 0, 0, 0, 1, 1, 1, 1, 0, 1, 0, 1, 1, 1, 1, 1, 1]
def k29_162 := cp kc29 [1, 1, 1, 1, 1, 0, 0, 0, 1, 1, 1, 1, 1, 1, 1, 0, 1, 0, 1, 0, 0]
def k29_100 : Code := .cond (.tmp 183) k29_101 k29_163
def k29_105 : Code := .seq k29_165 k29_106
def k29_103 : Code := .seq k29_170 k29_104
def k29_92 : Code := .seq k29_174 k29_93
def k29_89 : Code := .seq k29_177 k29_90
def k29_181 := cp kc29 [1, 1, 1, 1, 1, 0, 0, 0, 1, 1, 1, 1, 1, 1, 1, 1, 1, 0, 1, 0, 0]
def k29_28 := cp kc29 [1, 1, 1, 1, 1, 0, 0, 0, 1, 1, 1, 1, 1, 1, 1, 1, 1, 0, 1, 0, 1]
def k29_183 := cp kc29 [1, 1, 1, 1, 1, 0, 0, 0, 1, 1, 1, 1, 1, 1, 1, 1, 1, 1, 1, 0, 0]
def k29_31 : Code := .cond (.tmp 213) k29_32 k29_34
def k29_152 := cp kc29 [1, 1, 1, 1, 1, 0, 0, 0, 1, 1, 1, 1, 0, 1, 0, 1, 1, 0, 1, 0]
def k29_153 := cp kc29 [1, 1, 1, 1, 1, 0, 0, 0, 1, 1, 1, 1, 0, 1, 0, 1, 1, 0, 1, 1]
def k29_155 := cp kc29 [1, 1, 1, 1, 1, 0, 0, 0, 1, 1, 1, 1, 0, 1, 0, 1, 1, 1, 1, 0]
def k29_122 : Code := .seq k29_156 k29_123
def k29_99 : Code := .seq k29_162 k29_100
def k29_98 : Code := .seq k29_105 k29_103
def k29_173 := cp kc29 [1, 1, 1, 1, 1, 0, 0, 0, 1, 1, 1, 1, 1, 1, 1, 1, 0, 1, 0, 0]
def k29_88 : Code := .seq k29_92 k29_89
def k29_27 : Code := .seq k29_181 k29_28
def k29_180 := cp kc29 [1, 1, 1, 1, 1, 0, 0, 0, 1, 1, 1, 1, 1, 1, 1, 1, 1, 0, 1, 1]
def k29_30 : Code := .seq k29_183 k29_31
def k29_149 := cp kc29 [1, 1, 1, 1, 1, 0, 0, 0, 1, 1, 1, 1, 0, 1, 0, 0, 1, 0, 0]
def k29_118 := cp kc29 [1, 1, 1, 1, 1, 0, 0, 0, 1, 1, 1, 1, 0, 1, 0, 0, 1, 0, 1]
def k29_151 := cp kc29 [1, 1, 1, 1, 1, 0, 0, 0, 1, 1, 1, 1, 0, 1, 0, 1, 1, 0, 0]
def k29_125 : Code := .cond (.tmp 151) k29_152 k29_153
def k29_154 := cp kc29 [1, 1, 1, 1, 1, 0, 0, 0, 1, 1, 1, 1, 0, 1, 0, 1, 1, 1, 0]
def k29_121 : Code := .seq k29_155 k29_122
def k29_161 := cp kc29 [1, 1, 1, 1, 1, 0, 0, 0, 1, 1, 1, 1, 1, 1, 1, 0, 1, 0, 0]
def k29_97 : Code := .seq k29_99 k29_98
def k29_87 : Code := .seq k29_173 k29_88
def k29_172 := cp kc29 [1, 1, 1, 1, 1, 0, 0, 0, 1, 1, 1, 1, 1, 1, 1, 1, 0, 1, 1]
def k29_179 := cp kc29 [1, 1, 1, 1, 1, 0, 0, 0, 1, 1, 1, 1, 1, 1, 1, 1, 1, 0, 0]
def k29_26 : Code := .cond (.tmp 203) k29_27 k29_180
def k29_182 := cp kc29 [1, 1, 1, 1, 1, 0, 0, 0, 1, 1, 1, 1, 1, 1, 1, 1, 1, 1, 0]
def k29_29 : Code := .block 2 k29_30
def k29_117 : Code := .seq k29_149 k29_118
def k29_148 := cp kc29 [1, 1, 1, 1, 1, 0, 0, 0, 1, 1, 1, 1, 0, 1, 0, 0, 1, 1]
def k29_124 : Code := .seq k29_151 k29_125
def k29_120 : Code := .seq k29_154 k29_121
def k29_96 : Code := .seq k29_161 k29_97
def k29_160 := cp kc29 [1, 1, 1, 1, 1, 0, 0, 0, 1, 1, 1, 1, 1, 1, 1, 0, 1, 1]
def k29_171 := cp kc29 [1, 1, 1, 1, 1, 0, 0, 0, 1, 1, 1, 1, 1, 1, 1, 1, 0, 0]
def k29_86 : Code := .cond (.tmp 194) k29_87 k29_172
def k29_25 : Code := .seq k29_179 k29_26
def k29_24 : Code := .seq k29_182 k29_29
def k29_147 := cp kc29 [1, 1, 1, 1, 1, 0, 0, 0, 1, 1, 1, 1, 0, 1, 0, 0, 0]
def k29_116 : Code := .cond (.tmp 125) k29_117 k29_148
def k29_150 := cp kc29 [1, 1, 1, 1, 1, 0, 0, 0, 1, 1, 1, 1, 0, 1, 0, 1, 0]
def k29_119 : Code := .seq k29_124 k29_120
def k29_159 := cp kc29 [1, 1, 1, 1, 1, 0, 0, 0, 1, 1, 1, 1, 1, 1, 1, 0, 0]
def k29_95 : Code := .cond (.tmp 171) k29_96 k29_160
def k29_85 : Code := .seq k29_171 k29_86
def k29_23 : Code := .seq k29_25 k29_24
def k29_141 := cp kc29 [1, 1, 1, 1, 1, 0, 0, 0, 1, 1, 0, 1, 0, 1, 1, 0]
def k29_17 := cp kc29 [1, 1, 1, 1, 1, 0, 0, 0, 1, 1, 0, 1, 0, 1, 1, 1]
def k29_115 : Code := .seq k29_147 k29_116
def k29_114 : Code := .seq k29_150 k29_119
def k29_94 : Code := .seq k29_159 k29_95
def k29_22 : Code := .seq k29_85 k29_23
def k29_140 := cp kc29 [1, 1, 1, 1, 1, 0, 0, 0, 1, 1, 0, 1, 0, 1, 0]
def k29_16 : Code := .seq k29_141 k29_17
def k29_144 := cp kc29 [1, 1, 1, 1, 1, 0, 0, 0, 1, 1, 1, 0, 1, 0, 0]
def k29_129 := cp kc29 [1, 1, 1, 1, 1, 0, 0, 0, 1, 1, 1, 0, 1, 0, 1]
def k29_113 : Code := .seq k29_115 k29_114
def k29_146 := cp kc29 [1, 1, 1, 1, 1, 0, 0, 0, 1, 1, 1, 1, 0, 1, 1]
def k29_158 := cp kc29 [1, 1, 1, 1, 1, 0, 0, 0, 1, 1, 1, 1, 1, 1, 0]
def k29_21 : Code := .seq k29_94 k29_22
def k29_139 := cp kc29 [1, 1, 1, 1, 1, 0, 0, 0, 1, 1, 0, 1, 0, 0]
def k29_15 : Code := .seq k29_140 k29_16
def k29_128 : Code := .seq k29_144 k29_129
def k29_143 := cp kc29 [1, 1, 1, 1, 1, 0, 0, 0, 1, 1, 1, 0, 1, 1]
def k29_145 := cp kc29 [1, 1, 1, 1, 1, 0, 0, 0, 1, 1, 1, 1, 0, 0]
def k29_112 : Code := .cond (.tmp 120) k29_113 k29_146
def k29_157 := cp kc29 [1, 1, 1, 1, 1, 0, 0, 0, 1, 1, 1, 1, 1, 0]
def k29_20 : Code := .seq k29_158 k29_21
def k29_14 : Code := .seq k29_139 k29_15
def k29_138 := cp kc29 [1, 1, 1, 1, 1, 0, 0, 0, 1, 1, 0, 1, 1]
def k29_142 := cp kc29 [1, 1, 1, 1, 1, 0, 0, 0, 1, 1, 1, 0, 0]
def k29_127 : Code := .cond (.tmp 107) k29_128 k29_143
def k29_111 : Code := .seq k29_145 k29_112
def k29_19 : Code := .seq k29_157 k29_20
def k29_137 := cp kc29 [1, 1, 1, 1, 1, 0, 0, 0, 1, 1, 0, 0]
def k29_13 : Code := .cond (.tmp 91) k29_14 k29_138
def k29_126 : Code := .seq k29_142 k29_127
def k29_18 : Code := .seq k29_111 k29_19
def k29_12 : Code := .seq k29_137 k29_13
def k29_11 : Code := .seq k29_126 k29_18
def k29_136 := cp kc29 [1, 1, 1, 1, 1, 0, 0, 0, 1, 0]
def k29_10 : Code := .seq k29_12 k29_11
def k29_135 := cp kc29 [1, 1, 1, 1, 1, 0, 0, 0, 0]
def k29_9 : Code := .seq k29_136 k29_10
def k29_8 : Code := .seq k29_135 k29_9
def k29_7 : Code := .block 1 k29_8
def k29_6 : Code := .loop k29_7
def k29_134 := cp kc29 [1, 1, 1, 1, 0]
def k29_5 : Code := .block 0 k29_6
def k29_133 := cp kc29 [1, 1, 1, 0]
def k29_4 : Code := .seq k29_134 k29_5
def k29_132 := cp kc29 [1, 1, 0]
def k29_3 : Code := .seq k29_133 k29_4
def k29_131 := cp kc29 [1, 0]
def k29_2 : Code := .seq k29_132 k29_3
def k29_130 := cp kc29 [0]
def k29_1 : Code := .seq k29_131 k29_2
def k29_0 : Code := .seq k29_130 k29_1
def p29_37 (cf : CallF) (lf : Nat) (F6 : Value → Value → Value → Value → Value → Value → Value → Value → Value → Heap → Ans) (s0 : Value) (s1 : Value) (s2 : Value) (s3 : Value) (s10 : Value) (s11 : Value) (s12 : Value) (s13 : Value) (s14 : Value) (h : Heap) : Ans :=
 bindO (binA E 3 .add s1 (.int .i64 (1))) fun t235 =>
 bindO (binA E 3 .add s1 (.int .i64 (2))) fun t237 =>
 bindO (sliceA E 9 s0 (some t235) (some t237) h) fun t238 =>
 bindO (buildA E 49 [(0, (.int .i64 (1))), (1, t238)]) fun t239 =>
 bindR (valR (buildSliceA E 37 1 [(0, t239)] h)) (fun v h => some (.panic v, h)) fun t240 h =>
 bindR (valR (appendA E 37 s11 t240 h)) (fun v h => some (.panic v, h)) fun t241 h =>
 bindO (binA E 3 .add s1 (.int .i64 (2))) fun t243 =>
 F6 s0 t243 s2 s3 s10 t241 s12 s13 s14 h
theorem p29_37_ok (cf : CallF) (lf : Nat) (F6 : Value → Value → Value → Value → Value → Value → Value → Value → Value → Heap → Ans) (T : Tmps) (h : Heap) : execK E cf lf 316 k29_37 T h (blockK 2 (blockK 1 (seqK (fun T h => F6 (T 0) (T 1) (T 2) (T 3) (T 10) (T 11) (T 12) (T 13) (T 14) h) (blockK 0 (finK E [.tmp 8, .tmp 9, .cell 10 29]))))) = p29_37 cf lf F6 (T 0) (T 1) (T 2) (T 3) (T 10) (T 11) (T 12) (T 13) (T 14) h := by kernel_rfl
def p29_40 (cf : CallF) (lf : Nat) (F6 : Value → Value → Value → Value → Value → Value → Value → Value → Value → Heap → Ans) (s0 : Value) (s1 : Value) (s2 : Value) (s3 : Value) (s10 : Value) (s11 : Value) (s12 : Value) (s13 : Value) (s14 : Value) (s228 : Value) (h : Heap) : Ans :=
 condV s228 (
  bindR (cf 28 [s1] h) (fun v h => some (.panic v, h)) fun t231 h =>
  bindR (skipR (storeA E 29 s10 t231 h)) (fun v h => some (.panic v, h)) fun _ h =>
  bindO (loadA E 29 s10 h) fun tr10 =>
  some (.ret (.tuple ⟨[(.slice none 0 0), s1, tr10]⟩), h)
 ) (
  p29_37 cf lf F6 s0 s1 s2 s3 s10 s11 s12 s13 s14 h
 )
theorem p29_40_ok (cf : CallF) (lf : Nat) (F6 : Value → Value → Value → Value → Value → Value → Value → Value → Value → Heap → Ans) (T : Tmps) (h : Heap) : execK E cf lf 316 k29_40 T h (seqK (fun T h => p29_37 cf lf F6 (T 0) (T 1) (T 2) (T 3) (T 10) (T 11) (T 12) (T 13) (T 14) h) (blockK 2 (blockK 1 (seqK (fun T h => F6 (T 0) (T 1) (T 2) (T 3) (T 10) (T 11) (T 12) (T 13) (T 14) h) (blockK 0 (finK E [.tmp 8, .tmp 9, .cell 10 29])))))) = p29_40 cf lf F6 (T 0) (T 1) (T 2) (T 3) (T 10) (T 11) (T 12) (T 13) (T 14) (T 228) h := by kernel_rfl
def p29_47 (cf : CallF) (lf : Nat) (F6 : Value → Value → Value → Value → Value → Value → Value → Value → Value → Heap → Ans) (s0 : Value) (s1 : Value) (s2 : Value) (s3 : Value) (s10 : Value) (s11 : Value) (s12 : Value) (s13 : Value) (s14 : Value) (s24 : Value) (h : Heap) : Ans :=
 bindO (lenA E 9 s0) fun t262 =>
 bindO (binB E 3 .geq s24 t262) fun t263 =>
 condV t263 (
  bindR (cf 28 [s1] h) (fun v h => some (.panic v, h)) fun t266 h =>
  bindR (skipR (storeA E 29 s10 t266 h)) (fun v h => some (.panic v, h)) fun _ h =>
  bindO (loadA E 29 s10 h) fun tr10 =>
  some (.ret (.tuple ⟨[(.slice none 0 0), s1, tr10]⟩), h)
 ) (
  bindO (binA E 3 .add s1 (.int .i64 (1))) fun t270 =>
  bindO (sliceA E 9 s0 (some t270) (some s24) h) fun t272 =>
  bindO (buildA E 49 [(0, (.int .i64 (1))), (1, t272)]) fun t273 =>
  bindR (valR (buildSliceA E 37 1 [(0, t273)] h)) (fun v h => some (.panic v, h)) fun t274 h =>
  bindR (valR (appendA E 37 s11 t274 h)) (fun v h => some (.panic v, h)) fun t275 h =>
  bindO (binA E 3 .add s24 (.int .i64 (1))) fun t277 =>
  F6 s0 t277 s2 s3 s10 t275 s12 s13 s14 h
 )
theorem p29_47_ok (cf : CallF) (lf : Nat) (F6 : Value → Value → Value → Value → Value → Value → Value → Value → Value → Heap → Ans) (T : Tmps) (h : Heap) : execK E cf lf 316 k29_47 T h (blockK 2 (blockK 1 (seqK (fun T h => F6 (T 0) (T 1) (T 2) (T 3) (T 10) (T 11) (T 12) (T 13) (T 14) h) (blockK 0 (finK E [.tmp 8, .tmp 9, .cell 10 29]))))) = p29_47 cf lf F6 (T 0) (T 1) (T 2) (T 3) (T 10) (T 11) (T 12) (T 13) (T 14) (T 24) h := by kernel_rfl
def p29_56 (cf : CallF) (lf : Nat) (F6 : Value → Value → Value → Value → Value → Value → Value → Value → Value → Heap → Ans) (F55 : Value → Value → Value → Value → Value → Value → Value → Value → Value → Value → Heap → Ans) (s0 : Value) (s1 : Value) (s2 : Value) (s3 : Value) (s10 : Value) (s11 : Value) (s12 : Value) (s13 : Value) (s14 : Value) (s24 : Value) (h : Heap) : Ans :=
 bindO (lenA E 9 s0) fun t250 =>
 bindO (binB E 3 .lss s24 t250) fun t251 =>
 bindO (gO (boolIs true t251) (some s0)) fun t253 =>
 bindO (gO (boolIs true t251) (some s24)) fun t254 =>
 bindO (gO (boolIs true t251) (indexA E 9 t253 t254)) fun t255 =>
 bindO (gO (boolIs true t251) (binA E 5 .neq t255 (.int .u8 (39)))) fun t256 =>
 bindO (pickA t251 t256 (.bool false)) fun t257 =>
 condV t257 (
  bindO (binA E 3 .add s24 (.int .i64 (1))) fun t259 =>
  F55 s0 s1 s2 s3 s10 s11 s12 s13 s14 t259 h
 ) (
  p29_47 cf lf F6 s0 s1 s2 s3 s10 s11 s12 s13 s14 s24 h
 )
theorem p29_56_ok (cf : CallF) (lf : Nat) (F6 : Value → Value → Value → Value → Value → Value → Value → Value → Value → Heap → Ans) (F55 : Value → Value → Value → Value → Value → Value → Value → Value → Value → Value → Heap → Ans) (T : Tmps) (h : Heap) : execK E cf lf 316 k29_56 T h (seqK (fun T h => F55 (T 0) (T 1) (T 2) (T 3) (T 10) (T 11) (T 12) (T 13) (T 14) (T 24) h) (blockK 3 (seqK (fun T h => p29_47 cf lf F6 (T 0) (T 1) (T 2) (T 3) (T 10) (T 11) (T 12) (T 13) (T 14) (T 24) h) (blockK 2 (blockK 1 (seqK (fun T h => F6 (T 0) (T 1) (T 2) (T 3) (T 10) (T 11) (T 12) (T 13) (T 14) h) (blockK 0 (finK E [.tmp 8, .tmp 9, .cell 10 29])))))))) = p29_56 cf lf F6 F55 (T 0) (T 1) (T 2) (T 3) (T 10) (T 11) (T 12) (T 13) (T 14) (T 24) h := by kernel_rfl
def l29_55 (cf : CallF) (lf : Nat) (F6 : Value → Value → Value → Value → Value → Value → Value → Value → Value → Heap → Ans) : Nat → Value → Value → Value → Value → Value → Value → Value → Value → Value → Value → Heap → Ans
 | 0, _, _, _, _, _, _, _, _, _, _, _ => none
 | n + 1, s0, s1, s2, s3, s10, s11, s12, s13, s14, s24, h => p29_56 cf lf F6 (l29_55 cf lf F6 n) s0 s1 s2 s3 s10 s11 s12 s13 s14 s24 h
theorem l29_55_ok (cf : CallF) (lf : Nat) (F6 : Value → Value → Value → Value → Value → Value → Value → Value → Value → Heap → Ans) (n : Nat) : ∀ (T : Tmps) (h : Heap), iterK (fun T h K => execK E cf lf 316 k29_56 T h K) (blockK 3 (seqK (fun T h => p29_47 cf lf F6 (T 0) (T 1) (T 2) (T 3) (T 10) (T 11) (T 12) (T 13) (T 14) (T 24) h) (blockK 2 (blockK 1 (seqK (fun T h => F6 (T 0) (T 1) (T 2) (T 3) (T 10) (T 11) (T 12) (T 13) (T 14) h) (blockK 0 (finK E [.tmp 8, .tmp 9, .cell 10 29]))))))) n T h = l29_55 cf lf F6 n (T 0) (T 1) (T 2) (T 3) (T 10) (T 11) (T 12) (T 13) (T 14) (T 24) h := by
 induction n with
 | zero => intro T h; rfl
 | succ n ih =>
  intro T h
  rw [iterK_succ, show iterK (fun T h K => execK E cf lf 316 k29_56 T h K) (blockK 3 (seqK (fun T h => p29_47 cf lf F6 (T 0) (T 1) (T 2) (T 3) (T 10) (T 11) (T 12) (T 13) (T 14) (T 24) h) (blockK 2 (blockK 1 (seqK (fun T h => F6 (T 0) (T 1) (T 2) (T 3) (T 10) (T 11) (T 12) (T 13) (T 14) h) (blockK 0 (finK E [.tmp 8, .tmp 9, .cell 10 29]))))))) n = (fun T h => l29_55 cf lf F6 n (T 0) (T 1) (T 2) (T 3) (T 10) (T 11) (T 12) (T 13) (T 14) (T 24) h) from funext fun T => funext fun h => ih T h]
  exact p29_56_ok cf lf F6 (l29_55 cf lf F6 n) T h
def p29_79 (cf : CallF) (lf : Nat) (F6 : Value → Value → Value → Value → Value → Value → Value → Value → Value → Heap → Ans) (s0 : Value) (s2 : Value) (s3 : Value) (s10 : Value) (s11 : Value) (s12 : Value) (s13 : Value) (s14 : Value) (s25 : Value) (s26 : Value) (h : Heap) : Ans :=
 bindR (valR (appendA E 37 s11 s25 h)) (fun v h => some (.panic v, h)) fun t313 h =>
 bindO (binA E 3 .add s26 (.int .i64 (1))) fun t315 =>
 F6 s0 t315 s2 s3 s10 t313 s12 s13 s14 h
theorem p29_79_ok (cf : CallF) (lf : Nat) (F6 : Value → Value → Value → Value → Value → Value → Value → Value → Value → Heap → Ans) (T : Tmps) (h : Heap) : execK E cf lf 316 k29_79 T h (blockK 2 (blockK 1 (seqK (fun T h => F6 (T 0) (T 1) (T 2) (T 3) (T 10) (T 11) (T 12) (T 13) (T 14) h) (blockK 0 (finK E [.tmp 8, .tmp 9, .cell 10 29]))))) = p29_79 cf lf F6 (T 0) (T 2) (T 3) (T 10) (T 11) (T 12) (T 13) (T 14) (T 25) (T 26) h := by kernel_rfl
def p29_82 (cf : CallF) (lf : Nat) (F6 : Value → Value → Value → Value → Value → Value → Value → Value → Value → Heap → Ans) (s0 : Value) (s2 : Value) (s3 : Value) (s10 : Value) (s11 : Value) (s12 : Value) (s13 : Value) (s14 : Value) (s25 : Value) (s26 : Value) (s308 : Value) (h : Heap) : Ans :=
 condV s308 (
  bindO (buildA E 49 [(0, (.int .i64 (1))), (3, (.bool true))]) fun t309 =>
  bindR (valR (buildSliceA E 37 1 [(0, t309)] h)) (fun v h => some (.panic v, h)) fun t310 h =>
  p29_79 cf lf F6 s0 s2 s3 s10 s11 s12 s13 s14 t310 s26 h
 ) (
  p29_79 cf lf F6 s0 s2 s3 s10 s11 s12 s13 s14 s25 s26 h
 )
theorem p29_82_ok (cf : CallF) (lf : Nat) (F6 : Value → Value → Value → Value → Value → Value → Value → Value → Value → Heap → Ans) (T : Tmps) (h : Heap) : execK E cf lf 316 k29_82 T h (seqK (fun T h => p29_79 cf lf F6 (T 0) (T 2) (T 3) (T 10) (T 11) (T 12) (T 13) (T 14) (T 25) (T 26) h) (blockK 2 (blockK 1 (seqK (fun T h => F6 (T 0) (T 1) (T 2) (T 3) (T 10) (T 11) (T 12) (T 13) (T 14) h) (blockK 0 (finK E [.tmp 8, .tmp 9, .cell 10 29])))))) = p29_82 cf lf F6 (T 0) (T 2) (T 3) (T 10) (T 11) (T 12) (T 13) (T 14) (T 25) (T 26) (T 308) h := by kernel_rfl
def p29_68 (cf : CallF) (lf : Nat) (F6 : Value → Value → Value → Value → Value → Value → Value → Value → Value → Heap → Ans) (s0 : Value) (s1 : Value) (s2 : Value) (s3 : Value) (s10 : Value) (s11 : Value) (s12 : Value) (s13 : Value) (s14 : Value) (s25 : Value) (s26 : Value) (s27 : Value) (h : Heap) : Ans :=
 bindO (fieldAddrA E 29 s27 0) fun t294 =>
 bindO (loadA E 27 t294 h) fun t295 =>
 bindO (binA E 27 .neq t295 (.int .i64 (0))) fun t296 =>
 condV t296 (
  bindO (loadA E 29 s27 h) fun t298 =>
  bindR (skipR (storeA E 29 s10 t298 h)) (fun v h => some (.panic v, h)) fun _ h =>
  bindO (loadA E 29 s10 h) fun tr10 =>
  some (.ret (.tuple ⟨[(.slice none 0 0), s1, tr10]⟩), h)
 ) (
  bindO (lenA E 9 s0) fun t301 =>
  bindO (binB E 3 .geq s26 t301) fun t302 =>
  condV t302 (
   bindR (cf 28 [s1] h) (fun v h => some (.panic v, h)) fun t305 h =>
   bindR (skipR (storeA E 29 s10 t305 h)) (fun v h => some (.panic v, h)) fun _ h =>
   bindO (loadA E 29 s10 h) fun tr10 =>
   some (.ret (.tuple ⟨[(.slice none 0 0), s1, tr10]⟩), h)
  ) (
   bindO (lenA E 37 s25) fun t307 =>
   bindO (binA E 3 .eql t307 (.int .i64 (0))) fun t308 =>
   p29_82 cf lf F6 s0 s2 s3 s10 s11 s12 s13 s14 s25 s26 t308 h
  )
 )
theorem p29_68_ok (cf : CallF) (lf : Nat) (F6 : Value → Value → Value → Value → Value → Value → Value → Value → Value → Heap → Ans) (T : Tmps) (h : Heap) : execK E cf lf 316 k29_68 T h (blockK 2 (blockK 1 (seqK (fun T h => F6 (T 0) (T 1) (T 2) (T 3) (T 10) (T 11) (T 12) (T 13) (T 14) h) (blockK 0 (finK E [.tmp 8, .tmp 9, .cell 10 29]))))) = p29_68 cf lf F6 (T 0) (T 1) (T 2) (T 3) (T 10) (T 11) (T 12) (T 13) (T 14) (T 25) (T 26) (T 27) h := by simp only [k29_68, k29_69, k29_70, k29_71, k29_72, k29_74, k29_75, k29_76, k29_77, k29_81, execK_all, p29_79_ok, p29_82_ok]; delta p29_68; generalize p29_79 = G0; generalize p29_82 = G1; as_aux_lemma => kernel_rfl
def p29_44 (cf : CallF) (lf : Nat) (F6 : Value → Value → Value → Value → Value → Value → Value → Value → Value → Heap → Ans) (s0 : Value) (s1 : Value) (s2 : Value) (s3 : Value) (s10 : Value) (s11 : Value) (s12 : Value) (s13 : Value) (s14 : Value) (s209 : Value) (s244 : Value) (h : Heap) : Ans :=
 condV s244 (
  bindO (binA E 3 .add s1 (.int .i64 (1))) fun t247 =>
  l29_55 cf lf F6 lf s0 s1 s2 s3 s10 s11 s12 s13 s14 t247 h
 ) (
  bindO (binA E 5 .eql s209 (.int .u8 (34))) fun t279 =>
  condV t279 (
   bindO (binA E 3 .eql s2 (.int .i64 (4))) fun t281 =>
   condV t281 (
    bindR (cf 28 [s1] h) (fun v h => some (.panic v, h)) fun t284 h =>
    bindR (skipR (storeA E 29 s10 t284 h)) (fun v h => some (.panic v, h)) fun _ h =>
    bindO (loadA E 29 s10 h) fun tr10 =>
    some (.ret (.tuple ⟨[(.slice none 0 0), s1, tr10]⟩), h)
   ) (
    bindO (binA E 3 .add s1 (.int .i64 (1))) fun t288 =>
    bindR (cf 29 [s0, t288, (.int .i64 (1)), s3] h) (fun v h => some (.panic v, h)) fun t290 h =>
    bindO (extractA t290 0) fun t291 =>
    bindO (extractA t290 1) fun t292 =>
    bindO (extractA t290 2) fun t293 =>
    bindR (valR (allocA E 29 h)) (fun v h => some (.panic v, h)) fun t27 h =>
    bindR (skipR (storeA E 29 t27 t293 h)) (fun v h => some (.panic v, h)) fun _ h =>
    p29_68 cf lf F6 s0 s1 s2 s3 s10 s11 s12 s13 s14 t291 t292 t27 h
   )
  ) (
   bindR (cf 28 [s1] h) (fun v h => some (.panic v, h)) fun t212 h =>
   bindR (skipR (storeA E 29 s10 t212 h)) (fun v h => some (.panic v, h)) fun _ h =>
   bindO (loadA E 29 s10 h) fun tr10 =>
   some (.ret (.tuple ⟨[(.slice none 0 0), s1, tr10]⟩), h)
  )
 )
theorem p29_44_ok (cf : CallF) (lf : Nat) (F6 : Value → Value → Value → Value → Value → Value → Value → Value → Value → Heap → Ans) (T : Tmps) (h : Heap) : execK E cf lf 316 k29_44 T h (blockK 2 (blockK 1 (seqK (fun T h => F6 (T 0) (T 1) (T 2) (T 3) (T 10) (T 11) (T 12) (T 13) (T 14) h) (blockK 0 (finK E [.tmp 8, .tmp 9, .cell 10 29]))))) = p29_44 cf lf F6 (T 0) (T 1) (T 2) (T 3) (T 10) (T 11) (T 12) (T 13) (T 14) (T 209) (T 244) h := by simp only [k29_44, k29_45, k29_46, k29_54, k29_55, k29_60, k29_61, k29_62, k29_63, k29_64, k29_65, k29_66, k29_83, execK_all, l29_55_ok, p29_47_ok, p29_68_ok]; delta p29_44; generalize l29_55 = G0; generalize p29_47 = G1; generalize p29_68 = G2; as_aux_lemma => kernel_rfl
def p29_23 (cf : CallF) (lf : Nat) (F6 : Value → Value → Value → Value → Value → Value → Value → Value → Value → Heap → Ans) (s0 : Value) (s1 : Value) (s2 : Value) (s3 : Value) (s10 : Value) (s11 : Value) (s12 : Value) (s13 : Value) (s14 : Value) (s15 : Value) (s18 : Value) (s19 : Value) (h : Heap) : Ans :=
 condV s15 (
  bindO (buildA E 29 []) fun t206 =>
  bindR (skipR (storeA E 29 s10 t206 h)) (fun v h => some (.panic v, h)) fun _ h =>
  bindO (loadA E 29 s10 h) fun tr10 =>
  some (.ret (.tuple ⟨[s11, s1, tr10]⟩), h)
 ) (
  bindO (indexA E 9 s0 s1) fun t209 =>
  bindO (binA E 5 .eql t209 (.int .u8 (36))) fun t214 =>
  condV t214 (
   bindO (loadA E 49 s18 h) fun t216 =>
   bindR (valR (buildSliceA E 37 1 [(0, t216)] h)) (fun v h => some (.panic v, h)) fun t217 h =>
   bindR (valR (appendA E 37 s11 t217 h)) (fun v h => some (.panic v, h)) fun t218 h =>
   bindO (binB E 3 .add s1 s19) fun t221 =>
   F6 s0 t221 s2 s3 s10 t218 s12 s13 s14 h
  ) (
   bindO (binA E 5 .eql t209 (.int .u8 (92))) fun t223 =>
   condV t223 (
    bindO (binA E 3 .add s1 (.int .i64 (1))) fun t225 =>
    bindO (lenA E 9 s0) fun t227 =>
    bindO (binB E 3 .geq t225 t227) fun t228 =>
    p29_40 cf lf F6 s0 s1 s2 s3 s10 s11 s12 s13 s14 t228 h
   ) (
    bindO (binA E 5 .eql t209 (.int .u8 (39))) fun t245 =>
    p29_44 cf lf F6 s0 s1 s2 s3 s10 s11 s12 s13 s14 t209 t245 h
   )
  )
 )
theorem p29_23_ok (cf : CallF) (lf : Nat) (F6 : Value → Value → Value → Value → Value → Value → Value → Value → Value → Heap → Ans) (T : Tmps) (h : Heap) : execK E cf lf 316 k29_23 T h (blockK 1 (seqK (fun T h => F6 (T 0) (T 1) (T 2) (T 3) (T 10) (T 11) (T 12) (T 13) (T 14) h) (blockK 0 (finK E [.tmp 8, .tmp 9, .cell 10 29])))) = p29_23 cf lf F6 (T 0) (T 1) (T 2) (T 3) (T 10) (T 11) (T 12) (T 13) (T 14) (T 15) (T 18) (T 19) h := by simp only [k29_23, k29_24, k29_25, k29_26, k29_27, k29_29, k29_30, k29_31, k29_32, k29_34, k29_35, k29_36, k29_39, k29_43, execK_all, p29_37_ok, p29_40_ok, p29_44_ok]; delta p29_23; generalize p29_37 = G0; generalize p29_40 = G1; generalize p29_44 = G2; as_aux_lemma => kernel_rfl
def p29_89 (cf : CallF) (lf : Nat) (F6 : Value → Value → Value → Value → Value → Value → Value → Value → Value → Heap → Ans) (s0 : Value) (s1 : Value) (s2 : Value) (s3 : Value) (s10 : Value) (s11 : Value) (s12 : Value) (s13 : Value) (s15 : Value) (s18 : Value) (s19 : Value) (s23 : Value) (h : Heap) : Ans :=
 bindO (buildA E 49 [(0, s23), (1, s13), (3, s12)]) fun t200 =>
 bindR (valR (buildSliceA E 37 1 [(0, t200)] h)) (fun v h => some (.panic v, h)) fun t201 h =>
 bindR (valR (appendA E 37 s11 t201 h)) (fun v h => some (.panic v, h)) fun t202 h =>
 p29_23 cf lf F6 s0 s1 s2 s3 s10 t202 s12 (.string (mkS [])) (.bool false) s15 s18 s19 h
theorem p29_89_ok (cf : CallF) (lf : Nat) (F6 : Value → Value → Value → Value → Value → Value → Value → Value → Value → Heap → Ans) (T : Tmps) (h : Heap) : execK E cf lf 316 k29_89 T h (seqK (fun T h => p29_23 cf lf F6 (T 0) (T 1) (T 2) (T 3) (T 10) (T 11) (T 12) (T 13) (T 14) (T 15) (T 18) (T 19) h) (blockK 1 (seqK (fun T h => F6 (T 0) (T 1) (T 2) (T 3) (T 10) (T 11) (T 12) (T 13) (T 14) h) (blockK 0 (finK E [.tmp 8, .tmp 9, .cell 10 29]))))) = p29_89 cf lf F6 (T 0) (T 1) (T 2) (T 3) (T 10) (T 11) (T 12) (T 13) (T 15) (T 18) (T 19) (T 23) h := by kernel_rfl
def p29_22 (cf : CallF) (lf : Nat) (F6 : Value → Value → Value → Value → Value → Value → Value → Value → Value → Heap → Ans) (s0 : Value) (s1 : Value) (s2 : Value) (s3 : Value) (s10 : Value) (s11 : Value) (s12 : Value) (s13 : Value) (s14 : Value) (s15 : Value) (s18 : Value) (s19 : Value) (h : Heap) : Ans :=
 condV s14 (
  condV s12 (
   p29_89 cf lf F6 s0 s1 s2 s3 s10 s11 s12 s13 s15 s18 s19 (.int .i64 (1)) h
  ) (
   p29_89 cf lf F6 s0 s1 s2 s3 s10 s11 s12 s13 s15 s18 s19 (.int .i64 (0)) h
  )
 ) (
  p29_23 cf lf F6 s0 s1 s2 s3 s10 s11 s12 s13 s14 s15 s18 s19 h
 )
theorem p29_22_ok (cf : CallF) (lf : Nat) (F6 : Value → Value → Value → Value → Value → Value → Value → Value → Value → Heap → Ans) (T : Tmps) (h : Heap) : execK E cf lf 316 k29_22 T h (blockK 1 (seqK (fun T h => F6 (T 0) (T 1) (T 2) (T 3) (T 10) (T 11) (T 12) (T 13) (T 14) h) (blockK 0 (finK E [.tmp 8, .tmp 9, .cell 10 29])))) = p29_22 cf lf F6 (T 0) (T 1) (T 2) (T 3) (T 10) (T 11) (T 12) (T 13) (T 14) (T 15) (T 18) (T 19) h := by simp only [k29_22, k29_85, k29_86, k29_87, k29_88, k29_92, k29_93, execK_all, p29_23_ok, p29_89_ok]; delta p29_22; generalize p29_23 = G0; generalize p29_89 = G1; as_aux_lemma => kernel_rfl
def p29_103 (cf : CallF) (lf : Nat) (F6 : Value → Value → Value → Value → Value → Value → Value → Value → Value → Heap → Ans) (s0 : Value) (s1 : Value) (s2 : Value) (s3 : Value) (s10 : Value) (s11 : Value) (s12 : Value) (s13 : Value) (s14 : Value) (s15 : Value) (s18 : Value) (s20 : Value) (s21 : Value) (h : Heap) : Ans :=
 bindO (loadA E 49 s20 h) fun t192 =>
 bindR (skipR (storeA E 49 s18 t192 h)) (fun v h => some (.panic v, h)) fun _ h =>
 p29_22 cf lf F6 s0 s1 s2 s3 s10 s11 s12 s13 s14 s15 s18 s21 h
theorem p29_103_ok (cf : CallF) (lf : Nat) (F6 : Value → Value → Value → Value → Value → Value → Value → Value → Value → Heap → Ans) (T : Tmps) (h : Heap) : execK E cf lf 316 k29_103 T h (seqK (fun T h => p29_22 cf lf F6 (T 0) (T 1) (T 2) (T 3) (T 10) (T 11) (T 12) (T 13) (T 14) (T 15) (T 18) (T 19) h) (blockK 1 (seqK (fun T h => F6 (T 0) (T 1) (T 2) (T 3) (T 10) (T 11) (T 12) (T 13) (T 14) h) (blockK 0 (finK E [.tmp 8, .tmp 9, .cell 10 29]))))) = p29_103 cf lf F6 (T 0) (T 1) (T 2) (T 3) (T 10) (T 11) (T 12) (T 13) (T 14) (T 15) (T 18) (T 20) (T 21) h := by kernel_rfl
def p29_106 (cf : CallF) (lf : Nat) (F6 : Value → Value → Value → Value → Value → Value → Value → Value → Value → Heap → Ans) (s0 : Value) (s1 : Value) (s2 : Value) (s3 : Value) (s10 : Value) (s11 : Value) (s12 : Value) (s13 : Value) (s14 : Value) (s15 : Value) (s18 : Value) (s20 : Value) (s21 : Value) (s187 : Value) (h : Heap) : Ans :=
 condV s187 (
  bindO (binA E 9 .add s13 (.string (mkS [36]))) fun t189 =>
  bindO (binA E 3 .add s1 (.int .i64 (1))) fun t191 =>
  F6 s0 t191 s2 s3 s10 s11 s12 t189 (.bool true) h
 ) (
  p29_103 cf lf F6 s0 s1 s2 s3 s10 s11 s12 s13 s14 s15 s18 s20 s21 h
 )
theorem p29_106_ok (cf : CallF) (lf : Nat) (F6 : Value → Value → Value → Value → Value → Value → Value → Value → Value → Heap → Ans) (T : Tmps) (h : Heap) : execK E cf lf 316 k29_106 T h (seqK (fun T h => p29_103 cf lf F6 (T 0) (T 1) (T 2) (T 3) (T 10) (T 11) (T 12) (T 13) (T 14) (T 15) (T 18) (T 20) (T 21) h) (seqK (fun T h => p29_22 cf lf F6 (T 0) (T 1) (T 2) (T 3) (T 10) (T 11) (T 12) (T 13) (T 14) (T 15) (T 18) (T 19) h) (blockK 1 (seqK (fun T h => F6 (T 0) (T 1) (T 2) (T 3) (T 10) (T 11) (T 12) (T 13) (T 14) h) (blockK 0 (finK E [.tmp 8, .tmp 9, .cell 10 29])))))) = p29_106 cf lf F6 (T 0) (T 1) (T 2) (T 3) (T 10) (T 11) (T 12) (T 13) (T 14) (T 15) (T 18) (T 20) (T 21) (T 187) h := by kernel_rfl
def p29_95 (cf : CallF) (lf : Nat) (F6 : Value → Value → Value → Value → Value → Value → Value → Value → Value → Heap → Ans) (s0 : Value) (s1 : Value) (s2 : Value) (s3 : Value) (s10 : Value) (s11 : Value) (s12 : Value) (s13 : Value) (s14 : Value) (s15 : Value) (s18 : Value) (s19 : Value) (s171 : Value) (h : Heap) : Ans :=
 condV s171 (
  bindR (cf 51 [s0, s1, s2, s3] h) (fun v h => some (.panic v, h)) fun t177 h =>
  bindO (extractA t177 0) fun t178 =>
  bindO (extractA t177 1) fun t179 =>
  bindO (extractA t177 2) fun t180 =>
  bindR (valR (allocA E 49 h)) (fun v h => some (.panic v, h)) fun t20 h =>
  bindR (valR (allocA E 29 h)) (fun v h => some (.panic v, h)) fun t22 h =>
  bindR (skipR (storeA E 49 t20 t178 h)) (fun v h => some (.panic v, h)) fun _ h =>
  bindR (skipR (storeA E 29 t22 t180 h)) (fun v h => some (.panic v, h)) fun _ h =>
  bindO (fieldAddrA E 29 t22 0) fun t181 =>
  bindO (loadA E 27 t181 h) fun t182 =>
  bindO (binA E 27 .neq t182 (.int .i64 (0))) fun t183 =>
  condV t183 (
   bindO (loadA E 29 t22 h) fun t185 =>
   bindR (skipR (storeA E 29 s10 t185 h)) (fun v h => some (.panic v, h)) fun _ h =>
   bindO (loadA E 29 s10 h) fun tr10 =>
   some (.ret (.tuple ⟨[(.slice none 0 0), s1, tr10]⟩), h)
  ) (
   bindO (binA E 3 .eql t179 (.int .i64 (0))) fun t187 =>
   p29_106 cf lf F6 s0 s1 s2 s3 s10 s11 s12 s13 s14 s15 s18 t20 t179 t187 h
  )
 ) (
  p29_22 cf lf F6 s0 s1 s2 s3 s10 s11 s12 s13 s14 s15 s18 s19 h
 )
theorem p29_95_ok (cf : CallF) (lf : Nat) (F6 : Value → Value → Value → Value → Value → Value → Value → Value → Value → Heap → Ans) (T : Tmps) (h : Heap) : execK E cf lf 316 k29_95 T h (seqK (fun T h => p29_22 cf lf F6 (T 0) (T 1) (T 2) (T 3) (T 10) (T 11) (T 12) (T 13) (T 14) (T 15) (T 18) (T 19) h) (blockK 1 (seqK (fun T h => F6 (T 0) (T 1) (T 2) (T 3) (T 10) (T 11) (T 12) (T 13) (T 14) h) (blockK 0 (finK E [.tmp 8, .tmp 9, .cell 10 29]))))) = p29_95 cf lf F6 (T 0) (T 1) (T 2) (T 3) (T 10) (T 11) (T 12) (T 13) (T 14) (T 15) (T 18) (T 19) (T 171) h := by simp only [k29_100, k29_101, k29_105, k29_95, k29_96, k29_97, k29_98, k29_99, execK_all, p29_103_ok, p29_106_ok]; delta p29_95; generalize p29_103 = G0; generalize p29_106 = G1; as_aux_lemma => kernel_rfl
def p29_19 (cf : CallF) (lf : Nat) (F6 : Value → Value → Value → Value → Value → Value → Value → Value → Value → Heap → Ans) (s0 : Value) (s1 : Value) (s2 : Value) (s3 : Value) (s10 : Value) (s11 : Value) (s12 : Value) (s13 : Value) (s14 : Value) (s15 : Value) (h : Heap) : Ans :=
 bindR (valR (allocA E 49 h)) (fun v h => some (.panic v, h)) fun t18 h =>
 bindO (unA .not s15) fun t165 =>
 bindO (gO (boolIs true t165) (some s0)) fun t167 =>
 bindO (gO (boolIs true t165) (some s1)) fun t168 =>
 bindO (gO (boolIs true t165) (indexA E 9 t167 t168)) fun t169 =>
 bindO (gO (boolIs true t165) (binA E 5 .eql t169 (.int .u8 (36)))) fun t170 =>
 bindO (pickA t165 t170 (.bool false)) fun t171 =>
 p29_95 cf lf F6 s0 s1 s2 s3 s10 s11 s12 s13 s14 s15 t18 (.int .i64 (0)) t171 h
theorem p29_19_ok (cf : CallF) (lf : Nat) (F6 : Value → Value → Value → Value → Value → Value → Value → Value → Value → Heap → Ans) (T : Tmps) (h : Heap) : execK E cf lf 316 k29_19 T h (blockK 1 (seqK (fun T h => F6 (T 0) (T 1) (T 2) (T 3) (T 10) (T 11) (T 12) (T 13) (T 14) h) (blockK 0 (finK E [.tmp 8, .tmp 9, .cell 10 29])))) = p29_19 cf lf F6 (T 0) (T 1) (T 2) (T 3) (T 10) (T 11) (T 12) (T 13) (T 14) (T 15) h := by simp only [k29_19, k29_20, k29_21, k29_94, execK_all, p29_22_ok, p29_95_ok]; delta p29_19; generalize p29_22 = G0; generalize p29_95 = G1; as_aux_lemma => kernel_rfl
def p29_120 (cf : CallF) (lf : Nat) (F6 : Value → Value → Value → Value → Value → Value → Value → Value → Value → Heap → Ans) (s0 : Value) (s1 : Value) (s2 : Value) (s3 : Value) (s10 : Value) (s11 : Value) (s12 : Value) (s13 : Value) (h : Heap) : Ans :=
 bindO (binA E 3 .add s1 (.int .i64 (1))) fun t157 =>
 bindO (binA E 3 .add s1 (.int .i64 (2))) fun t159 =>
 bindO (sliceA E 9 s0 (some t157) (some t159) h) fun t160 =>
 bindO (binB E 9 .add s13 t160) fun t161 =>
 bindO (binA E 3 .add s1 (.int .i64 (2))) fun t163 =>
 F6 s0 t163 s2 s3 s10 s11 s12 t161 (.bool true) h
theorem p29_120_ok (cf : CallF) (lf : Nat) (F6 : Value → Value → Value → Value → Value → Value → Value → Value → Value → Heap → Ans) (T : Tmps) (h : Heap) : execK E cf lf 316 k29_120 T h (seqK (fun T h => p29_19 cf lf F6 (T 0) (T 1) (T 2) (T 3) (T 10) (T 11) (T 12) (T 13) (T 14) (T 15) h) (blockK 1 (seqK (fun T h => F6 (T 0) (T 1) (T 2) (T 3) (T 10) (T 11) (T 12) (T 13) (T 14) h) (blockK 0 (finK E [.tmp 8, .tmp 9, .cell 10 29]))))) = p29_120 cf lf F6 (T 0) (T 1) (T 2) (T 3) (T 10) (T 11) (T 12) (T 13) h := by kernel_rfl
def p29_125 (cf : CallF) (lf : Nat) (F6 : Value → Value → Value → Value → Value → Value → Value → Value → Value → Heap → Ans) (s0 : Value) (s1 : Value) (s2 : Value) (s3 : Value) (s10 : Value) (s11 : Value) (s12 : Value) (s13 : Value) (s151 : Value) (h : Heap) : Ans :=
 condV s151 (
  bindO (binA E 9 .add s13 (.string (mkS [92]))) fun t153 =>
  p29_120 cf lf F6 s0 s1 s2 s3 s10 s11 s12 t153 h
 ) (
  p29_120 cf lf F6 s0 s1 s2 s3 s10 s11 s12 s13 h
 )
theorem p29_125_ok (cf : CallF) (lf : Nat) (F6 : Value → Value → Value → Value → Value → Value → Value → Value → Value → Heap → Ans) (T : Tmps) (h : Heap) : execK E cf lf 316 k29_125 T h (seqK (fun T h => p29_120 cf lf F6 (T 0) (T 1) (T 2) (T 3) (T 10) (T 11) (T 12) (T 13) h) (seqK (fun T h => p29_19 cf lf F6 (T 0) (T 1) (T 2) (T 3) (T 10) (T 11) (T 12) (T 13) (T 14) (T 15) h) (blockK 1 (seqK (fun T h => F6 (T 0) (T 1) (T 2) (T 3) (T 10) (T 11) (T 12) (T 13) (T 14) h) (blockK 0 (finK E [.tmp 8, .tmp 9, .cell 10 29])))))) = p29_125 cf lf F6 (T 0) (T 1) (T 2) (T 3) (T 10) (T 11) (T 12) (T 13) (T 151) h := by kernel_rfl
def p29_112 (cf : CallF) (lf : Nat) (F6 : Value → Value → Value → Value → Value → Value → Value → Value → Value → Heap → Ans) (s0 : Value) (s1 : Value) (s2 : Value) (s3 : Value) (s10 : Value) (s11 : Value) (s12 : Value) (s13 : Value) (s14 : Value) (s15 : Value) (s120 : Value) (h : Heap) : Ans :=
 condV s120 (
  bindO (binA E 3 .add s1 (.int .i64 (1))) fun t122 =>
  bindO (lenA E 9 s0) fun t124 =>
  bindO (binB E 3 .geq t122 t124) fun t125 =>
  condV t125 (
   bindR (cf 28 [s1] h) (fun v h => some (.panic v, h)) fun t128 h =>
   bindR (skipR (storeA E 29 s10 t128 h)) (fun v h => some (.panic v, h)) fun _ h =>
   bindO (loadA E 29 s10 h) fun tr10 =>
   some (.ret (.tuple ⟨[(.slice none 0 0), s1, tr10]⟩), h)
  ) (
   bindO (binA E 3 .add s1 (.int .i64 (1))) fun t131 =>
   bindO (indexA E 9 s0 t131) fun t132 =>
   bindO (binA E 5 .eql t132 (.int .u8 (36))) fun t134 =>
   bindO (gO (boolIs false t134) (some t132)) fun t136 =>
   bindO (gO (boolIs false t134) (binA E 5 .eql t136 (.int .u8 (96)))) fun t137 =>
   bindO (pickA t134 (.bool true) t137) fun t138 =>
   bindO (gO (boolIs false t138) (some t132)) fun t140 =>
   bindO (gO (boolIs false t138) (binA E 5 .eql t140 (.int .u8 (92)))) fun t141 =>
   bindO (pickA t138 (.bool true) t141) fun t142 =>
   bindO (gO (boolIs false t142) (some s2)) fun t144 =>
   bindO (gO (boolIs false t142) (binA E 3 .neq t144 (.int .i64 (2)))) fun t145 =>
   bindO (gO (boolIs false t142) (some t145)) fun t146 =>
   bindO (gO (boolIs true t146) (some t132)) fun t147 =>
   bindO (gO (boolIs true t146) (binA E 5 .eql t147 (.int .u8 (34)))) fun t148 =>
   bindO (gO (boolIs false t142) (pickA t146 t148 (.bool false))) fun t149 =>
   bindO (pickA t142 (.bool true) t149) fun t150 =>
   bindO (unA .not t150) fun t151 =>
   p29_125 cf lf F6 s0 s1 s2 s3 s10 s11 s12 s13 t151 h
  )
 ) (
  p29_19 cf lf F6 s0 s1 s2 s3 s10 s11 s12 s13 s14 s15 h
 )
theorem p29_112_ok (cf : CallF) (lf : Nat) (F6 : Value → Value → Value → Value → Value → Value → Value → Value → Value → Heap → Ans) (T : Tmps) (h : Heap) : execK E cf lf 316 k29_112 T h (seqK (fun T h => p29_19 cf lf F6 (T 0) (T 1) (T 2) (T 3) (T 10) (T 11) (T 12) (T 13) (T 14) (T 15) h) (blockK 1 (seqK (fun T h => F6 (T 0) (T 1) (T 2) (T 3) (T 10) (T 11) (T 12) (T 13) (T 14) h) (blockK 0 (finK E [.tmp 8, .tmp 9, .cell 10 29]))))) = p29_112 cf lf F6 (T 0) (T 1) (T 2) (T 3) (T 10) (T 11) (T 12) (T 13) (T 14) (T 15) (T 120) h := by simp only [k29_112, k29_113, k29_114, k29_115, k29_116, k29_117, k29_119, k29_124, execK_all, p29_120_ok, p29_125_ok]; delta p29_112; generalize p29_120 = G0; generalize p29_125 = G1; as_aux_lemma => kernel_rfl
def p29_18 (cf : CallF) (lf : Nat) (F6 : Value → Value → Value → Value → Value → Value → Value → Value → Value → Heap → Ans) (s0 : Value) (s1 : Value) (s2 : Value) (s3 : Value) (s10 : Value) (s11 : Value) (s12 : Value) (s13 : Value) (s14 : Value) (s15 : Value) (h : Heap) : Ans :=
 bindO (unA .not s15) fun t111 =>
 bindO (gO (boolIs true t111) (some s0)) fun t113 =>
 bindO (gO (boolIs true t111) (some s1)) fun t114 =>
 bindO (gO (boolIs true t111) (indexA E 9 t113 t114)) fun t115 =>
 bindO (gO (boolIs true t111) (binA E 5 .eql t115 (.int .u8 (92)))) fun t116 =>
 bindO (pickA t111 t116 (.bool false)) fun t117 =>
 bindO (gO (boolIs true t117) (some s12)) fun t119 =>
 bindO (pickA t117 t119 (.bool false)) fun t120 =>
 p29_112 cf lf F6 s0 s1 s2 s3 s10 s11 s12 s13 s14 s15 t120 h
theorem p29_18_ok (cf : CallF) (lf : Nat) (F6 : Value → Value → Value → Value → Value → Value → Value → Value → Value → Heap → Ans) (T : Tmps) (h : Heap) : execK E cf lf 316 k29_18 T h (blockK 1 (seqK (fun T h => F6 (T 0) (T 1) (T 2) (T 3) (T 10) (T 11) (T 12) (T 13) (T 14) h) (blockK 0 (finK E [.tmp 8, .tmp 9, .cell 10 29])))) = p29_18 cf lf F6 (T 0) (T 1) (T 2) (T 3) (T 10) (T 11) (T 12) (T 13) (T 14) (T 15) h := by simp only [k29_111, k29_18, execK_all, p29_112_ok, p29_19_ok]; delta p29_18; generalize p29_112 = G0; generalize p29_19 = G1; as_aux_lemma => kernel_rfl
def p29_127 (cf : CallF) (lf : Nat) (F6 : Value → Value → Value → Value → Value → Value → Value → Value → Value → Heap → Ans) (s0 : Value) (s1 : Value) (s2 : Value) (s3 : Value) (s10 : Value) (s11 : Value) (s12 : Value) (s13 : Value) (s14 : Value) (s15 : Value) (s107 : Value) (h : Heap) : Ans :=
 condV s107 (
  bindO (binA E 3 .add s1 (.int .i64 (2))) fun t109 =>
  F6 s0 t109 s2 s3 s10 s11 s12 s13 s14 h
 ) (
  p29_18 cf lf F6 s0 s1 s2 s3 s10 s11 s12 s13 s14 s15 h
 )
theorem p29_127_ok (cf : CallF) (lf : Nat) (F6 : Value → Value → Value → Value → Value → Value → Value → Value → Value → Heap → Ans) (T : Tmps) (h : Heap) : execK E cf lf 316 k29_127 T h (seqK (fun T h => p29_18 cf lf F6 (T 0) (T 1) (T 2) (T 3) (T 10) (T 11) (T 12) (T 13) (T 14) (T 15) h) (blockK 1 (seqK (fun T h => F6 (T 0) (T 1) (T 2) (T 3) (T 10) (T 11) (T 12) (T 13) (T 14) h) (blockK 0 (finK E [.tmp 8, .tmp 9, .cell 10 29]))))) = p29_127 cf lf F6 (T 0) (T 1) (T 2) (T 3) (T 10) (T 11) (T 12) (T 13) (T 14) (T 15) (T 107) h := by kernel_rfl
def p29_10 (cf : CallF) (lf : Nat) (F6 : Value → Value → Value → Value → Value → Value → Value → Value → Value → Heap → Ans) (s0 : Value) (s1 : Value) (s2 : Value) (s3 : Value) (s10 : Value) (s11 : Value) (s12 : Value) (s13 : Value) (s14 : Value) (s15 : Value) (s16 : Value) (h : Heap) : Ans :=
 bindO (unA .not s16) fun t91 =>
 condV t91 (
  bindO (binA E 3 .add s1 (.int .i64 (1))) fun t96 =>
  bindO (sliceA E 9 s0 (some s1) (some t96) h) fun t97 =>
  bindO (binB E 9 .add s13 t97) fun t98 =>
  bindO (binA E 3 .add s1 (.int .i64 (1))) fun t100 =>
  F6 s0 t100 s2 s3 s10 s11 s12 t98 (.bool true) h
 ) (
  bindO (unA .not s15) fun t102 =>
  bindO (gO (boolIs true t102) (some s0)) fun t104 =>
  bindO (gO (boolIs true t102) (some s1)) fun t105 =>
  bindR (gR (boolIs true t102) (cf 26 [t104, t105, (.string (mkS [92, 10]))] h) h) (fun v h => some (.panic v, h)) fun t106 h =>
  bindO (pickA t102 t106 (.bool false)) fun t107 =>
  p29_127 cf lf F6 s0 s1 s2 s3 s10 s11 s12 s13 s14 s15 t107 h
 )
theorem p29_10_ok (cf : CallF) (lf : Nat) (F6 : Value → Value → Value → Value → Value → Value → Value → Value → Value → Heap → Ans) (T : Tmps) (h : Heap) : execK E cf lf 316 k29_10 T h (blockK 1 (seqK (fun T h => F6 (T 0) (T 1) (T 2) (T 3) (T 10) (T 11) (T 12) (T 13) (T 14) h) (blockK 0 (finK E [.tmp 8, .tmp 9, .cell 10 29])))) = p29_10 cf lf F6 (T 0) (T 1) (T 2) (T 3) (T 10) (T 11) (T 12) (T 13) (T 14) (T 15) (T 16) h := by simp only [k29_10, k29_11, k29_12, k29_126, k29_13, k29_14, k29_15, k29_16, execK_all, p29_127_ok, p29_18_ok]; delta p29_10; generalize p29_127 = G0; generalize p29_18 = G1; as_aux_lemma => kernel_rfl
def p29_7 (cf : CallF) (lf : Nat) (F6 : Value → Value → Value → Value → Value → Value → Value → Value → Value → Heap → Ans) (s0 : Value) (s1 : Value) (s2 : Value) (s3 : Value) (s10 : Value) (s11 : Value) (s12 : Value) (s13 : Value) (s14 : Value) (h : Heap) : Ans :=
 bindO (lenA E 9 s0) fun t36 =>
 bindO (binB E 3 .geq s1 t36) fun t37 =>
 bindO (gO (boolIs false t37) (some s0)) fun t39 =>
 bindO (gO (boolIs false t37) (some s1)) fun t40 =>
 bindO (gO (boolIs false t37) (indexA E 9 t39 t40)) fun t41 =>
 bindO (gO (boolIs false t37) (some s2)) fun t42 =>
 bindR (gR (boolIs false t37) (cf 50 [t41, t42] h) h) (fun v h => some (.panic v, h)) fun t43 h =>
 bindO (pickA t37 (.bool true) t43) fun t44 =>
 bindO (gO (boolIs false t44) (some s0)) fun t47 =>
 bindO (gO (boolIs false t44) (some s1)) fun t48 =>
 bindO (gO (boolIs false t44) (indexA E 9 t47 t48)) fun t49 =>
 bindO (gO (boolIs false t44) (binA E 5 .eql t49 (.int .u8 (36)))) fun t50 =>
 bindO (pickA t44 (.bool true) t50) fun t51 =>
 bindO (gO (boolIs false t51) (some s0)) fun t53 =>
 bindO (gO (boolIs false t51) (some s1)) fun t54 =>
 bindO (gO (boolIs false t51) (indexA E 9 t53 t54)) fun t55 =>
 bindO (gO (boolIs false t51) (binA E 5 .eql t55 (.int .u8 (92)))) fun t56 =>
 bindO (pickA t51 (.bool true) t56) fun t57 =>
 bindO (gO (boolIs false t57) (some s0)) fun t59 =>
 bindO (gO (boolIs false t57) (some s1)) fun t60 =>
 bindO (gO (boolIs false t57) (indexA E 9 t59 t60)) fun t61 =>
 bindO (gO (boolIs false t57) (binA E 5 .eql t61 (.int .u8 (96)))) fun t62 =>
 bindO (pickA t57 (.bool true) t62) fun t63 =>
 bindO (gO (boolIs false t63) (some s12)) fun t65 =>
 bindO (gO (boolIs false t63) (unA .not t65)) fun t66 =>
 bindO (gO (boolIs false t63) (some t66)) fun t67 =>
 bindO (gO (boolIs true t67) (some s0)) fun t68 =>
 bindO (gO (boolIs true t67) (some s1)) fun t69 =>
 bindO (gO (boolIs true t67) (indexA E 9 t68 t69)) fun t70 =>
 bindO (gO (boolIs true t67) (binA E 5 .eql t70 (.int .u8 (39)))) fun t71 =>
 bindO (gO (boolIs true t67) (some t71)) fun t72 =>
 bindO (gO (boolIs false t72) (some s0)) fun t73 =>
 bindO (gO (boolIs false t72) (some s1)) fun t74 =>
 bindO (gO (boolIs false t72) (indexA E 9 t73 t74)) fun t75 =>
 bindO (gO (boolIs false t72) (binA E 5 .eql t75 (.int .u8 (34)))) fun t76 =>
 bindO (gO (boolIs true t67) (pickA t72 (.bool true) t76)) fun t77 =>
 bindO (gO (boolIs false t63) (pickA t67 t77 (.bool false))) fun t78 =>
 bindO (pickA t63 (.bool true) t78) fun t79 =>
 bindO (gO (boolIs false t79) (some s2)) fun t81 =>
 bindO (gO (boolIs false t79) (binA E 3 .eql t81 (.int .i64 (4)))) fun t82 =>
 bindO (gO (boolIs false t79) (some t82)) fun t83 =>
 bindO (gO (boolIs true t83) (some s0)) fun t84 =>
 bindO (gO (boolIs true t83) (some s1)) fun t85 =>
 bindO (gO (boolIs true t83) (indexA E 9 t84 t85)) fun t86 =>
 bindO (gO (boolIs true t83) (binA E 5 .eql t86 (.int .u8 (34)))) fun t87 =>
 bindO (gO (boolIs false t79) (pickA t83 t87 (.bool false))) fun t88 =>
 bindO (pickA t79 (.bool true) t88) fun t89 =>
 p29_10 cf lf F6 s0 s1 s2 s3 s10 s11 s12 s13 s14 t44 t89 h
theorem p29_7_ok (cf : CallF) (lf : Nat) (F6 : Value → Value → Value → Value → Value → Value → Value → Value → Value → Heap → Ans) (T : Tmps) (h : Heap) : execK E cf lf 316 k29_7 T h (seqK (fun T h => F6 (T 0) (T 1) (T 2) (T 3) (T 10) (T 11) (T 12) (T 13) (T 14) h) (blockK 0 (finK E [.tmp 8, .tmp 9, .cell 10 29]))) = p29_7 cf lf F6 (T 0) (T 1) (T 2) (T 3) (T 10) (T 11) (T 12) (T 13) (T 14) h := by simp only [k29_7, k29_8, k29_9, execK_all, p29_10_ok]; delta p29_7; generalize p29_10 = G0; as_aux_lemma => kernel_rfl
def l29_6 (cf : CallF) (lf : Nat) : Nat → Value → Value → Value → Value → Value → Value → Value → Value → Value → Heap → Ans
 | 0, _, _, _, _, _, _, _, _, _, _ => none
 | n + 1, s0, s1, s2, s3, s10, s11, s12, s13, s14, h => p29_7 cf lf (l29_6 cf lf n) s0 s1 s2 s3 s10 s11 s12 s13 s14 h
theorem l29_6_ok (cf : CallF) (lf : Nat) (n : Nat) : ∀ (T : Tmps) (h : Heap), iterK (fun T h K => execK E cf lf 316 k29_7 T h K) (blockK 0 (finK E [.tmp 8, .tmp 9, .cell 10 29])) n T h = l29_6 cf lf n (T 0) (T 1) (T 2) (T 3) (T 10) (T 11) (T 12) (T 13) (T 14) h := by
 induction n with
 | zero => intro T h; rfl
 | succ n ih =>
  intro T h
  rw [iterK_succ, show iterK (fun T h K => execK E cf lf 316 k29_7 T h K) (blockK 0 (finK E [.tmp 8, .tmp 9, .cell 10 29])) n = (fun T h => l29_6 cf lf n (T 0) (T 1) (T 2) (T 3) (T 10) (T 11) (T 12) (T 13) (T 14) h) from funext fun T => funext fun h => ih T h]
  exact p29_7_ok cf lf (l29_6 cf lf n) T h
def p29_0 (cf : CallF) (lf : Nat) (s0 : Value) (s1 : Value) (s2 : Value) (s3 : Value) (h : Heap) : Ans :=
 bindR (valR (allocA E 29 h)) (fun v h => some (.panic v, h)) fun t10 h =>
 bindO (binA E 3 .neq s2 (.int .i64 (0))) fun t29 =>
 bindO (gO (boolIs true t29) (some s2)) fun t31 =>
 bindO (gO (boolIs true t29) (binA E 3 .neq t31 (.int .i64 (3)))) fun t32 =>
 bindO (pickA t29 t32 (.bool false)) fun t33 =>
 l29_6 cf lf lf s0 s1 s2 s3 t10 (.slice none 0 0) t33 (.string (mkS [])) (.bool false) h
theorem p29_0_ok (cf : CallF) (lf : Nat) (T : Tmps) (h : Heap) : execK E cf lf 316 k29_0 T h (finK E [.tmp 8, .tmp 9, .cell 10 29]) = p29_0 cf lf (T 0) (T 1) (T 2) (T 3) h := by simp only [k29_0, k29_1, k29_2, k29_3, k29_4, k29_5, k29_6, execK_all, l29_6_ok]; delta p29_0; generalize l29_6 = G0; as_aux_lemma => kernel_rfl
def f29 (cf : CallF) (lf : Nat) (a0 : Value) (a1 : Value) (a2 : Value) (a3 : Value) (h : Heap) : Ans := p29_0 cf lf a0 a1 a2 a3 h
theorem f29_ok (cf : CallF) (lf : Nat) (a0 a1 a2 a3 : Value) (h : Heap) : stepN E cf lf 29 [a0, a1, a2, a3] h = f29 cf lf a0 a1 a2 a3 h := (show stepN E cf lf 29 [a0, a1, a2, a3] h = execK E cf lf 316 k29_0 (T0 [a0, a1, a2, a3]) h (finK E [.tmp 8, .tmp 9, .cell 10 29]) by kernel_rfl).trans ((p29_0_ok cf lf (T0 [a0, a1, a2, a3]) h).trans (by kernel_rfl))
noncomputable def kc30 := codeOf Tryd.f30
def k30_26 := cp kc30 [1, 1, 0, 1, 0, 0, 1, 0, 0, 1, 0, 0]
def k30_17 := cp kc30 [1, 1, 0, 1, 0, 0, 1, 0, 0, 1, 0, 1]
def k30_16 : Code := .seq k30_26 k30_17
def k30_25 := cp kc30 [1, 1, 0, 1, 0, 0, 1, 0, 0, 1, 1]
def k30_24 := cp kc30 [1, 1, 0, 1, 0, 0, 1, 0, 0, 0]
def k30_15 : Code := .cond (.tmp 20) k30_16 k30_25
def k30_22 := cp kc30 [1, 1, 0, 1, 0, 0, 0, 1, 0]
def k30_23 := cp kc30 [1, 1, 0, 1, 0, 0, 0, 1, 1]
def k30_14 : Code := .seq k30_24 k30_15
def k30_21 := cp kc30 [1, 1, 0, 1, 0, 0, 0, 0]
def k30_11 : Code := .cond (.tmp 11) k30_22 k30_23
def k30_13 : Code := .block 1 k30_14
def k30_12 := cp kc30 [1, 1, 0, 1, 0, 0, 1, 1]
def k30_10 : Code := .seq k30_21 k30_11
def k30_9 : Code := .seq k30_13 k30_12
def k30_8 : Code := .seq k30_10 k30_9
def k30_7 : Code := .loop k30_8
def k30_20 := cp kc30 [1, 1, 0, 0]
def k30_6 : Code := .block 0 k30_7
def k30_27 := cp kc30 [1, 1, 1, 0]
def k30_4 := cp kc30 [1, 1, 1, 1]
def k30_5 : Code := .seq k30_20 k30_6
def k30_3 : Code := .seq k30_27 k30_4
def k30_19 := cp kc30 [1, 0]
def k30_2 : Code := .seq k30_5 k30_3
def k30_18 := cp kc30 [0]
def k30_1 : Code := .seq k30_19 k30_2
def k30_0 : Code := .seq k30_18 k30_1
def p30_3 (cf : CallF) (lf : Nat) (h : Heap) : Ans :=
 some (.ret (.string (mkS [])), h)
theorem p30_3_ok (cf : CallF) (lf : Nat) (T : Tmps) (h : Heap) : execK E cf lf 25 k30_3 T h (finK E [.tmp 4]) = p30_3 cf lf h := by kernel_rfl
def p30_8 (cf : CallF) (lf : Nat) (F7 : Value → Value → Value → Value → Heap → Ans) (s0 : Value) (s1 : Value) (s5 : Value) (s6 : Value) (h : Heap) : Ans :=
 bindO (lenA E 40 s5) fun t10 =>
 bindO (binB E 3 .lss s6 t10) fun t11 =>
 condV t11 (
  bindO (indexAddrA E 40 s5 s6) fun t18 =>
  bindO (loadA E 9 t18 h) fun t19 =>
  bindR (cf 26 [s0, s1, t19] h) (fun v h => some (.panic v, h)) fun t20 h =>
  condV t20 (
   bindO (indexAddrA E 40 s5 s6) fun t23 =>
   bindO (loadA E 9 t23 h) fun t24 =>
   some (.ret t24, h)
  ) (
   bindO (binA E 3 .add s6 (.int .i64 (1))) fun t13 =>
   F7 s0 s1 s5 t13 h
  )
 ) (
  p30_3 cf lf h
 )
theorem p30_8_ok (cf : CallF) (lf : Nat) (F7 : Value → Value → Value → Value → Heap → Ans) (T : Tmps) (h : Heap) : execK E cf lf 25 k30_8 T h (seqK (fun T h => F7 (T 0) (T 1) (T 5) (T 6) h) (blockK 0 (seqK (fun T h => p30_3 cf lf h) (finK E [.tmp 4])))) = p30_8 cf lf F7 (T 0) (T 1) (T 5) (T 6) h := by kernel_rfl
def l30_7 (cf : CallF) (lf : Nat) : Nat → Value → Value → Value → Value → Heap → Ans
 | 0, _, _, _, _, _ => none
 | n + 1, s0, s1, s5, s6, h => p30_8 cf lf (l30_7 cf lf n) s0 s1 s5 s6 h
theorem l30_7_ok (cf : CallF) (lf : Nat) (n : Nat) : ∀ (T : Tmps) (h : Heap), iterK (fun T h K => execK E cf lf 25 k30_8 T h K) (blockK 0 (seqK (fun T h => p30_3 cf lf h) (finK E [.tmp 4]))) n T h = l30_7 cf lf n (T 0) (T 1) (T 5) (T 6) h := by
 induction n with
 | zero => intro T h; rfl
 | succ n ih =>
  intro T h
  rw [iterK_succ, show iterK (fun T h K => execK E cf lf 25 k30_8 T h K) (blockK 0 (seqK (fun T h => p30_3 cf lf h) (finK E [.tmp 4]))) n = (fun T h => l30_7 cf lf n (T 0) (T 1) (T 5) (T 6) h) from funext fun T => funext fun h => ih T h]
  exact p30_8_ok cf lf (l30_7 cf lf n) T h
def p30_0 (cf : CallF) (lf : Nat) (s0 : Value) (s1 : Value) (h : Heap) : Ans :=
 bindR (valR (buildSliceA E 40 12 [(0, (.string (mkS [59, 59]))), (1, (.string (mkS [59]))), (2, (.string (mkS [38, 38]))), (3, (.string (mkS [124, 124]))), (4, (.string (mkS [124]))), (5, (.string (mkS [40]))), (6, (.string (mkS [41]))), (7, (.string (mkS [60, 60]))), (8, (.string (mkS [60]))), (9, (.string (mkS [62, 62]))), (10, (.string (mkS [62, 38]))), (11, (.string (mkS [62])))] h)) (fun v h => some (.panic v, h)) fun t7 h =>
 l30_7 cf lf lf s0 s1 t7 (.int .i64 (0)) h
theorem p30_0_ok (cf : CallF) (lf : Nat) (T : Tmps) (h : Heap) : execK E cf lf 25 k30_0 T h (finK E [.tmp 4]) = p30_0 cf lf (T 0) (T 1) h := by simp only [k30_0, k30_1, k30_2, k30_5, k30_6, k30_7, execK_all, l30_7_ok, p30_3_ok]; delta p30_0; generalize l30_7 = G0; generalize p30_3 = G1; as_aux_lemma => kernel_rfl
def f30 (cf : CallF) (lf : Nat) (a0 : Value) (a1 : Value) (h : Heap) : Ans := p30_0 cf lf a0 a1 h
theorem f30_ok (cf : CallF) (lf : Nat) (a0 a1 : Value) (h : Heap) : stepN E cf lf 30 [a0, a1] h = f30 cf lf a0 a1 h := (show stepN E cf lf 30 [a0, a1] h = execK E cf lf 25 k30_0 (T0 [a0, a1]) h (finK E [.tmp 4]) by kernel_rfl).trans ((p30_0_ok cf lf (T0 [a0, a1]) h).trans (by kernel_rfl))
noncomputable def kc31 := codeOf Tryd.f31
def k31_31 := cp kc31 [1, 1, 1, 0, 1, 0, 0, 1, 0, 0, 0, 1, 0, 0]
def k31_21 := cp kc31 [1, 1, 1, 0, 1, 0, 0, 1, 0, 0, 0, 1, 0, 1]
def k31_20 : Code := .seq k31_31 k31_21
def k31_30 := cp kc31 [1, 1, 1, 0, 1, 0, 0, 1, 0, 0, 0, 1, 1]
def k31_29 := cp kc31 [1, 1, 1, 0, 1, 0, 0, 1, 0, 0, 0, 0]
def k31_19 : Code := .cond (.tmp 27) k31_20 k31_30
def k31_32 := cp kc31 [1, 1, 1, 0, 1, 0, 0, 1, 0, 0, 1, 0]
def k31_17 := cp kc31 [1, 1, 1, 0, 1, 0, 0, 1, 0, 0, 1, 1]
def k31_18 : Code := .seq k31_29 k31_19
def k31_16 : Code := .seq k31_32 k31_17
def k31_27 := cp kc31 [1, 1, 1, 0, 1, 0, 0, 0, 1, 0]
def k31_28 := cp kc31 [1, 1, 1, 0, 1, 0, 0, 0, 1, 1]
def k31_15 : Code := .seq k31_18 k31_16
def k31_26 := cp kc31 [1, 1, 1, 0, 1, 0, 0, 0, 0]
def k31_12 : Code := .cond (.tmp 11) k31_27 k31_28
def k31_14 : Code := .block 1 k31_15
def k31_13 := cp kc31 [1, 1, 1, 0, 1, 0, 0, 1, 1]
def k31_11 : Code := .seq k31_26 k31_12
def k31_10 : Code := .seq k31_14 k31_13
def k31_9 : Code := .seq k31_11 k31_10
def k31_8 : Code := .loop k31_9
def k31_25 := cp kc31 [1, 1, 1, 0, 0]
def k31_7 : Code := .block 0 k31_8
def k31_33 := cp kc31 [1, 1, 1, 1, 0]
def k31_5 := cp kc31 [1, 1, 1, 1, 1]
def k31_6 : Code := .seq k31_25 k31_7
def k31_4 : Code := .seq k31_33 k31_5
def k31_24 := cp kc31 [1, 1, 0]
def k31_3 : Code := .seq k31_6 k31_4
def k31_23 := cp kc31 [1, 0]
def k31_2 : Code := .seq k31_24 k31_3
def k31_22 := cp kc31 [0]
def k31_1 : Code := .seq k31_23 k31_2
def k31_0 : Code := .seq k31_22 k31_1
def p31_4 (cf : CallF) (lf : Nat) (s5 : Value) (s6 : Value) (h : Heap) : Ans :=
 some (.ret (.tuple ⟨[s5, s6, (.bool true)]⟩), h)
theorem p31_4_ok (cf : CallF) (lf : Nat) (T : Tmps) (h : Heap) : execK E cf lf 46 k31_4 T h (finK E [.tmp 2, .tmp 3, .tmp 4]) = p31_4 cf lf (T 5) (T 6) h := by kernel_rfl
def p31_13 (cf : CallF) (lf : Nat) (F8 : Value → Value → Value → Value → Heap → Ans) (s0 : Value) (s5 : Value) (s6 : Value) (s7 : Value) (h : Heap) : Ans :=
 bindO (binA E 3 .add s7 (.int .i64 (1))) fun t13 =>
 F8 s0 s5 s6 t13 h
theorem p31_13_ok (cf : CallF) (lf : Nat) (F8 : Value → Value → Value → Value → Heap → Ans) (T : Tmps) (h : Heap) : execK E cf lf 46 k31_13 T h (seqK (fun T h => F8 (T 0) (T 5) (T 6) (T 7) h) (blockK 0 (seqK (fun T h => p31_4 cf lf (T 5) (T 6) h) (finK E [.tmp 2, .tmp 3, .tmp 4])))) = p31_13 cf lf F8 (T 0) (T 5) (T 6) (T 7) h := by kernel_rfl
def p31_16 (cf : CallF) (lf : Nat) (F8 : Value → Value → Value → Value → Heap → Ans) (s0 : Value) (s5 : Value) (s6 : Value) (s7 : Value) (h : Heap) : Ans :=
 bindO (indexAddrA E 37 s0 s7) fun t31 =>
 bindO (fieldAddrA E 49 t31 1) fun t32 =>
 bindO (loadA E 9 t32 h) fun t33 =>
 bindO (binB E 9 .add s5 t33) fun t34 =>
 bindO (gO (boolIs false s6) (some s0)) fun t37 =>
 bindO (gO (boolIs false s6) (some s7)) fun t38 =>
 bindO (gO (boolIs false s6) (indexAddrA E 37 t37 t38)) fun t39 =>
 bindO (gO (boolIs false s6) (fieldAddrA E 49 t39 0)) fun t40 =>
 bindO (gO (boolIs false s6) (loadA E 3 t40 h)) fun t41 =>
 bindO (gO (boolIs false s6) (binA E 3 .eql t41 (.int .i64 (1)))) fun t42 =>
 bindO (pickA s6 (.bool true) t42) fun t43 =>
 p31_13 cf lf F8 s0 t34 t43 s7 h
theorem p31_16_ok (cf : CallF) (lf : Nat) (F8 : Value → Value → Value → Value → Heap → Ans) (T : Tmps) (h : Heap) : execK E cf lf 46 k31_16 T h (blockK 1 (seqK (fun T h => p31_13 cf lf F8 (T 0) (T 5) (T 6) (T 7) h) (seqK (fun T h => F8 (T 0) (T 5) (T 6) (T 7) h) (blockK 0 (seqK (fun T h => p31_4 cf lf (T 5) (T 6) h) (finK E [.tmp 2, .tmp 3, .tmp 4])))))) = p31_16 cf lf F8 (T 0) (T 5) (T 6) (T 7) h := by kernel_rfl
def p31_19 (cf : CallF) (lf : Nat) (F8 : Value → Value → Value → Value → Heap → Ans) (s0 : Value) (s5 : Value) (s6 : Value) (s7 : Value) (s27 : Value) (h : Heap) : Ans :=
 condV s27 (
  some (.ret (.tuple ⟨[(.string (mkS [])), (.bool false), (.bool false)]⟩), h)
 ) (
  p31_16 cf lf F8 s0 s5 s6 s7 h
 )
theorem p31_19_ok (cf : CallF) (lf : Nat) (F8 : Value → Value → Value → Value → Heap → Ans) (T : Tmps) (h : Heap) : execK E cf lf 46 k31_19 T h (seqK (fun T h => p31_16 cf lf F8 (T 0) (T 5) (T 6) (T 7) h) (blockK 1 (seqK (fun T h => p31_13 cf lf F8 (T 0) (T 5) (T 6) (T 7) h) (seqK (fun T h => F8 (T 0) (T 5) (T 6) (T 7) h) (blockK 0 (seqK (fun T h => p31_4 cf lf (T 5) (T 6) h) (finK E [.tmp 2, .tmp 3, .tmp 4]))))))) = p31_19 cf lf F8 (T 0) (T 5) (T 6) (T 7) (T 27) h := by kernel_rfl
def p31_9 (cf : CallF) (lf : Nat) (F8 : Value → Value → Value → Value → Heap → Ans) (s0 : Value) (s5 : Value) (s6 : Value) (s7 : Value) (h : Heap) : Ans :=
 bindO (lenA E 37 s0) fun t10 =>
 bindO (binB E 3 .lss s7 t10) fun t11 =>
 condV t11 (
  bindO (indexAddrA E 37 s0 s7) fun t16 =>
  bindO (fieldAddrA E 49 t16 0) fun t17 =>
  bindO (loadA E 3 t17 h) fun t18 =>
  bindO (binA E 3 .neq t18 (.int .i64 (0))) fun t19 =>
  bindO (gO (boolIs true t19) (some s0)) fun t21 =>
  bindO (gO (boolIs true t19) (some s7)) fun t22 =>
  bindO (gO (boolIs true t19) (indexAddrA E 37 t21 t22)) fun t23 =>
  bindO (gO (boolIs true t19) (fieldAddrA E 49 t23 0)) fun t24 =>
  bindO (gO (boolIs true t19) (loadA E 3 t24 h)) fun t25 =>
  bindO (gO (boolIs true t19) (binA E 3 .neq t25 (.int .i64 (1)))) fun t26 =>
  bindO (pickA t19 t26 (.bool false)) fun t27 =>
  p31_19 cf lf F8 s0 s5 s6 s7 t27 h
 ) (
  p31_4 cf lf s5 s6 h
 )
theorem p31_9_ok (cf : CallF) (lf : Nat) (F8 : Value → Value → Value → Value → Heap → Ans) (T : Tmps) (h : Heap) : execK E cf lf 46 k31_9 T h (seqK (fun T h => F8 (T 0) (T 5) (T 6) (T 7) h) (blockK 0 (seqK (fun T h => p31_4 cf lf (T 5) (T 6) h) (finK E [.tmp 2, .tmp 3, .tmp 4])))) = p31_9 cf lf F8 (T 0) (T 5) (T 6) (T 7) h := by simp only [k31_10, k31_11, k31_12, k31_14, k31_15, k31_18, k31_9, execK_all, p31_13_ok, p31_16_ok, p31_19_ok]; delta p31_9; generalize p31_13 = G0; generalize p31_16 = G1; generalize p31_19 = G2; as_aux_lemma => kernel_rfl
def l31_8 (cf : CallF) (lf : Nat) : Nat → Value → Value → Value → Value → Heap → Ans
 | 0, _, _, _, _, _ => none
 | n + 1, s0, s5, s6, s7, h => p31_9 cf lf (l31_8 cf lf n) s0 s5 s6 s7 h
theorem l31_8_ok (cf : CallF) (lf : Nat) (n : Nat) : ∀ (T : Tmps) (h : Heap), iterK (fun T h K => execK E cf lf 46 k31_9 T h K) (blockK 0 (seqK (fun T h => p31_4 cf lf (T 5) (T 6) h) (finK E [.tmp 2, .tmp 3, .tmp 4]))) n T h = l31_8 cf lf n (T 0) (T 5) (T 6) (T 7) h := by
 induction n with
 | zero => intro T h; rfl
 | succ n ih =>
  intro T h
  rw [iterK_succ, show iterK (fun T h K => execK E cf lf 46 k31_9 T h K) (blockK 0 (seqK (fun T h => p31_4 cf lf (T 5) (T 6) h) (finK E [.tmp 2, .tmp 3, .tmp 4]))) n = (fun T h => l31_8 cf lf n (T 0) (T 5) (T 6) (T 7) h) from funext fun T => funext fun h => ih T h]
  exact p31_9_ok cf lf (l31_8 cf lf n) T h
def p31_7 (cf : CallF) (lf : Nat) (s0 : Value) (s5 : Value) (s6 : Value) (s7 : Value) (h : Heap) : Ans :=
 l31_8 cf lf lf s0 s5 s6 s7 h
theorem p31_7_ok (cf : CallF) (lf : Nat) (T : Tmps) (h : Heap) : execK E cf lf 46 k31_7 T h (seqK (fun T h => p31_4 cf lf (T 5) (T 6) h) (finK E [.tmp 2, .tmp 3, .tmp 4])) = p31_7 cf lf (T 0) (T 5) (T 6) (T 7) h := by simp only [k31_7, k31_8, execK_all, l31_8_ok]; delta p31_7; generalize l31_8 = G0; as_aux_lemma => kernel_rfl
def p31_0 (cf : CallF) (lf : Nat) (s0 : Value) (h : Heap) : Ans :=
 p31_7 cf lf s0 (.string (mkS [])) (.bool false) (.int .i64 (0)) h
theorem p31_0_ok (cf : CallF) (lf : Nat) (T : Tmps) (h : Heap) : execK E cf lf 46 k31_0 T h (finK E [.tmp 2, .tmp 3, .tmp 4]) = p31_0 cf lf (T 0) h := by simp only [k31_0, k31_1, k31_2, k31_3, k31_6, execK_all, p31_4_ok, p31_7_ok]; delta p31_0; generalize p31_4 = G0; generalize p31_7 = G1; as_aux_lemma => kernel_rfl
def f31 (cf : CallF) (lf : Nat) (a0 : Value) (h : Heap) : Ans := p31_0 cf lf a0 h
theorem f31_ok (cf : CallF) (lf : Nat) (a0 : Value) (h : Heap) : stepN E cf lf 31 [a0] h = f31 cf lf a0 h := (show stepN E cf lf 31 [a0] h = execK E cf lf 46 k31_0 (T0 [a0]) h (finK E [.tmp 2, .tmp 3, .tmp 4]) by kernel_rfl).trans ((p31_0_ok cf lf (T0 [a0]) h).trans (by kernel_rfl))
noncomputable def kc34 := codeOf Tryd.f34
def k34_32 := cp kc34 [1, 1, 0, 1, 0, 0, 1, 0, 0, 1, 0, 0]
def k34_21 := cp kc34 [1, 1, 0, 1, 0, 0, 1, 0, 0, 1, 0, 1]
def k34_20 : Code := .seq k34_32 k34_21
def k34_31 := cp kc34 [1, 1, 0, 1, 0, 0, 1, 0, 0, 1, 1]
def k34_30 := cp kc34 [1, 1, 0, 1, 0, 0, 1, 0, 0, 0]
def k34_19 : Code := .cond (.tmp 80) k34_20 k34_31
def k34_28 := cp kc34 [1, 1, 0, 1, 0, 0, 0, 1, 0]
def k34_29 := cp kc34 [1, 1, 0, 1, 0, 0, 0, 1, 1]
def k34_18 : Code := .seq k34_30 k34_19
def k34_27 := cp kc34 [1, 1, 0, 1, 0, 0, 0, 0]
def k34_15 : Code := .cond (.tmp 14) k34_28 k34_29
def k34_17 : Code := .block 1 k34_18
def k34_16 := cp kc34 [1, 1, 0, 1, 0, 0, 1, 1]
def k34_14 : Code := .seq k34_27 k34_15
def k34_13 : Code := .seq k34_17 k34_16
def k34_12 : Code := .seq k34_14 k34_13
def k34_25 := cp kc34 [1, 0, 1, 0, 0]
def k34_6 := cp kc34 [1, 0, 1, 0, 1]
def k34_11 : Code := .loop k34_12
def k34_5 : Code := .seq k34_25 k34_6
def k34_24 := cp kc34 [1, 0, 1, 1]
def k34_26 := cp kc34 [1, 1, 0, 0]
def k34_10 : Code := .block 0 k34_11
def k34_33 := cp kc34 [1, 1, 1, 0]
def k34_8 := cp kc34 [1, 1, 1, 1]
def k34_23 := cp kc34 [1, 0, 0]
def k34_4 : Code := .cond (.tmp 10) k34_5 k34_24
def k34_9 : Code := .seq k34_26 k34_10
def k34_7 : Code := .seq k34_33 k34_8
def k34_3 : Code := .seq k34_23 k34_4
def k34_2 : Code := .seq k34_9 k34_7
def k34_22 := cp kc34 [0]
def k34_1 : Code := .seq k34_3 k34_2
def k34_0 : Code := .seq k34_22 k34_1
def p34_7 (cf : CallF) (lf : Nat) (h : Heap) : Ans :=
 some (.ret (.bool true), h)
theorem p34_7_ok (cf : CallF) (lf : Nat) (T : Tmps) (h : Heap) : execK E cf lf 81 k34_7 T h (finK E [.tmp 4]) = p34_7 cf lf h := by kernel_rfl
def p34_16 (cf : CallF) (lf : Nat) (F11 : Value → Value → Value → Heap → Ans) (s0 : Value) (s1 : Value) (s5 : Value) (h : Heap) : Ans :=
 bindO (binA E 3 .add s5 (.int .i64 (1))) fun t16 =>
 F11 s0 s1 t16 h
theorem p34_16_ok (cf : CallF) (lf : Nat) (F11 : Value → Value → Value → Heap → Ans) (T : Tmps) (h : Heap) : execK E cf lf 81 k34_16 T h (seqK (fun T h => F11 (T 0) (T 1) (T 5) h) (blockK 0 (seqK (fun T h => p34_7 cf lf h) (finK E [.tmp 4])))) = p34_16 cf lf F11 (T 0) (T 1) (T 5) h := by kernel_rfl
def p34_19 (cf : CallF) (lf : Nat) (F11 : Value → Value → Value → Heap → Ans) (s0 : Value) (s1 : Value) (s5 : Value) (s80 : Value) (h : Heap) : Ans :=
 condV s80 (
  some (.ret (.bool false), h)
 ) (
  p34_16 cf lf F11 s0 s1 s5 h
 )
theorem p34_19_ok (cf : CallF) (lf : Nat) (F11 : Value → Value → Value → Heap → Ans) (T : Tmps) (h : Heap) : execK E cf lf 81 k34_19 T h (blockK 1 (seqK (fun T h => p34_16 cf lf F11 (T 0) (T 1) (T 5) h) (seqK (fun T h => F11 (T 0) (T 1) (T 5) h) (blockK 0 (seqK (fun T h => p34_7 cf lf h) (finK E [.tmp 4])))))) = p34_19 cf lf F11 (T 0) (T 1) (T 5) (T 80) h := by kernel_rfl
def p34_12 (cf : CallF) (lf : Nat) (F11 : Value → Value → Value → Heap → Ans) (s0 : Value) (s1 : Value) (s5 : Value) (h : Heap) : Ans :=
 bindO (lenA E 37 s0) fun t13 =>
 bindO (binB E 3 .lss s5 t13) fun t14 =>
 condV t14 (
  bindO (indexAddrA E 37 s0 s5) fun t19 =>
  bindO (fieldAddrA E 49 t19 0) fun t20 =>
  bindO (loadA E 3 t20 h) fun t21 =>
  bindO (indexAddrA E 37 s1 s5) fun t24 =>
  bindO (fieldAddrA E 49 t24 0) fun t25 =>
  bindO (loadA E 3 t25 h) fun t26 =>
  bindO (binB E 3 .neq t21 t26) fun t27 =>
  bindO (gO (boolIs false t27) (some s0)) fun t29 =>
  bindO (gO (boolIs false t27) (some s5)) fun t30 =>
  bindO (gO (boolIs false t27) (indexAddrA E 37 t29 t30)) fun t31 =>
  bindO (gO (boolIs false t27) (fieldAddrA E 49 t31 1)) fun t32 =>
  bindO (gO (boolIs false t27) (loadA E 9 t32 h)) fun t33 =>
  bindO (gO (boolIs false t27) (some s1)) fun t34 =>
  bindO (gO (boolIs false t27) (some s5)) fun t35 =>
  bindO (gO (boolIs false t27) (indexAddrA E 37 t34 t35)) fun t36 =>
  bindO (gO (boolIs false t27) (fieldAddrA E 49 t36 1)) fun t37 =>
  bindO (gO (boolIs false t27) (loadA E 9 t37 h)) fun t38 =>
  bindO (gO (boolIs false t27) (binB E 9 .neq t33 t38)) fun t39 =>
  bindO (pickA t27 (.bool true) t39) fun t40 =>
  bindO (gO (boolIs false t40) (some s0)) fun t42 =>
  bindO (gO (boolIs false t40) (some s5)) fun t43 =>
  bindO (gO (boolIs false t40) (indexAddrA E 37 t42 t43)) fun t44 =>
  bindO (gO (boolIs false t40) (fieldAddrA E 49 t44 2)) fun t45 =>
  bindO (gO (boolIs false t40) (loadA E 9 t45 h)) fun t46 =>
  bindO (gO (boolIs false t40) (some s1)) fun t47 =>
  bindO (gO (boolIs false t40) (some s5)) fun t48 =>
  bindO (gO (boolIs false t40) (indexAddrA E 37 t47 t48)) fun t49 =>
  bindO (gO (boolIs false t40) (fieldAddrA E 49 t49 2)) fun t50 =>
  bindO (gO (boolIs false t40) (loadA E 9 t50 h)) fun t51 =>
  bindO (gO (boolIs false t40) (binB E 9 .neq t46 t51)) fun t52 =>
  bindO (pickA t40 (.bool true) t52) fun t53 =>
  bindO (gO (boolIs false t53) (some s0)) fun t55 =>
  bindO (gO (boolIs false t53) (some s5)) fun t56 =>
  bindO (gO (boolIs false t53) (indexAddrA E 37 t55 t56)) fun t57 =>
  bindO (gO (boolIs false t53) (fieldAddrA E 49 t57 3)) fun t58 =>
  bindO (gO (boolIs false t53) (loadA E 4 t58 h)) fun t59 =>
  bindO (gO (boolIs false t53) (some s1)) fun t60 =>
  bindO (gO (boolIs false t53) (some s5)) fun t61 =>
  bindO (gO (boolIs false t53) (indexAddrA E 37 t60 t61)) fun t62 =>
  bindO (gO (boolIs false t53) (fieldAddrA E 49 t62 3)) fun t63 =>
  bindO (gO (boolIs false t53) (loadA E 4 t63 h)) fun t64 =>
  bindO (gO (boolIs false t53) (binB E 4 .neq t59 t64)) fun t65 =>
  bindO (pickA t53 (.bool true) t65) fun t66 =>
  bindO (gO (boolIs false t66) (some s0)) fun t68 =>
  bindO (gO (boolIs false t66) (some s5)) fun t69 =>
  bindO (gO (boolIs false t66) (indexAddrA E 37 t68 t69)) fun t70 =>
  bindO (gO (boolIs false t66) (fieldAddrA E 49 t70 4)) fun t71 =>
  bindO (gO (boolIs false t66) (loadA E 37 t71 h)) fun t72 =>
  bindO (gO (boolIs false t66) (some s1)) fun t73 =>
  bindO (gO (boolIs false t66) (some s5)) fun t74 =>
  bindO (gO (boolIs false t66) (indexAddrA E 37 t73 t74)) fun t75 =>
  bindO (gO (boolIs false t66) (fieldAddrA E 49 t75 4)) fun t76 =>
  bindO (gO (boolIs false t66) (loadA E 37 t76 h)) fun t77 =>
  bindR (gR (boolIs false t66) (cf 34 [t72, t77] h) h) (fun v h => some (.panic v, h)) fun t78 h =>
  bindO (gO (boolIs false t66) (unA .not t78)) fun t79 =>
  bindO (pickA t66 (.bool true) t79) fun t80 =>
  p34_19 cf lf F11 s0 s1 s5 t80 h
 ) (
  p34_7 cf lf h
 )
theorem p34_12_ok (cf : CallF) (lf : Nat) (F11 : Value → Value → Value → Heap → Ans) (T : Tmps) (h : Heap) : execK E cf lf 81 k34_12 T h (seqK (fun T h => F11 (T 0) (T 1) (T 5) h) (blockK 0 (seqK (fun T h => p34_7 cf lf h) (finK E [.tmp 4])))) = p34_12 cf lf F11 (T 0) (T 1) (T 5) h := by simp only [k34_12, k34_13, k34_14, k34_15, k34_17, k34_18, execK_all, p34_16_ok, p34_19_ok]; delta p34_12; generalize p34_16 = G0; generalize p34_19 = G1; as_aux_lemma => kernel_rfl
def l34_11 (cf : CallF) (lf : Nat) : Nat → Value → Value → Value → Heap → Ans
 | 0, _, _, _, _ => none
 | n + 1, s0, s1, s5, h => p34_12 cf lf (l34_11 cf lf n) s0 s1 s5 h
theorem l34_11_ok (cf : CallF) (lf : Nat) (n : Nat) : ∀ (T : Tmps) (h : Heap), iterK (fun T h K => execK E cf lf 81 k34_12 T h K) (blockK 0 (seqK (fun T h => p34_7 cf lf h) (finK E [.tmp 4]))) n T h = l34_11 cf lf n (T 0) (T 1) (T 5) h := by
 induction n with
 | zero => intro T h; rfl
 | succ n ih =>
  intro T h
  rw [iterK_succ, show iterK (fun T h K => execK E cf lf 81 k34_12 T h K) (blockK 0 (seqK (fun T h => p34_7 cf lf h) (finK E [.tmp 4]))) n = (fun T h => l34_11 cf lf n (T 0) (T 1) (T 5) h) from funext fun T => funext fun h => ih T h]
  exact p34_12_ok cf lf (l34_11 cf lf n) T h
def p34_10 (cf : CallF) (lf : Nat) (s0 : Value) (s1 : Value) (s5 : Value) (h : Heap) : Ans :=
 l34_11 cf lf lf s0 s1 s5 h
theorem p34_10_ok (cf : CallF) (lf : Nat) (T : Tmps) (h : Heap) : execK E cf lf 81 k34_10 T h (seqK (fun T h => p34_7 cf lf h) (finK E [.tmp 4])) = p34_10 cf lf (T 0) (T 1) (T 5) h := by simp only [k34_10, k34_11, execK_all, l34_11_ok]; delta p34_10; generalize l34_11 = G0; as_aux_lemma => kernel_rfl
def p34_0 (cf : CallF) (lf : Nat) (s0 : Value) (s1 : Value) (h : Heap) : Ans :=
 bindO (lenA E 37 s0) fun t7 =>
 bindO (lenA E 37 s1) fun t9 =>
 bindO (binB E 3 .neq t7 t9) fun t10 =>
 condV t10 (
  some (.ret (.bool false), h)
 ) (
  p34_10 cf lf s0 s1 (.int .i64 (0)) h
 )
theorem p34_0_ok (cf : CallF) (lf : Nat) (T : Tmps) (h : Heap) : execK E cf lf 81 k34_0 T h (finK E [.tmp 4]) = p34_0 cf lf (T 0) (T 1) h := by simp only [k34_0, k34_1, k34_2, k34_3, k34_4, k34_5, k34_9, execK_all, p34_10_ok, p34_7_ok]; delta p34_0; generalize p34_10 = G0; generalize p34_7 = G1; as_aux_lemma => kernel_rfl
def f34 (cf : CallF) (lf : Nat) (a0 : Value) (a1 : Value) (h : Heap) : Ans := p34_0 cf lf a0 a1 h
theorem f34_ok (cf : CallF) (lf : Nat) (a0 a1 : Value) (h : Heap) : stepN E cf lf 34 [a0, a1] h = f34 cf lf a0 a1 h := (show stepN E cf lf 34 [a0, a1] h = execK E cf lf 81 k34_0 (T0 [a0, a1]) h (finK E [.tmp 4]) by kernel_rfl).trans ((p34_0_ok cf lf (T0 [a0, a1]) h).trans (by kernel_rfl))
def f35 (cf : CallF) (lf : Nat) (a0 : Value) (a1 : Value) (h : Heap) : Ans :=
 bindO (lenA E 9 a0) fun t6 =>
 bindO (lenA E 9 a1) fun t8 =>
 bindO (binB E 3 .geq t6 t8) fun t9 =>
 bindO (gO (boolIs true t9) (some a0)) fun t11 =>
 bindO (gO (boolIs true t9) (some a0)) fun t12 =>
 bindO (gO (boolIs true t9) (lenA E 9 t12)) fun t13 =>
 bindO (gO (boolIs true t9) (some a1)) fun t14 =>
 bindO (gO (boolIs true t9) (lenA E 9 t14)) fun t15 =>
 bindO (gO (boolIs true t9) (binB E 3 .sub t13 t15)) fun t16 =>
 bindO (gO (boolIs true t9) (sliceA E 9 t11 (some t16) none h)) fun t17 =>
 bindO (gO (boolIs true t9) (some a1)) fun t18 =>
 bindO (gO (boolIs true t9) (binB E 9 .eql t17 t18)) fun t19 =>
 bindO (pickA t9 t19 (.bool false)) fun t20 =>
 some (.ret t20, h)
theorem f35_ok (cf : CallF) (lf : Nat) (a0 a1 : Value) (h : Heap) : stepN E cf lf 35 [a0, a1] h = f35 cf lf a0 a1 h := by kernel_rfl
noncomputable def kc36 := codeOf Tryd.f36
def k36_38 := cp kc36 [1, 1, 0, 1, 0, 0, 1, 0, 0, 1, 1, 1, 1, 0, 1, 0]
def k36_39 := cp kc36 [1, 1, 0, 1, 0, 0, 1, 0, 0, 1, 1, 1, 1, 0, 1, 1]
def k36_41 := cp kc36 [1, 1, 0, 1, 0, 0, 1, 0, 0, 1, 1, 1, 1, 1, 1, 0]
def k36_42 := cp kc36 [1, 1, 0, 1, 0, 0, 1, 0, 0, 1, 1, 1, 1, 1, 1, 1]
def k36_37 := cp kc36 [1, 1, 0, 1, 0, 0, 1, 0, 0, 1, 1, 1, 1, 0, 0]
def k36_22 : Code := .cond (.tmp 39) k36_38 k36_39
def k36_40 := cp kc36 [1, 1, 0, 1, 0, 0, 1, 0, 0, 1, 1, 1, 1, 1, 0]
def k36_20 : Code := .cond (.tmp 51) k36_41 k36_42
def k36_34 := cp kc36 [1, 1, 0, 1, 0, 0, 1, 0, 0, 1, 1, 0, 1, 0]
def k36_35 := cp kc36 [1, 1, 0, 1, 0, 0, 1, 0, 0, 1, 1, 0, 1, 1]
def k36_21 : Code := .seq k36_37 k36_22
def k36_19 : Code := .seq k36_40 k36_20
def k36_33 := cp kc36 [1, 1, 0, 1, 0, 0, 1, 0, 0, 1, 1, 0, 0]
def k36_24 : Code := .cond (.tmp 24) k36_34 k36_35
def k36_36 := cp kc36 [1, 1, 0, 1, 0, 0, 1, 0, 0, 1, 1, 1, 0]
def k36_18 : Code := .seq k36_21 k36_19
def k36_23 : Code := .seq k36_33 k36_24
def k36_17 : Code := .seq k36_36 k36_18
def k36_32 := cp kc36 [1, 1, 0, 1, 0, 0, 1, 0, 0, 1, 0]
def k36_16 : Code := .seq k36_23 k36_17
def k36_31 := cp kc36 [1, 1, 0, 1, 0, 0, 1, 0, 0, 0]
def k36_15 : Code := .seq k36_32 k36_16
def k36_29 := cp kc36 [1, 1, 0, 1, 0, 0, 0, 1, 0]
def k36_30 := cp kc36 [1, 1, 0, 1, 0, 0, 0, 1, 1]
def k36_14 : Code := .seq k36_31 k36_15
def k36_28 := cp kc36 [1, 1, 0, 1, 0, 0, 0, 0]
def k36_11 : Code := .cond (.tmp 10) k36_29 k36_30
def k36_13 : Code := .block 1 k36_14
def k36_12 := cp kc36 [1, 1, 0, 1, 0, 0, 1, 1]
def k36_10 : Code := .seq k36_28 k36_11
def k36_9 : Code := .seq k36_13 k36_12
def k36_8 : Code := .seq k36_10 k36_9
def k36_7 : Code := .loop k36_8
def k36_27 := cp kc36 [1, 1, 0, 0]
def k36_6 : Code := .block 0 k36_7
def k36_43 := cp kc36 [1, 1, 1, 0]
def k36_4 := cp kc36 [1, 1, 1, 1]
def k36_5 : Code := .seq k36_27 k36_6
def k36_3 : Code := .seq k36_43 k36_4
def k36_26 := cp kc36 [1, 0]
def k36_2 : Code := .seq k36_5 k36_3
def k36_25 := cp kc36 [0]
def k36_1 : Code := .seq k36_26 k36_2
def k36_0 : Code := .seq k36_25 k36_1
def p36_3 (cf : CallF) (lf : Nat) (s3 : Value) (h : Heap) : Ans :=
 some (.ret s3, h)
theorem p36_3_ok (cf : CallF) (lf : Nat) (T : Tmps) (h : Heap) : execK E cf lf 55 k36_3 T h (finK E [.tmp 2]) = p36_3 cf lf (T 3) h := by kernel_rfl
def p36_12 (cf : CallF) (lf : Nat) (F7 : Value → Value → Value → Heap → Ans) (s0 : Value) (s3 : Value) (s4 : Value) (h : Heap) : Ans :=
 bindO (binA E 3 .add s4 (.int .i64 (1))) fun t12 =>
 F7 s0 s3 t12 h
theorem p36_12_ok (cf : CallF) (lf : Nat) (F7 : Value → Value → Value → Heap → Ans) (T : Tmps) (h : Heap) : execK E cf lf 55 k36_12 T h (seqK (fun T h => F7 (T 0) (T 3) (T 4) h) (blockK 0 (seqK (fun T h => p36_3 cf lf (T 3) h) (finK E [.tmp 2])))) = p36_12 cf lf F7 (T 0) (T 3) (T 4) h := by kernel_rfl
def p36_19 (cf : CallF) (lf : Nat) (F7 : Value → Value → Value → Heap → Ans) (s0 : Value) (s3 : Value) (s4 : Value) (h : Heap) : Ans :=
 bindO (binA E 3 .add s4 (.int .i64 (1))) fun t48 =>
 bindO (lenA E 37 s0) fun t50 =>
 bindO (binB E 3 .lss t48 t50) fun t51 =>
 condV t51 (
  bindO (binA E 9 .add s3 (.string (mkS [46]))) fun t53 =>
  p36_12 cf lf F7 s0 t53 s4 h
 ) (
  p36_12 cf lf F7 s0 s3 s4 h
 )
theorem p36_19_ok (cf : CallF) (lf : Nat) (F7 : Value → Value → Value → Heap → Ans) (T : Tmps) (h : Heap) : execK E cf lf 55 k36_19 T h (blockK 1 (seqK (fun T h => p36_12 cf lf F7 (T 0) (T 3) (T 4) h) (seqK (fun T h => F7 (T 0) (T 3) (T 4) h) (blockK 0 (seqK (fun T h => p36_3 cf lf (T 3) h) (finK E [.tmp 2])))))) = p36_19 cf lf F7 (T 0) (T 3) (T 4) h := by kernel_rfl
def p36_17 (cf : CallF) (lf : Nat) (F7 : Value → Value → Value → Heap → Ans) (s0 : Value) (s3 : Value) (s4 : Value) (s5 : Value) (s6 : Value) (h : Heap) : Ans :=
 bindO (binB E 9 .add s3 s6) fun t29 =>
 bindO (fieldAddrA E 49 s5 1) fun t30 =>
 bindO (loadA E 9 t30 h) fun t31 =>
 bindO (binB E 9 .add t29 t31) fun t32 =>
 bindO (fieldAddrA E 49 s5 2) fun t33 =>
 bindO (loadA E 9 t33 h) fun t34 =>
 bindO (binB E 9 .add t32 t34) fun t35 =>
 bindO (fieldAddrA E 49 s5 4) fun t36 =>
 bindO (loadA E 37 t36 h) fun t37 =>
 bindO (lenA E 37 t37) fun t38 =>
 bindO (binA E 3 .gtr t38 (.int .i64 (0))) fun t39 =>
 condV t39 (
  bindO (binA E 9 .add t35 (.string (mkS [60]))) fun t41 =>
  bindO (fieldAddrA E 49 s5 4) fun t42 =>
  bindO (loadA E 37 t42 h) fun t43 =>
  bindR (cf 36 [t43] h) (fun v h => some (.panic v, h)) fun t44 h =>
  bindO (binB E 9 .add t41 t44) fun t45 =>
  bindO (binA E 9 .add t45 (.string (mkS [62]))) fun t46 =>
  p36_19 cf lf F7 s0 t46 s4 h
 ) (
  p36_19 cf lf F7 s0 t35 s4 h
 )
theorem p36_17_ok (cf : CallF) (lf : Nat) (F7 : Value → Value → Value → Heap → Ans) (T : Tmps) (h : Heap) : execK E cf lf 55 k36_17 T h (blockK 1 (seqK (fun T h => p36_12 cf lf F7 (T 0) (T 3) (T 4) h) (seqK (fun T h => F7 (T 0) (T 3) (T 4) h) (blockK 0 (seqK (fun T h => p36_3 cf lf (T 3) h) (finK E [.tmp 2])))))) = p36_17 cf lf F7 (T 0) (T 3) (T 4) (T 5) (T 6) h := by simp only [k36_17, k36_18, k36_21, k36_22, execK_all, p36_19_ok]; delta p36_17; generalize p36_19 = G0; as_aux_lemma => kernel_rfl
def p36_15 (cf : CallF) (lf : Nat) (F7 : Value → Value → Value → Heap → Ans) (s0 : Value) (s3 : Value) (s4 : Value) (s5 : Value) (h : Heap) : Ans :=
 bindO (buildA E 114 [(0, (.string (mkS []))), (1, (.string (mkS [113]))), (2, (.string (mkS [36]))), (3, (.string (mkS [40])))]) fun t17 =>
 bindO (fieldAddrA E 49 s5 0) fun t18 =>
 bindO (loadA E 3 t18 h) fun t19 =>
 bindO (minL [t19, (.int .i64 (3))]) fun t20 =>
 bindO (maxL [t20, (.int .i64 (0))]) fun t21 =>
 bindO (indexA E 114 t17 t21) fun t22 =>
 bindO (fieldAddrA E 49 s5 3) fun t23 =>
 bindO (loadA E 4 t23 h) fun t24 =>
 condV t24 (
  bindO (binA E 9 .add t22 (.string (mkS [81]))) fun t26 =>
  p36_17 cf lf F7 s0 s3 s4 s5 t26 h
 ) (
  p36_17 cf lf F7 s0 s3 s4 s5 t22 h
 )
theorem p36_15_ok (cf : CallF) (lf : Nat) (F7 : Value → Value → Value → Heap → Ans) (T : Tmps) (h : Heap) : execK E cf lf 55 k36_15 T h (blockK 1 (seqK (fun T h => p36_12 cf lf F7 (T 0) (T 3) (T 4) h) (seqK (fun T h => F7 (T 0) (T 3) (T 4) h) (blockK 0 (seqK (fun T h => p36_3 cf lf (T 3) h) (finK E [.tmp 2])))))) = p36_15 cf lf F7 (T 0) (T 3) (T 4) (T 5) h := by simp only [k36_15, k36_16, k36_23, k36_24, execK_all, p36_17_ok]; delta p36_15; generalize p36_17 = G0; as_aux_lemma => kernel_rfl
def p36_8 (cf : CallF) (lf : Nat) (F7 : Value → Value → Value → Heap → Ans) (s0 : Value) (s3 : Value) (s4 : Value) (h : Heap) : Ans :=
 bindO (lenA E 37 s0) fun t9 =>
 bindO (binB E 3 .lss s4 t9) fun t10 =>
 condV t10 (
  bindO (indexAddrA E 37 s0 s4) fun t15 =>
  bindO (loadA E 49 t15 h) fun t16 =>
  bindR (valR (allocA E 49 h)) (fun v h => some (.panic v, h)) fun t5 h =>
  bindR (skipR (storeA E 49 t5 t16 h)) (fun v h => some (.panic v, h)) fun _ h =>
  p36_15 cf lf F7 s0 s3 s4 t5 h
 ) (
  p36_3 cf lf s3 h
 )
theorem p36_8_ok (cf : CallF) (lf : Nat) (F7 : Value → Value → Value → Heap → Ans) (T : Tmps) (h : Heap) : execK E cf lf 55 k36_8 T h (seqK (fun T h => F7 (T 0) (T 3) (T 4) h) (blockK 0 (seqK (fun T h => p36_3 cf lf (T 3) h) (finK E [.tmp 2])))) = p36_8 cf lf F7 (T 0) (T 3) (T 4) h := by simp only [k36_10, k36_11, k36_13, k36_14, k36_8, k36_9, execK_all, p36_12_ok, p36_15_ok]; delta p36_8; generalize p36_12 = G0; generalize p36_15 = G1; as_aux_lemma => kernel_rfl
def l36_7 (cf : CallF) (lf : Nat) : Nat → Value → Value → Value → Heap → Ans
 | 0, _, _, _, _ => none
 | n + 1, s0, s3, s4, h => p36_8 cf lf (l36_7 cf lf n) s0 s3 s4 h
theorem l36_7_ok (cf : CallF) (lf : Nat) (n : Nat) : ∀ (T : Tmps) (h : Heap), iterK (fun T h K => execK E cf lf 55 k36_8 T h K) (blockK 0 (seqK (fun T h => p36_3 cf lf (T 3) h) (finK E [.tmp 2]))) n T h = l36_7 cf lf n (T 0) (T 3) (T 4) h := by
 induction n with
 | zero => intro T h; rfl
 | succ n ih =>
  intro T h
  rw [iterK_succ, show iterK (fun T h K => execK E cf lf 55 k36_8 T h K) (blockK 0 (seqK (fun T h => p36_3 cf lf (T 3) h) (finK E [.tmp 2]))) n = (fun T h => l36_7 cf lf n (T 0) (T 3) (T 4) h) from funext fun T => funext fun h => ih T h]
  exact p36_8_ok cf lf (l36_7 cf lf n) T h
def p36_6 (cf : CallF) (lf : Nat) (s0 : Value) (s3 : Value) (s4 : Value) (h : Heap) : Ans :=
 l36_7 cf lf lf s0 s3 s4 h
theorem p36_6_ok (cf : CallF) (lf : Nat) (T : Tmps) (h : Heap) : execK E cf lf 55 k36_6 T h (seqK (fun T h => p36_3 cf lf (T 3) h) (finK E [.tmp 2])) = p36_6 cf lf (T 0) (T 3) (T 4) h := by simp only [k36_6, k36_7, execK_all, l36_7_ok]; delta p36_6; generalize l36_7 = G0; as_aux_lemma => kernel_rfl
def p36_0 (cf : CallF) (lf : Nat) (s0 : Value) (h : Heap) : Ans :=
 p36_6 cf lf s0 (.string (mkS [])) (.int .i64 (0)) h
theorem p36_0_ok (cf : CallF) (lf : Nat) (T : Tmps) (h : Heap) : execK E cf lf 55 k36_0 T h (finK E [.tmp 2]) = p36_0 cf lf (T 0) h := by simp only [k36_0, k36_1, k36_2, k36_5, execK_all, p36_3_ok, p36_6_ok]; delta p36_0; generalize p36_3 = G0; generalize p36_6 = G1; as_aux_lemma => kernel_rfl
def f36 (cf : CallF) (lf : Nat) (a0 : Value) (h : Heap) : Ans := p36_0 cf lf a0 h
theorem f36_ok (cf : CallF) (lf : Nat) (a0 : Value) (h : Heap) : stepN E cf lf 36 [a0] h = f36 cf lf a0 h := (show stepN E cf lf 36 [a0] h = execK E cf lf 55 k36_0 (T0 [a0]) h (finK E [.tmp 2]) by kernel_rfl).trans ((p36_0_ok cf lf (T0 [a0]) h).trans (by kernel_rfl))
def f38 (cf : CallF) (lf : Nat) (a0 : Value) (a1 : Value) (h : Heap) : Ans :=
 bindR (cf 60 [a0, a1] h) (fun v h => some (.panic v, h)) fun t7 h =>
 some (.ret t7, h)
theorem f38_ok (cf : CallF) (lf : Nat) (a0 a1 : Value) (h : Heap) : stepN E cf lf 38 [a0, a1] h = f38 cf lf a0 a1 h := by kernel_rfl
def f44 (cf : CallF) (lf : Nat) (a0 : Value) (a1 : Value) (h : Heap) : Ans :=
 bindO (nilA a0) fun t6 =>
 bindO (fieldAddrA E 57 t6 0) fun t7 =>
 bindO (loadA E 9 t7 h) fun t8 =>
 bindO (nilA a0) fun t10 =>
 bindO (fieldAddrA E 57 t10 1) fun t11 =>
 bindO (loadA E 3 t11 h) fun t12 =>
 bindO (sliceA E 9 t8 (some t12) none h) fun t13 =>
 bindR (cf 38 [t13, a1] h) (fun v h => some (.panic v, h)) fun t15 h =>
 some (.ret t15, h)
theorem f44_ok (cf : CallF) (lf : Nat) (a0 a1 : Value) (h : Heap) : stepN E cf lf 44 [a0, a1] h = f44 cf lf a0 a1 h := by kernel_rfl
end
end Go.Proofs.YteekjekckgpbfaaDoor.Abs
end
