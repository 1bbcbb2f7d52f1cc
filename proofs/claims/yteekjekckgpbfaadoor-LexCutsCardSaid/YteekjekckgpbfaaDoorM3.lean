/- A part of the proof: the abstract machine, the printed functions, what they compute. -/
import Derived.Test.YteekjekckgpbfaaDoorM1
import Derived.KernelRfl
import Derived.Test.YteekjekckgpbfaaDoorM2
import Derived.Test.YteekjekckgpbfaaDoorM0
set_option linter.unusedVariables false
set_option linter.unusedSimpArgs false
set_option linter.defProp false
set_option linter.unnecessarySimpa false
section
set_option maxRecDepth 100000
namespace Go.Proofs.YteekjekckgpbfaaDoor.Abs
noncomputable section
noncomputable def kc45 := codeOf Tryd.f45
def k45_43 := cp kc45 [1, 1, 0, 0, 0, 1, 1, 1, 1, 1, 1, 1, 1, 0, 1, 0, 0]
def k45_20 := cp kc45 [1, 1, 0, 0, 0, 1, 1, 1, 1, 1, 1, 1, 1, 0, 1, 0, 1]
def k45_19 : Code := .seq k45_43 k45_20
def k45_42 := cp kc45 [1, 1, 0, 0, 0, 1, 1, 1, 1, 1, 1, 1, 1, 0, 1, 1]
def k45_41 := cp kc45 [1, 1, 0, 0, 0, 1, 1, 1, 1, 1, 1, 1, 1, 0, 0]
def k45_18 : Code := .cond (.tmp 81) k45_19 k45_42
def k45_17 : Code := .seq k45_41 k45_18
def k45_16 := cp kc45 [1, 1, 0, 0, 0, 1, 1, 1, 1, 1, 1, 1, 1, 1]
def k45_37 := cp kc45 [1, 1, 0, 0, 0, 1, 1, 1, 1, 1, 0, 1, 0]
def k45_38 := cp kc45 [1, 1, 0, 0, 0, 1, 1, 1, 1, 1, 0, 1, 1]
def k45_40 := cp kc45 [1, 1, 0, 0, 0, 1, 1, 1, 1, 1, 1, 1, 0]
def k45_15 : Code := .seq k45_17 k45_16
def k45_34 := cp kc45 [1, 1, 0, 0, 0, 1, 1, 1, 1, 0, 1, 0]
def k45_35 := cp kc45 [1, 1, 0, 0, 0, 1, 1, 1, 1, 0, 1, 1]
def k45_36 := cp kc45 [1, 1, 0, 0, 0, 1, 1, 1, 1, 1, 0, 0]
def k45_13 : Code := .cond (.tmp 59) k45_37 k45_38
def k45_39 := cp kc45 [1, 1, 0, 0, 0, 1, 1, 1, 1, 1, 1, 0]
def k45_14 : Code := .seq k45_40 k45_15
def k45_33 := cp kc45 [1, 1, 0, 0, 0, 1, 1, 1, 1, 0, 0]
def k45_22 : Code := .cond (.tmp 48) k45_34 k45_35
def k45_12 : Code := .seq k45_36 k45_13
def k45_11 : Code := .seq k45_39 k45_14
def k45_21 : Code := .seq k45_33 k45_22
def k45_10 : Code := .seq k45_12 k45_11
def k45_32 := cp kc45 [1, 1, 0, 0, 0, 1, 1, 1, 0]
def k45_9 : Code := .seq k45_21 k45_10
def k45_28 := cp kc45 [1, 1, 0, 0, 0, 0, 1, 0]
def k45_29 := cp kc45 [1, 1, 0, 0, 0, 0, 1, 1]
def k45_31 := cp kc45 [1, 1, 0, 0, 0, 1, 1, 0]
def k45_8 : Code := .seq k45_32 k45_9
def k45_27 := cp kc45 [1, 1, 0, 0, 0, 0, 0]
def k45_24 : Code := .cond (.tmp 17) k45_28 k45_29
def k45_30 := cp kc45 [1, 1, 0, 0, 0, 1, 0]
def k45_7 : Code := .seq k45_31 k45_8
def k45_23 : Code := .seq k45_27 k45_24
def k45_6 : Code := .seq k45_30 k45_7
def k45_5 : Code := .seq k45_23 k45_6
def k45_4 : Code := .block 1 k45_5
def k45_3 : Code := .loop k45_4
def k45_26 := cp kc45 [1, 0]
def k45_2 : Code := .block 0 k45_3
def k45_25 := cp kc45 [0]
def k45_1 : Code := .seq k45_26 k45_2
def k45_0 : Code := .seq k45_25 k45_1
def p45_18 (cf : CallF) (lf : Nat) (F3 : Value → Value → Value → Heap → Ans) (s0 : Value) (s4 : Value) (s5 : Value) (s9 : Value) (s81 : Value) (h : Heap) : Ans :=
 condV s81 (
  bindO (nilA s0) fun t83 =>
  bindO (fieldAddrA E 57 t83 0) fun t84 =>
  bindO (loadA E 9 t84 h) fun t85 =>
  bindO (sliceA E 9 t85 none (some s5) h) fun t87 =>
  bindO (buildA E 57 [(0, t87), (1, s4)]) fun t89 =>
  bindR (valR (some (boxA 57 t89 h))) (fun v h => some (.panic v, h)) fun t90 h =>
  bindR (cf 49 [t90, (.int .i64 (2)), (.int .i64 (0))] h) (fun v h => some (.panic v, h)) fun t93 h =>
  bindO (nilA s9) fun t94 =>
  bindO (fieldAddrA E 39 t94 2) fun t95 =>
  bindR (skipR (storeA E 37 t95 t93 h)) (fun v h => some (.panic v, h)) fun _ h =>
  some (.ret (.tuple ⟨[]⟩), h)
 ) (
  some (.ret (.tuple ⟨[]⟩), h)
 )
theorem p45_18_ok (cf : CallF) (lf : Nat) (F3 : Value → Value → Value → Heap → Ans) (T : Tmps) (h : Heap) : execK E cf lf 96 k45_18 T h (seqK (fun T h => execK E cf lf 96 k45_16 T h (blockK 1 (seqK (fun T h => F3 (T 0) (T 3) (T 4) h) (blockK 0 (finK E []))))) (blockK 1 (seqK (fun T h => F3 (T 0) (T 3) (T 4) h) (blockK 0 (finK E []))))) = p45_18 cf lf F3 (T 0) (T 4) (T 5) (T 9) (T 81) h := by kernel_rfl
def p45_10 (cf : CallF) (lf : Nat) (F3 : Value → Value → Value → Heap → Ans) (s0 : Value) (s3 : Value) (s4 : Value) (s5 : Value) (s6 : Value) (h : Heap) : Ans :=
 bindO (fieldAddrA E 89 s3 1) fun t57 =>
 bindO (loadA E 9 t57 h) fun t58 =>
 bindO (binB E 9 .neq s6 t58) fun t59 =>
 condV t59 (
  F3 s0 s3 s4 h
 ) (
  bindO (nilA s0) fun t61 =>
  bindO (fieldAddrA E 57 t61 2) fun t62 =>
  bindO (loadA E 22 t62 h) fun t63 =>
  bindO (fieldAddrA E 89 s3 0) fun t64 =>
  bindO (loadA E 3 t64 h) fun t65 =>
  bindO (indexAddrA E 22 t63 t65) fun t66 =>
  bindO (nilA s0) fun t69 =>
  bindO (fieldAddrA E 57 t69 0) fun t70 =>
  bindO (loadA E 9 t70 h) fun t71 =>
  bindO (sliceA E 9 t71 (some s4) (some s5) h) fun t74 =>
  bindO (nilA t66) fun t75 =>
  bindO (fieldAddrA E 39 t75 1) fun t76 =>
  bindR (skipR (storeA E 9 t76 t74 h)) (fun v h => some (.panic v, h)) fun _ h =>
  bindO (nilA t66) fun t78 =>
  bindO (fieldAddrA E 39 t78 3) fun t79 =>
  bindO (loadA E 4 t79 h) fun t80 =>
  bindO (unA .not t80) fun t81 =>
  p45_18 cf lf F3 s0 s4 s5 t66 t81 h
 )
theorem p45_10_ok (cf : CallF) (lf : Nat) (F3 : Value → Value → Value → Heap → Ans) (T : Tmps) (h : Heap) : execK E cf lf 96 k45_10 T h (blockK 1 (seqK (fun T h => F3 (T 0) (T 3) (T 4) h) (blockK 0 (finK E [])))) = p45_10 cf lf F3 (T 0) (T 3) (T 4) (T 5) (T 6) h := by simp only [k45_10, k45_11, k45_12, k45_13, k45_14, k45_15, k45_17, execK_all, p45_18_ok]; delta p45_10; generalize p45_18 = G0; as_aux_lemma => kernel_rfl
def p45_22 (cf : CallF) (lf : Nat) (F3 : Value → Value → Value → Heap → Ans) (s0 : Value) (s3 : Value) (s4 : Value) (s5 : Value) (s6 : Value) (s48 : Value) (h : Heap) : Ans :=
 condV s48 (
  bindO (nilA s0) fun t50 =>
  bindO (fieldAddrA E 57 t50 1) fun t51 =>
  bindO (loadA E 3 t51 h) fun t52 =>
  bindO (binA E 3 .add t52 (.int .i64 (1))) fun t53 =>
  bindO (nilA s0) fun t54 =>
  bindO (fieldAddrA E 57 t54 1) fun t55 =>
  bindR (skipR (storeA E 3 t55 t53 h)) (fun v h => some (.panic v, h)) fun _ h =>
  p45_10 cf lf F3 s0 s3 s4 s5 s6 h
 ) (
  p45_10 cf lf F3 s0 s3 s4 s5 s6 h
 )
theorem p45_22_ok (cf : CallF) (lf : Nat) (F3 : Value → Value → Value → Heap → Ans) (T : Tmps) (h : Heap) : execK E cf lf 96 k45_22 T h (seqK (fun T h => p45_10 cf lf F3 (T 0) (T 3) (T 4) (T 5) (T 6) h) (blockK 1 (seqK (fun T h => F3 (T 0) (T 3) (T 4) h) (blockK 0 (finK E []))))) = p45_22 cf lf F3 (T 0) (T 3) (T 4) (T 5) (T 6) (T 48) h := by kernel_rfl
def p45_6 (cf : CallF) (lf : Nat) (F3 : Value → Value → Value → Heap → Ans) (s0 : Value) (s3 : Value) (s4 : Value) (h : Heap) : Ans :=
 bindO (nilA s0) fun t25 =>
 bindO (fieldAddrA E 57 t25 1) fun t26 =>
 bindO (loadA E 3 t26 h) fun t27 =>
 bindO (nilA s0) fun t30 =>
 bindO (fieldAddrA E 57 t30 0) fun t31 =>
 bindO (loadA E 9 t31 h) fun t32 =>
 bindO (sliceA E 9 t32 (some t27) none h) fun t34 =>
 bindR (cf 46 [t34, (.string (mkS [10]))] h) (fun v h => some (.panic v, h)) fun t35 h =>
 bindO (extractA t35 0) fun t36 =>
 bindO (extractA t35 1) fun t37 =>
 bindO (extractA t35 2) fun t38 =>
 bindO (nilA s0) fun t40 =>
 bindO (fieldAddrA E 57 t40 1) fun t41 =>
 bindO (loadA E 3 t41 h) fun t42 =>
 bindO (lenA E 9 t36) fun t44 =>
 bindO (binB E 3 .add t42 t44) fun t45 =>
 bindO (nilA s0) fun t46 =>
 bindO (fieldAddrA E 57 t46 1) fun t47 =>
 bindR (skipR (storeA E 3 t47 t45 h)) (fun v h => some (.panic v, h)) fun _ h =>
 p45_22 cf lf F3 s0 s3 s4 t27 t36 t38 h
theorem p45_6_ok (cf : CallF) (lf : Nat) (F3 : Value → Value → Value → Heap → Ans) (T : Tmps) (h : Heap) : execK E cf lf 96 k45_6 T h (blockK 1 (seqK (fun T h => F3 (T 0) (T 3) (T 4) h) (blockK 0 (finK E [])))) = p45_6 cf lf F3 (T 0) (T 3) (T 4) h := by simp only [k45_21, k45_6, k45_7, k45_8, k45_9, execK_all, p45_10_ok, p45_22_ok]; delta p45_6; generalize p45_10 = G0; generalize p45_22 = G1; as_aux_lemma => kernel_rfl
def p45_4 (cf : CallF) (lf : Nat) (F3 : Value → Value → Value → Heap → Ans) (s0 : Value) (s3 : Value) (s4 : Value) (h : Heap) : Ans :=
 bindR (cf 24 [s0] h) (fun v h => some (.panic v, h)) fun t16 h =>
 bindO (unA .not t16) fun t17 =>
 condV t17 (
  bindO (nilA s0) fun t19 =>
  bindO (fieldAddrA E 57 t19 0) fun t20 =>
  bindO (loadA E 9 t20 h) fun t21 =>
  bindO (lenA E 9 t21) fun t22 =>
  bindR (cf 25 [(.int .i64 (19)), t22] h) (fun v h => some (.panic v, h)) fun t23 h =>
  p45_6 cf lf F3 s0 s3 s4 h
 ) (
  p45_6 cf lf F3 s0 s3 s4 h
 )
theorem p45_4_ok (cf : CallF) (lf : Nat) (F3 : Value → Value → Value → Heap → Ans) (T : Tmps) (h : Heap) : execK E cf lf 96 k45_4 T h (seqK (fun T h => F3 (T 0) (T 3) (T 4) h) (blockK 0 (finK E []))) = p45_4 cf lf F3 (T 0) (T 3) (T 4) h := by simp only [k45_23, k45_24, k45_4, k45_5, execK_all, p45_6_ok]; delta p45_4; generalize p45_6 = G0; as_aux_lemma => kernel_rfl
def l45_3 (cf : CallF) (lf : Nat) : Nat → Value → Value → Value → Heap → Ans
 | 0, _, _, _, _ => none
 | n + 1, s0, s3, s4, h => p45_4 cf lf (l45_3 cf lf n) s0 s3 s4 h
theorem l45_3_ok (cf : CallF) (lf : Nat) (n : Nat) : ∀ (T : Tmps) (h : Heap), iterK (fun T h K => execK E cf lf 96 k45_4 T h K) (blockK 0 (finK E [])) n T h = l45_3 cf lf n (T 0) (T 3) (T 4) h := by
 induction n with
 | zero => intro T h; rfl
 | succ n ih =>
  intro T h
  rw [iterK_succ, show iterK (fun T h K => execK E cf lf 96 k45_4 T h K) (blockK 0 (finK E [])) n = (fun T h => l45_3 cf lf n (T 0) (T 3) (T 4) h) from funext fun T => funext fun h => ih T h]
  exact p45_4_ok cf lf (l45_3 cf lf n) T h
def p45_0 (cf : CallF) (lf : Nat) (s0 : Value) (s1 : Value) (h : Heap) : Ans :=
 bindR (valR (some (boxA 89 s1 h))) (fun v h => some (.panic v, h)) fun t3 h =>
 bindO (nilA s0) fun t12 =>
 bindO (fieldAddrA E 57 t12 1) fun t13 =>
 bindO (loadA E 3 t13 h) fun t14 =>
 l45_3 cf lf lf s0 t3 t14 h
theorem p45_0_ok (cf : CallF) (lf : Nat) (T : Tmps) (h : Heap) : execK E cf lf 96 k45_0 T h (finK E []) = p45_0 cf lf (T 0) (T 1) h := by simp only [k45_0, k45_1, k45_2, k45_3, execK_all, l45_3_ok]; delta p45_0; generalize l45_3 = G0; as_aux_lemma => kernel_rfl
def f45 (cf : CallF) (lf : Nat) (a0 : Value) (a1 : Value) (h : Heap) : Ans := p45_0 cf lf a0 a1 h
theorem f45_ok (cf : CallF) (lf : Nat) (a0 a1 : Value) (h : Heap) : stepN E cf lf 45 [a0, a1] h = f45 cf lf a0 a1 h := (show stepN E cf lf 45 [a0, a1] h = execK E cf lf 96 k45_0 (T0 [a0, a1]) h (finK E []) by kernel_rfl).trans ((p45_0_ok cf lf (T0 [a0, a1]) h).trans (by kernel_rfl))
def f46 (cf : CallF) (lf : Nat) (a0 : Value) (a1 : Value) (h : Heap) : Ans :=
 bindR (cf 66 [a0, a1] h) (fun v h => some (.panic v, h)) fun t9 h =>
 bindO (extractA t9 0) fun t10 =>
 bindO (extractA t9 1) fun t11 =>
 bindO (extractA t9 2) fun t12 =>
 some (.ret (.tuple ⟨[t10, t11, t12]⟩), h)
theorem f46_ok (cf : CallF) (lf : Nat) (a0 a1 : Value) (h : Heap) : stepN E cf lf 46 [a0, a1] h = f46 cf lf a0 a1 h := by kernel_rfl
def f47 (cf : CallF) (lf : Nat) (a0 : Value) (a1 : Value) (h : Heap) : Ans :=
 bindR (cf 67 [a0, a1] h) (fun v h => some (.panic v, h)) fun t7 h =>
 bindO (binA E 3 .geq t7 (.int .i64 (0))) fun t8 =>
 some (.ret t8, h)
theorem f47_ok (cf : CallF) (lf : Nat) (a0 a1 : Value) (h : Heap) : stepN E cf lf 47 [a0, a1] h = f47 cf lf a0 a1 h := by kernel_rfl
def f48 (cf : CallF) (lf : Nat) (h : Heap) : Ans :=
 bindR (valR (buildSliceA E 40 12 [(0, (.string (mkS [59, 59]))), (1, (.string (mkS [59]))), (2, (.string (mkS [38, 38]))), (3, (.string (mkS [124, 124]))), (4, (.string (mkS [124]))), (5, (.string (mkS [40]))), (6, (.string (mkS [41]))), (7, (.string (mkS [60, 60]))), (8, (.string (mkS [60]))), (9, (.string (mkS [62, 62]))), (10, (.string (mkS [62, 38]))), (11, (.string (mkS [62])))] h)) (fun v h => some (.panic v, h)) fun t1 h =>
 some (.ret t1, h)
theorem f48_ok (cf : CallF) (lf : Nat) (h : Heap) : stepN E cf lf 48 [] h = f48 cf lf  h := by kernel_rfl
noncomputable def kc49 := codeOf Tryd.f49
def k49_100 := cp kc49 [1, 1, 1, 1, 1, 1, 0, 0, 0, 1, 0, 1, 0, 1, 1, 1, 1, 1, 1, 1, 1, 1, 1, 1, 1, 1, 0, 1, 1, 1, 0, 1, 0]
def k49_101 := cp kc49 [1, 1, 1, 1, 1, 1, 0, 0, 0, 1, 0, 1, 0, 1, 1, 1, 1, 1, 1, 1, 1, 1, 1, 1, 1, 1, 0, 1, 1, 1, 0, 1, 1]
def k49_97 := cp kc49 [1, 1, 1, 1, 1, 1, 0, 0, 0, 1, 0, 1, 0, 1, 1, 1, 1, 1, 1, 1, 1, 1, 1, 1, 1, 1, 0, 1, 1, 0, 1, 0]
def k49_98 := cp kc49 [1, 1, 1, 1, 1, 1, 0, 0, 0, 1, 0, 1, 0, 1, 1, 1, 1, 1, 1, 1, 1, 1, 1, 1, 1, 1, 0, 1, 1, 0, 1, 1]
def k49_99 := cp kc49 [1, 1, 1, 1, 1, 1, 0, 0, 0, 1, 0, 1, 0, 1, 1, 1, 1, 1, 1, 1, 1, 1, 1, 1, 1, 1, 0, 1, 1, 1, 0, 0]
def k49_52 : Code := .cond (.tmp 200) k49_100 k49_101
def k49_96 := cp kc49 [1, 1, 1, 1, 1, 1, 0, 0, 0, 1, 0, 1, 0, 1, 1, 1, 1, 1, 1, 1, 1, 1, 1, 1, 1, 1, 0, 1, 1, 0, 0]
def k49_54 : Code := .cond (.tmp 195) k49_97 k49_98
def k49_51 : Code := .seq k49_99 k49_52
def k49_50 := cp kc49 [1, 1, 1, 1, 1, 1, 0, 0, 0, 1, 0, 1, 0, 1, 1, 1, 1, 1, 1, 1, 1, 1, 1, 1, 1, 1, 0, 1, 1, 1, 1]
def k49_53 : Code := .seq k49_96 k49_54
def k49_49 : Code := .seq k49_51 k49_50
def k49_90 := cp kc49 [1, 1, 1, 1, 1, 1, 0, 0, 0, 1, 0, 1, 0, 1, 1, 1, 1, 1, 1, 1, 1, 1, 1, 1, 0, 1, 0, 1, 0]
def k49_91 := cp kc49 [1, 1, 1, 1, 1, 1, 0, 0, 0, 1, 0, 1, 0, 1, 1, 1, 1, 1, 1, 1, 1, 1, 1, 1, 0, 1, 0, 1, 1]
def k49_95 := cp kc49 [1, 1, 1, 1, 1, 1, 0, 0, 0, 1, 0, 1, 0, 1, 1, 1, 1, 1, 1, 1, 1, 1, 1, 1, 1, 1, 0, 1, 0]
def k49_48 : Code := .seq k49_53 k49_49
def k49_89 := cp kc49 [1, 1, 1, 1, 1, 1, 0, 0, 0, 1, 0, 1, 0, 1, 1, 1, 1, 1, 1, 1, 1, 1, 1, 1, 0, 1, 0, 0]
def k49_43 : Code := .cond (.tmp 149) k49_90 k49_91
def k49_92 := cp kc49 [1, 1, 1, 1, 1, 1, 0, 0, 0, 1, 0, 1, 0, 1, 1, 1, 1, 1, 1, 1, 1, 1, 1, 1, 0, 1, 1, 0]
def k49_41 := cp kc49 [1, 1, 1, 1, 1, 1, 0, 0, 0, 1, 0, 1, 0, 1, 1, 1, 1, 1, 1, 1, 1, 1, 1, 1, 0, 1, 1, 1]
def k49_94 := cp kc49 [1, 1, 1, 1, 1, 1, 0, 0, 0, 1, 0, 1, 0, 1, 1, 1, 1, 1, 1, 1, 1, 1, 1, 1, 1, 1, 0, 0]
def k49_47 : Code := .seq k49_95 k49_48
def k49_102 := cp kc49 [1, 1, 1, 1, 1, 1, 0, 0, 0, 1, 0, 1, 0, 1, 1, 1, 1, 1, 1, 1, 1, 1, 1, 1, 1, 1, 1, 0]
def k49_56 := cp kc49 [1, 1, 1, 1, 1, 1, 0, 0, 0, 1, 0, 1, 0, 1, 1, 1, 1, 1, 1, 1, 1, 1, 1, 1, 1, 1, 1, 1]
def k49_42 : Code := .seq k49_89 k49_43
def k49_40 : Code := .seq k49_92 k49_41
def k49_46 : Code := .seq k49_94 k49_47
def k49_55 : Code := .seq k49_102 k49_56
def k49_88 := cp kc49 [1, 1, 1, 1, 1, 1, 0, 0, 0, 1, 0, 1, 0, 1, 1, 1, 1, 1, 1, 1, 1, 1, 1, 1, 0, 0]
def k49_39 : Code := .seq k49_42 k49_40
def k49_93 := cp kc49 [1, 1, 1, 1, 1, 1, 0, 0, 0, 1, 0, 1, 0, 1, 1, 1, 1, 1, 1, 1, 1, 1, 1, 1, 1, 0]
def k49_45 : Code := .cond (.tmp 176) k49_46 k49_55
def k49_38 : Code := .seq k49_88 k49_39
def k49_44 : Code := .seq k49_93 k49_45
def k49_81 := cp kc49 [1, 1, 1, 1, 1, 1, 0, 0, 0, 1, 0, 1, 0, 1, 1, 1, 1, 1, 1, 1, 0, 1, 1, 0]
def k49_82 := cp kc49 [1, 1, 1, 1, 1, 1, 0, 0, 0, 1, 0, 1, 0, 1, 1, 1, 1, 1, 1, 1, 0, 1, 1, 1]
def k49_84 := cp kc49 [1, 1, 1, 1, 1, 1, 0, 0, 0, 1, 0, 1, 0, 1, 1, 1, 1, 1, 1, 1, 1, 0, 1, 0]
def k49_85 := cp kc49 [1, 1, 1, 1, 1, 1, 0, 0, 0, 1, 0, 1, 0, 1, 1, 1, 1, 1, 1, 1, 1, 0, 1, 1]
def k49_87 := cp kc49 [1, 1, 1, 1, 1, 1, 0, 0, 0, 1, 0, 1, 0, 1, 1, 1, 1, 1, 1, 1, 1, 1, 1, 0]
def k49_37 : Code := .cond (.tmp 133) k49_38 k49_44
def k49_80 := cp kc49 [1, 1, 1, 1, 1, 1, 0, 0, 0, 1, 0, 1, 0, 1, 1, 1, 1, 1, 1, 1, 0, 1, 0]
def k49_33 : Code := .cond (.tmp 113) k49_81 k49_82
def k49_83 := cp kc49 [1, 1, 1, 1, 1, 1, 0, 0, 0, 1, 0, 1, 0, 1, 1, 1, 1, 1, 1, 1, 1, 0, 0]
def k49_58 : Code := .cond (.tmp 122) k49_84 k49_85
def k49_86 := cp kc49 [1, 1, 1, 1, 1, 1, 0, 0, 0, 1, 0, 1, 0, 1, 1, 1, 1, 1, 1, 1, 1, 1, 0]
def k49_36 : Code := .seq k49_87 k49_37
def k49_79 := cp kc49 [1, 1, 1, 1, 1, 1, 0, 0, 0, 1, 0, 1, 0, 1, 1, 1, 1, 1, 1, 1, 0, 0]
def k49_32 : Code := .seq k49_80 k49_33
def k49_57 : Code := .seq k49_83 k49_58
def k49_35 : Code := .cond (.tmp 122) k49_86 k49_36
def k49_74 := cp kc49 [1, 1, 1, 1, 1, 1, 0, 0, 0, 1, 0, 1, 0, 1, 1, 1, 0, 1, 0, 1, 0]
def k49_75 := cp kc49 [1, 1, 1, 1, 1, 1, 0, 0, 0, 1, 0, 1, 0, 1, 1, 1, 0, 1, 0, 1, 1]
def k49_31 : Code := .seq k49_79 k49_32
def k49_34 : Code := .seq k49_57 k49_35
def k49_73 := cp kc49 [1, 1, 1, 1, 1, 1, 0, 0, 0, 1, 0, 1, 0, 1, 1, 1, 0, 1, 0, 0]
def k49_26 : Code := .cond (.tmp 84) k49_74 k49_75
def k49_78 := cp kc49 [1, 1, 1, 1, 1, 1, 0, 0, 0, 1, 0, 1, 0, 1, 1, 1, 1, 1, 1, 0]
def k49_30 : Code := .cond (.tmp 103) k49_31 k49_34
def k49_25 : Code := .seq k49_73 k49_26
def k49_24 := cp kc49 [1, 1, 1, 1, 1, 1, 0, 0, 0, 1, 0, 1, 0, 1, 1, 1, 0, 1, 1]
def k49_77 := cp kc49 [1, 1, 1, 1, 1, 1, 0, 0, 0, 1, 0, 1, 0, 1, 1, 1, 1, 1, 0]
def k49_29 : Code := .seq k49_78 k49_30
def k49_72 := cp kc49 [1, 1, 1, 1, 1, 1, 0, 0, 0, 1, 0, 1, 0, 1, 1, 1, 0, 0]
def k49_23 : Code := .seq k49_25 k49_24
def k49_76 := cp kc49 [1, 1, 1, 1, 1, 1, 0, 0, 0, 1, 0, 1, 0, 1, 1, 1, 1, 0]
def k49_28 : Code := .cond (.tmp 92) k49_77 k49_29
def k49_22 : Code := .seq k49_72 k49_23
def k49_27 : Code := .seq k49_76 k49_28
def k49_71 := cp kc49 [1, 1, 1, 1, 1, 1, 0, 0, 0, 1, 0, 1, 0, 1, 1, 0]
def k49_21 : Code := .cond (.tmp 66) k49_22 k49_27
def k49_70 := cp kc49 [1, 1, 1, 1, 1, 1, 0, 0, 0, 1, 0, 1, 0, 1, 0]
def k49_20 : Code := .seq k49_71 k49_21
def k49_69 := cp kc49 [1, 1, 1, 1, 1, 1, 0, 0, 0, 1, 0, 1, 0, 0]
def k49_19 : Code := .cond (.tmp 63) k49_70 k49_20
def k49_18 : Code := .seq k49_69 k49_19
def k49_66 := cp kc49 [1, 1, 1, 1, 1, 1, 0, 0, 0, 0, 1, 0]
def k49_67 := cp kc49 [1, 1, 1, 1, 1, 1, 0, 0, 0, 0, 1, 1]
def k49_68 := cp kc49 [1, 1, 1, 1, 1, 1, 0, 0, 0, 1, 0, 0]
def k49_17 : Code := .block 2 k49_18
def k49_65 := cp kc49 [1, 1, 1, 1, 1, 1, 0, 0, 0, 0, 0]
def k49_15 : Code := .cond (.tmp 38) k49_66 k49_67
def k49_16 : Code := .seq k49_68 k49_17
def k49_14 : Code := .seq k49_65 k49_15
def k49_13 : Code := .block 1 k49_16
def k49_12 : Code := .seq k49_14 k49_13
def k49_104 := cp kc49 [1, 1, 1, 1, 1, 1, 1, 1, 0]
def k49_9 := cp kc49 [1, 1, 1, 1, 1, 1, 1, 1, 1]
def k49_11 : Code := .loop k49_12
def k49_103 := cp kc49 [1, 1, 1, 1, 1, 1, 1, 0]
def k49_8 : Code := .seq k49_104 k49_9
def k49_10 : Code := .block 0 k49_11
def k49_7 : Code := .seq k49_103 k49_8
def k49_64 := cp kc49 [1, 1, 1, 1, 1, 0]
def k49_6 : Code := .seq k49_10 k49_7
def k49_63 := cp kc49 [1, 1, 1, 1, 0]
def k49_5 : Code := .seq k49_64 k49_6
def k49_62 := cp kc49 [1, 1, 1, 0]
def k49_4 : Code := .seq k49_63 k49_5
def k49_61 := cp kc49 [1, 1, 0]
def k49_3 : Code := .seq k49_62 k49_4
def k49_60 := cp kc49 [1, 0]
def k49_2 : Code := .seq k49_61 k49_3
def k49_59 := cp kc49 [0]
def k49_1 : Code := .seq k49_60 k49_2
def k49_0 : Code := .seq k49_59 k49_1
def p49_7 (cf : CallF) (lf : Nat) (s7 : Value) (s10 : Value) (h : Heap) : Ans :=
 bindO (loadA E 1 s10 h) fun t206 =>
 bindR (callA E cf t206 [] h) (fun v h => some (.panic v, h)) fun t207 h =>
 bindO (loadA E 37 s7 h) fun t208 =>
 some (.ret t208, h)
theorem p49_7_ok (cf : CallF) (lf : Nat) (T : Tmps) (h : Heap) : execK E cf lf 209 k49_7 T h (finK E [.tmp 6]) = p49_7 cf lf (T 7) (T 10) h := by kernel_rfl
def p49_24 (cf : CallF) (lf : Nat) (F11 : Value → Value → Value → Value → Value → Value → Value → Value → Heap → Ans) (s0 : Value) (s1 : Value) (s2 : Value) (s7 : Value) (s8 : Value) (s9 : Value) (s10 : Value) (s11 : Value) (s14 : Value) (h : Heap) : Ans :=
 bindO (loadA E 79 s8 h) fun t88 =>
 bindR (valR (buildSliceA E 79 1 [(0, s14)] h)) (fun v h => some (.panic v, h)) fun t90 h =>
 bindR (valR (appendA E 79 t88 t90 h)) (fun v h => some (.panic v, h)) fun t91 h =>
 bindR (skipR (storeA E 79 s8 t91 h)) (fun v h => some (.panic v, h)) fun _ h =>
 F11 s0 s1 s2 s7 s8 s9 s10 s11 h
theorem p49_24_ok (cf : CallF) (lf : Nat) (F11 : Value → Value → Value → Value → Value → Value → Value → Value → Heap → Ans) (T : Tmps) (h : Heap) : execK E cf lf 209 k49_24 T h (blockK 2 (blockK 1 (seqK (fun T h => F11 (T 0) (T 1) (T 2) (T 7) (T 8) (T 9) (T 10) (T 11) h) (blockK 0 (seqK (fun T h => p49_7 cf lf (T 7) (T 10) h) (finK E [.tmp 6])))))) = p49_24 cf lf F11 (T 0) (T 1) (T 2) (T 7) (T 8) (T 9) (T 10) (T 11) (T 14) h := by kernel_rfl
def p49_26 (cf : CallF) (lf : Nat) (F11 : Value → Value → Value → Value → Value → Value → Value → Value → Heap → Ans) (s0 : Value) (s1 : Value) (s2 : Value) (s7 : Value) (s8 : Value) (s9 : Value) (s10 : Value) (s11 : Value) (s14 : Value) (s84 : Value) (h : Heap) : Ans :=
 condV s84 (
  bindO (loadA E 79 s8 h) fun t85 =>
  bindR (valR (buildSliceA E 79 1 [(0, (.int .u8 (92)))] h)) (fun v h => some (.panic v, h)) fun t86 h =>
  bindR (valR (appendA E 79 t85 t86 h)) (fun v h => some (.panic v, h)) fun t87 h =>
  bindR (skipR (storeA E 79 s8 t87 h)) (fun v h => some (.panic v, h)) fun _ h =>
  p49_24 cf lf F11 s0 s1 s2 s7 s8 s9 s10 s11 s14 h
 ) (
  p49_24 cf lf F11 s0 s1 s2 s7 s8 s9 s10 s11 s14 h
 )
theorem p49_26_ok (cf : CallF) (lf : Nat) (F11 : Value → Value → Value → Value → Value → Value → Value → Value → Heap → Ans) (T : Tmps) (h : Heap) : execK E cf lf 209 k49_26 T h (seqK (fun T h => p49_24 cf lf F11 (T 0) (T 1) (T 2) (T 7) (T 8) (T 9) (T 10) (T 11) (T 14) h) (blockK 2 (blockK 1 (seqK (fun T h => F11 (T 0) (T 1) (T 2) (T 7) (T 8) (T 9) (T 10) (T 11) h) (blockK 0 (seqK (fun T h => p49_7 cf lf (T 7) (T 10) h) (finK E [.tmp 6]))))))) = p49_26 cf lf F11 (T 0) (T 1) (T 2) (T 7) (T 8) (T 9) (T 10) (T 11) (T 14) (T 84) h := by kernel_rfl
def p49_40 (cf : CallF) (lf : Nat) (F11 : Value → Value → Value → Value → Value → Value → Value → Value → Heap → Ans) (s0 : Value) (s1 : Value) (s2 : Value) (s7 : Value) (s8 : Value) (s9 : Value) (s10 : Value) (s11 : Value) (s12 : Value) (s17 : Value) (h : Heap) : Ans :=
 bindO (nilA s0) fun t154 =>
 bindO (fieldAddrA E 57 t154 0) fun t155 =>
 bindO (loadA E 9 t155 h) fun t156 =>
 bindO (binA E 3 .add s12 (.int .i64 (1))) fun t158 =>
 bindO (binA E 3 .add s12 (.int .i64 (1))) fun t160 =>
 bindO (binB E 3 .add t160 s17) fun t162 =>
 bindO (sliceA E 9 t156 (some t158) (some t162) h) fun t163 =>
 bindO (buildA E 49 [(0, (.int .i64 (1))), (1, t163)]) fun t164 =>
 bindR (valR (buildSliceA E 37 1 [(0, t164)] h)) (fun v h => some (.panic v, h)) fun t165 h =>
 bindR (callA E cf s11 [t165] h) (fun v h => some (.panic v, h)) fun t166 h =>
 bindO (nilA s0) fun t168 =>
 bindO (fieldAddrA E 57 t168 1) fun t169 =>
 bindO (loadA E 3 t169 h) fun t170 =>
 bindO (binA E 3 .add s17 (.int .i64 (2))) fun t172 =>
 bindO (binB E 3 .add t170 t172) fun t173 =>
 bindO (nilA s0) fun t174 =>
 bindO (fieldAddrA E 57 t174 1) fun t175 =>
 bindR (skipR (storeA E 3 t175 t173 h)) (fun v h => some (.panic v, h)) fun _ h =>
 F11 s0 s1 s2 s7 s8 s9 s10 s11 h
theorem p49_40_ok (cf : CallF) (lf : Nat) (F11 : Value → Value → Value → Value → Value → Value → Value → Value → Heap → Ans) (T : Tmps) (h : Heap) : execK E cf lf 209 k49_40 T h (blockK 2 (blockK 1 (seqK (fun T h => F11 (T 0) (T 1) (T 2) (T 7) (T 8) (T 9) (T 10) (T 11) h) (blockK 0 (seqK (fun T h => p49_7 cf lf (T 7) (T 10) h) (finK E [.tmp 6])))))) = p49_40 cf lf F11 (T 0) (T 1) (T 2) (T 7) (T 8) (T 9) (T 10) (T 11) (T 12) (T 17) h := by kernel_rfl
def p49_50 (cf : CallF) (lf : Nat) (F11 : Value → Value → Value → Value → Value → Value → Value → Value → Heap → Ans) (s0 : Value) (s1 : Value) (s2 : Value) (s7 : Value) (s8 : Value) (s9 : Value) (s10 : Value) (s11 : Value) (s18 : Value) (h : Heap) : Ans :=
 bindR (callA E cf s11 [s18] h) (fun v h => some (.panic v, h)) fun t205 h =>
 F11 s0 s1 s2 s7 s8 s9 s10 s11 h
theorem p49_50_ok (cf : CallF) (lf : Nat) (F11 : Value → Value → Value → Value → Value → Value → Value → Value → Heap → Ans) (T : Tmps) (h : Heap) : execK E cf lf 209 k49_50 T h (blockK 2 (blockK 1 (seqK (fun T h => F11 (T 0) (T 1) (T 2) (T 7) (T 8) (T 9) (T 10) (T 11) h) (blockK 0 (seqK (fun T h => p49_7 cf lf (T 7) (T 10) h) (finK E [.tmp 6])))))) = p49_50 cf lf F11 (T 0) (T 1) (T 2) (T 7) (T 8) (T 9) (T 10) (T 11) (T 18) h := by kernel_rfl
def p49_49 (cf : CallF) (lf : Nat) (F11 : Value → Value → Value → Value → Value → Value → Value → Value → Heap → Ans) (s0 : Value) (s1 : Value) (s2 : Value) (s7 : Value) (s8 : Value) (s9 : Value) (s10 : Value) (s11 : Value) (s18 : Value) (h : Heap) : Ans :=
 bindO (lenA E 37 s18) fun t199 =>
 bindO (binA E 3 .eql t199 (.int .i64 (0))) fun t200 =>
 condV t200 (
  bindO (buildA E 49 [(0, (.int .i64 (1))), (3, (.bool true))]) fun t201 =>
  bindR (valR (buildSliceA E 37 1 [(0, t201)] h)) (fun v h => some (.panic v, h)) fun t202 h =>
  p49_50 cf lf F11 s0 s1 s2 s7 s8 s9 s10 s11 t202 h
 ) (
  p49_50 cf lf F11 s0 s1 s2 s7 s8 s9 s10 s11 s18 h
 )
theorem p49_49_ok (cf : CallF) (lf : Nat) (F11 : Value → Value → Value → Value → Value → Value → Value → Value → Heap → Ans) (T : Tmps) (h : Heap) : execK E cf lf 209 k49_49 T h (blockK 2 (blockK 1 (seqK (fun T h => F11 (T 0) (T 1) (T 2) (T 7) (T 8) (T 9) (T 10) (T 11) h) (blockK 0 (seqK (fun T h => p49_7 cf lf (T 7) (T 10) h) (finK E [.tmp 6])))))) = p49_49 cf lf F11 (T 0) (T 1) (T 2) (T 7) (T 8) (T 9) (T 10) (T 11) (T 18) h := by simp only [k49_49, k49_51, k49_52, execK_all, p49_50_ok]; delta p49_49; generalize p49_50 = G0; as_aux_lemma => kernel_rfl
def p49_47 (cf : CallF) (lf : Nat) (F11 : Value → Value → Value → Value → Value → Value → Value → Value → Heap → Ans) (s0 : Value) (s1 : Value) (s2 : Value) (s7 : Value) (s8 : Value) (s9 : Value) (s10 : Value) (s11 : Value) (s12 : Value) (h : Heap) : Ans :=
 bindR (cf 49 [s0, (.int .i64 (1)), s2] h) (fun v h => some (.panic v, h)) fun t192 h =>
 bindR (cf 23 [s0, (.string (mkS [34]))] h) (fun v h => some (.panic v, h)) fun t194 h =>
 bindO (unA .not t194) fun t195 =>
 condV t195 (
  bindR (cf 25 [(.int .i64 (19)), s12] h) (fun v h => some (.panic v, h)) fun t197 h =>
  p49_49 cf lf F11 s0 s1 s2 s7 s8 s9 s10 s11 t192 h
 ) (
  p49_49 cf lf F11 s0 s1 s2 s7 s8 s9 s10 s11 t192 h
 )
theorem p49_47_ok (cf : CallF) (lf : Nat) (F11 : Value → Value → Value → Value → Value → Value → Value → Value → Heap → Ans) (T : Tmps) (h : Heap) : execK E cf lf 209 k49_47 T h (blockK 2 (blockK 1 (seqK (fun T h => F11 (T 0) (T 1) (T 2) (T 7) (T 8) (T 9) (T 10) (T 11) h) (blockK 0 (seqK (fun T h => p49_7 cf lf (T 7) (T 10) h) (finK E [.tmp 6])))))) = p49_47 cf lf F11 (T 0) (T 1) (T 2) (T 7) (T 8) (T 9) (T 10) (T 11) (T 12) h := by simp only [k49_47, k49_48, k49_53, k49_54, execK_all, p49_49_ok]; delta p49_47; generalize p49_49 = G0; as_aux_lemma => kernel_rfl
def p49_56 (cf : CallF) (lf : Nat) (F11 : Value → Value → Value → Value → Value → Value → Value → Value → Heap → Ans) (s0 : Value) (s1 : Value) (s2 : Value) (s7 : Value) (s8 : Value) (s9 : Value) (s10 : Value) (s11 : Value) (h : Heap) : Ans :=
 bindO (nilA s0) fun t57 =>
 bindO (fieldAddrA E 57 t57 1) fun t58 =>
 bindO (loadA E 3 t58 h) fun t59 =>
 bindO (binA E 3 .add t59 (.int .i64 (1))) fun t60 =>
 bindO (nilA s0) fun t61 =>
 bindO (fieldAddrA E 57 t61 1) fun t62 =>
 bindR (skipR (storeA E 3 t62 t60 h)) (fun v h => some (.panic v, h)) fun _ h =>
 F11 s0 s1 s2 s7 s8 s9 s10 s11 h
theorem p49_56_ok (cf : CallF) (lf : Nat) (F11 : Value → Value → Value → Value → Value → Value → Value → Value → Heap → Ans) (T : Tmps) (h : Heap) : execK E cf lf 209 k49_56 T h (blockK 2 (blockK 1 (seqK (fun T h => F11 (T 0) (T 1) (T 2) (T 7) (T 8) (T 9) (T 10) (T 11) h) (blockK 0 (seqK (fun T h => p49_7 cf lf (T 7) (T 10) h) (finK E [.tmp 6])))))) = p49_56 cf lf F11 (T 0) (T 1) (T 2) (T 7) (T 8) (T 9) (T 10) (T 11) h := by kernel_rfl
def p49_35 (cf : CallF) (lf : Nat) (F11 : Value → Value → Value → Value → Value → Value → Value → Value → Heap → Ans) (s0 : Value) (s1 : Value) (s2 : Value) (s7 : Value) (s8 : Value) (s9 : Value) (s10 : Value) (s11 : Value) (s12 : Value) (s13 : Value) (s122 : Value) (h : Heap) : Ans :=
 condV s122 (
  bindR (cf 25 [(.int .i64 (19)), s12] h) (fun v h => some (.panic v, h)) fun t132 h =>
  F11 s0 s1 s2 s7 s8 s9 s10 s11 h
 ) (
  bindO (binA E 5 .eql s13 (.int .u8 (39))) fun t135 =>
  bindO (gO (boolIs true t135) (loadA E 4 s9 h)) fun t137 =>
  bindO (gO (boolIs true t135) (unA .not t137)) fun t138 =>
  bindO (pickA t135 t138 (.bool false)) fun t139 =>
  condV t139 (
   bindO (nilA s0) fun t141 =>
   bindO (fieldAddrA E 57 t141 0) fun t142 =>
   bindO (loadA E 9 t142 h) fun t143 =>
   bindO (binA E 3 .add s12 (.int .i64 (1))) fun t145 =>
   bindO (sliceA E 9 t143 (some t145) none h) fun t146 =>
   bindR (cf 73 [t146, (.int .u8 (39))] h) (fun v h => some (.panic v, h)) fun t147 h =>
   bindO (binA E 3 .lss t147 (.int .i64 (0))) fun t149 =>
   condV t149 (
    bindR (cf 25 [(.int .i64 (19)), s12] h) (fun v h => some (.panic v, h)) fun t151 h =>
    p49_40 cf lf F11 s0 s1 s2 s7 s8 s9 s10 s11 s12 t147 h
   ) (
    p49_40 cf lf F11 s0 s1 s2 s7 s8 s9 s10 s11 s12 t147 h
   )
  ) (
   bindO (binA E 5 .eql s13 (.int .u8 (34))) fun t178 =>
   bindO (gO (boolIs true t178) (loadA E 4 s9 h)) fun t180 =>
   bindO (gO (boolIs true t178) (unA .not t180)) fun t181 =>
   bindO (pickA t178 t181 (.bool false)) fun t182 =>
   condV t182 (
    bindO (nilA s0) fun t184 =>
    bindO (fieldAddrA E 57 t184 1) fun t185 =>
    bindO (loadA E 3 t185 h) fun t186 =>
    bindO (binA E 3 .add t186 (.int .i64 (1))) fun t187 =>
    bindO (nilA s0) fun t188 =>
    bindO (fieldAddrA E 57 t188 1) fun t189 =>
    bindR (skipR (storeA E 3 t189 t187 h)) (fun v h => some (.panic v, h)) fun _ h =>
    p49_47 cf lf F11 s0 s1 s2 s7 s8 s9 s10 s11 s12 h
   ) (
    bindO (loadA E 79 s8 h) fun t52 =>
    bindR (valR (buildSliceA E 79 1 [(0, s13)] h)) (fun v h => some (.panic v, h)) fun t54 h =>
    bindR (valR (appendA E 79 t52 t54 h)) (fun v h => some (.panic v, h)) fun t55 h =>
    bindR (skipR (storeA E 79 s8 t55 h)) (fun v h => some (.panic v, h)) fun _ h =>
    p49_56 cf lf F11 s0 s1 s2 s7 s8 s9 s10 s11 h
   )
  )
 )
theorem p49_35_ok (cf : CallF) (lf : Nat) (F11 : Value → Value → Value → Value → Value → Value → Value → Value → Heap → Ans) (T : Tmps) (h : Heap) : execK E cf lf 209 k49_35 T h (blockK 2 (blockK 1 (seqK (fun T h => F11 (T 0) (T 1) (T 2) (T 7) (T 8) (T 9) (T 10) (T 11) h) (blockK 0 (seqK (fun T h => p49_7 cf lf (T 7) (T 10) h) (finK E [.tmp 6])))))) = p49_35 cf lf F11 (T 0) (T 1) (T 2) (T 7) (T 8) (T 9) (T 10) (T 11) (T 12) (T 13) (T 122) h := by simp only [k49_35, k49_36, k49_37, k49_38, k49_39, k49_42, k49_43, k49_44, k49_45, k49_46, k49_55, execK_all, p49_40_ok, p49_47_ok, p49_56_ok]; delta p49_35; generalize p49_40 = G0; generalize p49_47 = G1; generalize p49_56 = G2; as_aux_lemma => kernel_rfl
def p49_28 (cf : CallF) (lf : Nat) (F11 : Value → Value → Value → Value → Value → Value → Value → Value → Heap → Ans) (s0 : Value) (s1 : Value) (s2 : Value) (s7 : Value) (s8 : Value) (s9 : Value) (s10 : Value) (s11 : Value) (s12 : Value) (s13 : Value) (s92 : Value) (h : Heap) : Ans :=
 condV s92 (
  bindR (cf 72 [s0] h) (fun v h => some (.panic v, h)) fun t97 h =>
  bindR (valR (buildSliceA E 79 1 [(0, t97)] h)) (fun v h => some (.panic v, h)) fun t98 h =>
  bindR (valR (convA E 79 9 t98 h)) (fun v h => some (.panic v, h)) fun t99 h =>
  bindO (buildA E 49 [(0, (.int .i64 (1))), (1, t99)]) fun t100 =>
  bindR (valR (buildSliceA E 37 1 [(0, t100)] h)) (fun v h => some (.panic v, h)) fun t101 h =>
  bindR (callA E cf s11 [t101] h) (fun v h => some (.panic v, h)) fun t102 h =>
  F11 s0 s1 s2 s7 s8 s9 s10 s11 h
 ) (
  bindO (binA E 5 .eql s13 (.int .u8 (36))) fun t105 =>
  condV t105 (
   bindR (cf 74 [s0, s1, s2] h) (fun v h => some (.panic v, h)) fun t110 h =>
   bindO (extractA t110 0) fun t111 =>
   bindO (extractA t110 1) fun t112 =>
   bindR (valR (allocA E 49 h)) (fun v h => some (.panic v, h)) fun t15 h =>
   bindR (skipR (storeA E 49 t15 t111 h)) (fun v h => some (.panic v, h)) fun _ h =>
   condV t112 (
    bindO (loadA E 49 t15 h) fun t115 =>
    bindR (valR (buildSliceA E 37 1 [(0, t115)] h)) (fun v h => some (.panic v, h)) fun t116 h =>
    bindR (callA E cf s11 [t116] h) (fun v h => some (.panic v, h)) fun t117 h =>
    F11 s0 s1 s2 s7 s8 s9 s10 s11 h
   ) (
    bindO (loadA E 79 s8 h) fun t118 =>
    bindR (valR (buildSliceA E 79 1 [(0, s13)] h)) (fun v h => some (.panic v, h)) fun t120 h =>
    bindR (valR (appendA E 79 t118 t120 h)) (fun v h => some (.panic v, h)) fun t121 h =>
    bindR (skipR (storeA E 79 s8 t121 h)) (fun v h => some (.panic v, h)) fun _ h =>
    F11 s0 s1 s2 s7 s8 s9 s10 s11 h
   )
  ) (
   bindO (binA E 5 .eql s13 (.int .u8 (96))) fun t124 =>
   condV t124 (
    p49_35 cf lf F11 s0 s1 s2 s7 s8 s9 s10 s11 s12 s13 t124 h
   ) (
    bindO (binA E 5 .eql s13 (.int .u8 (34))) fun t126 =>
    bindO (gO (boolIs true t126) (some s1)) fun t128 =>
    bindO (gO (boolIs true t126) (binA E 96 .eql t128 (.int .i64 (4)))) fun t129 =>
    bindO (pickA t126 t129 (.bool false)) fun t130 =>
    p49_35 cf lf F11 s0 s1 s2 s7 s8 s9 s10 s11 s12 s13 t130 h
   )
  )
 )
theorem p49_28_ok (cf : CallF) (lf : Nat) (F11 : Value → Value → Value → Value → Value → Value → Value → Value → Heap → Ans) (T : Tmps) (h : Heap) : execK E cf lf 209 k49_28 T h (blockK 2 (blockK 1 (seqK (fun T h => F11 (T 0) (T 1) (T 2) (T 7) (T 8) (T 9) (T 10) (T 11) h) (blockK 0 (seqK (fun T h => p49_7 cf lf (T 7) (T 10) h) (finK E [.tmp 6])))))) = p49_28 cf lf F11 (T 0) (T 1) (T 2) (T 7) (T 8) (T 9) (T 10) (T 11) (T 12) (T 13) (T 92) h := by simp only [k49_28, k49_29, k49_30, k49_31, k49_32, k49_33, k49_34, k49_57, k49_58, execK_all, p49_35_ok]; delta p49_28; generalize p49_35 = G0; as_aux_lemma => kernel_rfl
def p49_15 (cf : CallF) (lf : Nat) (F11 : Value → Value → Value → Value → Value → Value → Value → Value → Heap → Ans) (s0 : Value) (s1 : Value) (s2 : Value) (s7 : Value) (s8 : Value) (s9 : Value) (s10 : Value) (s11 : Value) (s38 : Value) (h : Heap) : Ans :=
 condV s38 (
  bindO (nilA s0) fun t40 =>
  bindO (fieldAddrA E 57 t40 1) fun t41 =>
  bindO (loadA E 3 t41 h) fun t42 =>
  bindO (nilA s0) fun t44 =>
  bindO (fieldAddrA E 57 t44 0) fun t45 =>
  bindO (loadA E 9 t45 h) fun t46 =>
  bindO (nilA s0) fun t48 =>
  bindO (fieldAddrA E 57 t48 1) fun t49 =>
  bindO (loadA E 3 t49 h) fun t50 =>
  bindO (indexA E 9 t46 t50) fun t51 =>
  bindR (cf 23 [s0, (.string (mkS [92, 10]))] h) (fun v h => some (.panic v, h)) fun t65 h =>
  condV t65 (
   F11 s0 s1 s2 s7 s8 s9 s10 s11 h
  ) (
   bindO (binA E 5 .eql t51 (.int .u8 (92))) fun t68 =>
   bindO (gO (boolIs true t68) (loadA E 4 s9 h)) fun t70 =>
   bindO (pickA t68 t70 (.bool false)) fun t71 =>
   condV t71 (
    bindR (cf 72 [s0] h) (fun v h => some (.panic v, h)) fun t73 h =>
    bindR (cf 73 [(.string (mkS [36, 96, 92])), t73] h) (fun v h => some (.panic v, h)) fun t75 h =>
    bindO (binA E 3 .lss t75 (.int .i64 (0))) fun t76 =>
    bindO (gO (boolIs true t76) (some t73)) fun t78 =>
    bindO (gO (boolIs true t76) (binA E 5 .neq t78 (.int .u8 (34)))) fun t79 =>
    bindO (gO (boolIs true t76) (some t79)) fun t80 =>
    bindO (gO (boolIs false t80) (some s1)) fun t81 =>
    bindO (gO (boolIs false t80) (binA E 96 .eql t81 (.int .i64 (2)))) fun t82 =>
    bindO (gO (boolIs true t76) (pickA t80 (.bool true) t82)) fun t83 =>
    bindO (pickA t76 t83 (.bool false)) fun t84 =>
    p49_26 cf lf F11 s0 s1 s2 s7 s8 s9 s10 s11 t73 t84 h
   ) (
    bindO (binA E 5 .eql t51 (.int .u8 (92))) fun t94 =>
    p49_28 cf lf F11 s0 s1 s2 s7 s8 s9 s10 s11 t42 t51 t94 h
   )
  )
 ) (
  p49_7 cf lf s7 s10 h
 )
theorem p49_15_ok (cf : CallF) (lf : Nat) (F11 : Value → Value → Value → Value → Value → Value → Value → Value → Heap → Ans) (T : Tmps) (h : Heap) : execK E cf lf 209 k49_15 T h (seqK (fun T h => execK E cf lf 209 k49_13 T h (seqK (fun T h => F11 (T 0) (T 1) (T 2) (T 7) (T 8) (T 9) (T 10) (T 11) h) (blockK 0 (seqK (fun T h => p49_7 cf lf (T 7) (T 10) h) (finK E [.tmp 6]))))) (seqK (fun T h => F11 (T 0) (T 1) (T 2) (T 7) (T 8) (T 9) (T 10) (T 11) h) (blockK 0 (seqK (fun T h => p49_7 cf lf (T 7) (T 10) h) (finK E [.tmp 6]))))) = p49_15 cf lf F11 (T 0) (T 1) (T 2) (T 7) (T 8) (T 9) (T 10) (T 11) (T 38) h := by simp only [k49_13, k49_15, k49_16, k49_17, k49_18, k49_19, k49_20, k49_21, k49_22, k49_23, k49_25, k49_27, execK_all, p49_24_ok, p49_26_ok, p49_28_ok]; delta p49_15; generalize p49_24 = G0; generalize p49_26 = G1; generalize p49_28 = G2; as_aux_lemma => kernel_rfl
def p49_12 (cf : CallF) (lf : Nat) (F11 : Value → Value → Value → Value → Value → Value → Value → Value → Heap → Ans) (s0 : Value) (s1 : Value) (s2 : Value) (s7 : Value) (s8 : Value) (s9 : Value) (s10 : Value) (s11 : Value) (h : Heap) : Ans :=
 bindR (cf 24 [s0] h) (fun v h => some (.panic v, h)) fun t24 h =>
 bindO (gO (boolIs true t24) (some s1)) fun t26 =>
 bindO (gO (boolIs true t24) (some s0)) fun t27 =>
 bindO (gO (boolIs true t24) (nilA t27)) fun t28 =>
 bindO (gO (boolIs true t24) (fieldAddrA E 57 t28 0)) fun t29 =>
 bindO (gO (boolIs true t24) (loadA E 9 t29 h)) fun t30 =>
 bindO (gO (boolIs true t24) (some s0)) fun t31 =>
 bindO (gO (boolIs true t24) (nilA t31)) fun t32 =>
 bindO (gO (boolIs true t24) (fieldAddrA E 57 t32 1)) fun t33 =>
 bindO (gO (boolIs true t24) (loadA E 3 t33 h)) fun t34 =>
 bindO (gO (boolIs true t24) (indexA E 9 t30 t34)) fun t35 =>
 bindR (gR (boolIs true t24) (cf 71 [t26, t35] h) h) (fun v h => some (.panic v, h)) fun t36 h =>
 bindO (gO (boolIs true t24) (unA .not t36)) fun t37 =>
 bindO (pickA t24 t37 (.bool false)) fun t38 =>
 p49_15 cf lf F11 s0 s1 s2 s7 s8 s9 s10 s11 t38 h
theorem p49_12_ok (cf : CallF) (lf : Nat) (F11 : Value → Value → Value → Value → Value → Value → Value → Value → Heap → Ans) (T : Tmps) (h : Heap) : execK E cf lf 209 k49_12 T h (seqK (fun T h => F11 (T 0) (T 1) (T 2) (T 7) (T 8) (T 9) (T 10) (T 11) h) (blockK 0 (seqK (fun T h => p49_7 cf lf (T 7) (T 10) h) (finK E [.tmp 6])))) = p49_12 cf lf F11 (T 0) (T 1) (T 2) (T 7) (T 8) (T 9) (T 10) (T 11) h := by simp only [k49_12, k49_14, execK_all, p49_15_ok]; delta p49_12; generalize p49_15 = G0; as_aux_lemma => kernel_rfl
def l49_11 (cf : CallF) (lf : Nat) : Nat → Value → Value → Value → Value → Value → Value → Value → Value → Heap → Ans
 | 0, _, _, _, _, _, _, _, _, _ => none
 | n + 1, s0, s1, s2, s7, s8, s9, s10, s11, h => p49_12 cf lf (l49_11 cf lf n) s0 s1 s2 s7 s8 s9 s10 s11 h
theorem l49_11_ok (cf : CallF) (lf : Nat) (n : Nat) : ∀ (T : Tmps) (h : Heap), iterK (fun T h K => execK E cf lf 209 k49_12 T h K) (blockK 0 (seqK (fun T h => p49_7 cf lf (T 7) (T 10) h) (finK E [.tmp 6]))) n T h = l49_11 cf lf n (T 0) (T 1) (T 2) (T 7) (T 8) (T 9) (T 10) (T 11) h := by
 induction n with
 | zero => intro T h; rfl
 | succ n ih =>
  intro T h
  rw [iterK_succ, show iterK (fun T h K => execK E cf lf 209 k49_12 T h K) (blockK 0 (seqK (fun T h => p49_7 cf lf (T 7) (T 10) h) (finK E [.tmp 6]))) n = (fun T h => l49_11 cf lf n (T 0) (T 1) (T 2) (T 7) (T 8) (T 9) (T 10) (T 11) h) from funext fun T => funext fun h => ih T h]
  exact p49_12_ok cf lf (l49_11 cf lf n) T h
def p49_0 (cf : CallF) (lf : Nat) (s0 : Value) (s1 : Value) (s2 : Value) (h : Heap) : Ans :=
 bindR (valR (allocA E 37 h)) (fun v h => some (.panic v, h)) fun t7 h =>
 bindR (valR (allocA E 79 h)) (fun v h => some (.panic v, h)) fun t8 h =>
 bindR (cf 68 [s1] h) (fun v h => some (.panic v, h)) fun t20 h =>
 bindR (valR (allocA E 4 h)) (fun v h => some (.panic v, h)) fun t9 h =>
 bindR (skipR (storeA E 4 t9 t20 h)) (fun v h => some (.panic v, h)) fun _ h =>
 bindR (valR (allocA E 1 h)) (fun v h => some (.panic v, h)) fun t10 h =>
 bindR (skipR (storeA E 1 t10 (.func (.func 69) ⟨[]⟩ ⟨[t8, t9, t7]⟩) h)) (fun v h => some (.panic v, h)) fun _ h =>
 l49_11 cf lf lf s0 s1 s2 t7 t8 t9 t10 (.func (.func 70) ⟨[]⟩ ⟨[t10, t7]⟩) h
theorem p49_0_ok (cf : CallF) (lf : Nat) (T : Tmps) (h : Heap) : execK E cf lf 209 k49_0 T h (finK E [.tmp 6]) = p49_0 cf lf (T 0) (T 1) (T 2) h := by simp only [k49_0, k49_1, k49_10, k49_11, k49_2, k49_3, k49_4, k49_5, k49_6, execK_all, l49_11_ok, p49_7_ok]; delta p49_0; generalize l49_11 = G0; generalize p49_7 = G1; as_aux_lemma => kernel_rfl
def f49 (cf : CallF) (lf : Nat) (a0 : Value) (a1 : Value) (a2 : Value) (h : Heap) : Ans := p49_0 cf lf a0 a1 a2 h
theorem f49_ok (cf : CallF) (lf : Nat) (a0 a1 a2 : Value) (h : Heap) : stepN E cf lf 49 [a0, a1, a2] h = f49 cf lf a0 a1 a2 h := (show stepN E cf lf 49 [a0, a1, a2] h = execK E cf lf 209 k49_0 (T0 [a0, a1, a2]) h (finK E [.tmp 6]) by kernel_rfl).trans ((p49_0_ok cf lf (T0 [a0, a1, a2]) h).trans (by kernel_rfl))
noncomputable def kc50 := codeOf Tryd.f50
def k50_26 := cp kc50 [1, 0, 1, 0, 1, 1, 1, 1, 1, 0, 0]
def k50_16 := cp kc50 [1, 0, 1, 0, 1, 1, 1, 1, 1, 0, 1]
def k50_15 : Code := .seq k50_26 k50_16
def k50_25 := cp kc50 [1, 0, 1, 0, 1, 1, 1, 1, 1, 1]
def k50_23 := cp kc50 [1, 0, 1, 0, 1, 1, 1, 0, 0]
def k50_12 := cp kc50 [1, 0, 1, 0, 1, 1, 1, 0, 1]
def k50_24 := cp kc50 [1, 0, 1, 0, 1, 1, 1, 1, 0]
def k50_14 : Code := .cond (.tmp 26) k50_15 k50_25
def k50_11 : Code := .seq k50_23 k50_12
def k50_13 : Code := .seq k50_24 k50_14
def k50_21 := cp kc50 [1, 0, 1, 0, 1, 0, 0]
def k50_8 := cp kc50 [1, 0, 1, 0, 1, 0, 1]
def k50_22 := cp kc50 [1, 0, 1, 0, 1, 1, 0]
def k50_10 : Code := .cond (.tmp 22) k50_11 k50_13
def k50_7 : Code := .seq k50_21 k50_8
def k50_9 : Code := .seq k50_22 k50_10
def k50_20 := cp kc50 [1, 0, 1, 0, 0]
def k50_6 : Code := .cond (.tmp 6) k50_7 k50_9
def k50_5 : Code := .seq k50_20 k50_6
def k50_19 := cp kc50 [1, 0, 0]
def k50_4 : Code := .block 0 k50_5
def k50_27 := cp kc50 [1, 1, 0]
def k50_17 := cp kc50 [1, 1, 1]
def k50_3 : Code := .seq k50_19 k50_4
def k50_2 : Code := .seq k50_27 k50_17
def k50_18 := cp kc50 [0]
def k50_1 : Code := .seq k50_3 k50_2
def k50_0 : Code := .seq k50_18 k50_1
def p50_10 (cf : CallF) (lf : Nat) (s0 : Value) (s5 : Value) (s22 : Value) (h : Heap) : Ans :=
 condV s22 (
  bindO (binA E 5 .eql s0 (.int .u8 (34))) fun t25 =>
  some (.ret t25, h)
 ) (
  bindO (binA E 3 .eql s5 (.int .i64 (2))) fun t27 =>
  condV t27 (
   some (.ret (.bool false), h)
  ) (
   bindO (binA E 5 .eql s0 (.int .u8 (125))) fun t29 =>
   some (.ret t29, h)
  )
 )
theorem p50_10_ok (cf : CallF) (lf : Nat) (T : Tmps) (h : Heap) : execK E cf lf 30 k50_10 T h (blockK 0 (seqK (fun T h => execK E cf lf 30 k50_2 T h (finK E [.tmp 4])) (finK E [.tmp 4]))) = p50_10 cf lf (T 0) (T 5) (T 22) h := by kernel_rfl
def p50_0 (cf : CallF) (lf : Nat) (s0 : Value) (s1 : Value) (h : Heap) : Ans :=
 bindO (binA E 3 .eql s1 (.int .i64 (0))) fun t7 =>
 condV t7 (
  bindO (binA E 5 .eql s0 (.int .u8 (32))) fun t9 =>
  bindO (gO (boolIs false t9) (some s0)) fun t11 =>
  bindO (gO (boolIs false t9) (binA E 5 .eql t11 (.int .u8 (9)))) fun t12 =>
  bindO (pickA t9 (.bool true) t12) fun t13 =>
  bindO (gO (boolIs false t13) (some s0)) fun t15 =>
  bindO (gO (boolIs false t13) (binA E 5 .eql t15 (.int .u8 (10)))) fun t16 =>
  bindO (pickA t13 (.bool true) t16) fun t17 =>
  bindO (gO (boolIs false t17) (some s0)) fun t19 =>
  bindR (gR (boolIs false t17) (cf 75 [(.string (mkS [59, 38, 124, 40, 41, 60, 62])), t19] h) h) (fun v h => some (.panic v, h)) fun t20 h =>
  bindO (pickA t17 (.bool true) t20) fun t21 =>
  some (.ret t21, h)
 ) (
  bindO (binA E 3 .eql s1 (.int .i64 (1))) fun t23 =>
  p50_10 cf lf s0 s1 t23 h
 )
theorem p50_0_ok (cf : CallF) (lf : Nat) (T : Tmps) (h : Heap) : execK E cf lf 30 k50_0 T h (finK E [.tmp 4]) = p50_0 cf lf (T 0) (T 1) h := by simp only [k50_0, k50_1, k50_3, k50_4, k50_5, k50_6, k50_7, k50_9, execK_all, p50_10_ok]; delta p50_0; generalize p50_10 = G0; as_aux_lemma => kernel_rfl
def f50 (cf : CallF) (lf : Nat) (a0 : Value) (a1 : Value) (h : Heap) : Ans := p50_0 cf lf a0 a1 h
theorem f50_ok (cf : CallF) (lf : Nat) (a0 a1 : Value) (h : Heap) : stepN E cf lf 50 [a0, a1] h = f50 cf lf a0 a1 h := (show stepN E cf lf 50 [a0, a1] h = execK E cf lf 30 k50_0 (T0 [a0, a1]) h (finK E [.tmp 4]) by kernel_rfl).trans ((p50_0_ok cf lf (T0 [a0, a1]) h).trans (by kernel_rfl))
noncomputable def kc51 := codeOf Tryd.f51
def k51_151 := cp kc51 [1, 1, 1, 1, 1, 1, 1, 1, 1, 1, 1, 1, 1, 1, 1, 1, 1, 1, 1, 1, 0, 1, 0, 0]
def k51_51 := cp kc51 [1, 1, 1, 1, 1, 1, 1, 1, 1, 1, 1, 1, 1, 1, 1, 1, 1, 1, 1, 1, 0, 1, 0, 1]
def k51_136 := cp kc51 [1, 1, 1, 1, 1, 1, 1, 1, 1, 1, 1, 1, 1, 1, 0, 1, 0, 0, 1, 0, 0, 1, 0]
def k51_137 := cp kc51 [1, 1, 1, 1, 1, 1, 1, 1, 1, 1, 1, 1, 1, 1, 0, 1, 0, 0, 1, 0, 0, 1, 1]
def k51_148 := cp kc51 [1, 1, 1, 1, 1, 1, 1, 1, 1, 1, 1, 1, 1, 1, 1, 1, 1, 1, 1, 0, 1, 0, 0]
def k51_44 := cp kc51 [1, 1, 1, 1, 1, 1, 1, 1, 1, 1, 1, 1, 1, 1, 1, 1, 1, 1, 1, 0, 1, 0, 1]
def k51_50 : Code := .seq k51_151 k51_51
def k51_150 := cp kc51 [1, 1, 1, 1, 1, 1, 1, 1, 1, 1, 1, 1, 1, 1, 1, 1, 1, 1, 1, 1, 0, 1, 1]
def k51_153 := cp kc51 [1, 1, 1, 1, 1, 1, 1, 1, 1, 1, 1, 1, 1, 1, 1, 1, 1, 1, 1, 1, 1, 1, 0]
def k51_47 := cp kc51 [1, 1, 1, 1, 1, 1, 1, 1, 1, 1, 1, 1, 1, 1, 1, 1, 1, 1, 1, 1, 1, 1, 1]
def k51_135 := cp kc51 [1, 1, 1, 1, 1, 1, 1, 1, 1, 1, 1, 1, 1, 1, 0, 1, 0, 0, 1, 0, 0, 0]
def k51_64 : Code := .cond (.tmp 172) k51_136 k51_137
def k51_43 : Code := .seq k51_148 k51_44
def k51_147 := cp kc51 [1, 1, 1, 1, 1, 1, 1, 1, 1, 1, 1, 1, 1, 1, 1, 1, 1, 1, 1, 0, 1, 1]
def k51_149 := cp kc51 [1, 1, 1, 1, 1, 1, 1, 1, 1, 1, 1, 1, 1, 1, 1, 1, 1, 1, 1, 1, 0, 0]
def k51_49 : Code := .cond (.tmp 207) k51_50 k51_150
def k51_152 := cp kc51 [1, 1, 1, 1, 1, 1, 1, 1, 1, 1, 1, 1, 1, 1, 1, 1, 1, 1, 1, 1, 1, 0]
def k51_46 : Code := .seq k51_153 k51_47
def k51_133 := cp kc51 [1, 1, 1, 1, 1, 1, 1, 1, 1, 1, 1, 1, 1, 1, 0, 1, 0, 0, 0, 1, 0]
def k51_134 := cp kc51 [1, 1, 1, 1, 1, 1, 1, 1, 1, 1, 1, 1, 1, 1, 0, 1, 0, 0, 0, 1, 1]
def k51_63 : Code := .seq k51_135 k51_64
def k51_146 := cp kc51 [1, 1, 1, 1, 1, 1, 1, 1, 1, 1, 1, 1, 1, 1, 1, 1, 1, 1, 1, 0, 0]
def k51_42 : Code := .cond (.tmp 201) k51_43 k51_147
def k51_48 : Code := .seq k51_149 k51_49
def k51_45 : Code := .seq k51_152 k51_46
def k51_132 := cp kc51 [1, 1, 1, 1, 1, 1, 1, 1, 1, 1, 1, 1, 1, 1, 0, 1, 0, 0, 0, 0]
def k51_60 : Code := .cond (.tmp 163) k51_133 k51_134
def k51_62 : Code := .block 1 k51_63
def k51_61 := cp kc51 [1, 1, 1, 1, 1, 1, 1, 1, 1, 1, 1, 1, 1, 1, 0, 1, 0, 0, 1, 1]
def k51_143 := cp kc51 [1, 1, 1, 1, 1, 1, 1, 1, 1, 1, 1, 1, 1, 1, 1, 1, 1, 0, 1, 0]
def k51_144 := cp kc51 [1, 1, 1, 1, 1, 1, 1, 1, 1, 1, 1, 1, 1, 1, 1, 1, 1, 0, 1, 1]
def k51_41 : Code := .seq k51_146 k51_42
def k51_40 : Code := .seq k51_48 k51_45
def k51_59 : Code := .seq k51_132 k51_60
def k51_58 : Code := .seq k51_62 k51_61
def k51_140 := cp kc51 [1, 1, 1, 1, 1, 1, 1, 1, 1, 1, 1, 1, 1, 1, 1, 0, 1, 0, 0]
def k51_36 := cp kc51 [1, 1, 1, 1, 1, 1, 1, 1, 1, 1, 1, 1, 1, 1, 1, 0, 1, 0, 1]
def k51_142 := cp kc51 [1, 1, 1, 1, 1, 1, 1, 1, 1, 1, 1, 1, 1, 1, 1, 1, 1, 0, 0]
def k51_53 : Code := .cond (.tmp 184) k51_143 k51_144
def k51_145 := cp kc51 [1, 1, 1, 1, 1, 1, 1, 1, 1, 1, 1, 1, 1, 1, 1, 1, 1, 1, 0]
def k51_39 : Code := .seq k51_41 k51_40
def k51_57 : Code := .seq k51_59 k51_58
def k51_35 : Code := .seq k51_140 k51_36
def k51_139 := cp kc51 [1, 1, 1, 1, 1, 1, 1, 1, 1, 1, 1, 1, 1, 1, 1, 0, 1, 1]
def k51_52 : Code := .seq k51_142 k51_53
def k51_38 : Code := .seq k51_145 k51_39
def k51_56 : Code := .loop k51_57
def k51_138 := cp kc51 [1, 1, 1, 1, 1, 1, 1, 1, 1, 1, 1, 1, 1, 1, 1, 0, 0]
def k51_34 : Code := .cond (.tmp 180) k51_35 k51_139
def k51_141 := cp kc51 [1, 1, 1, 1, 1, 1, 1, 1, 1, 1, 1, 1, 1, 1, 1, 1, 0]
def k51_37 : Code := .seq k51_52 k51_38
def k51_129 := cp kc51 [1, 1, 1, 1, 1, 1, 1, 1, 1, 1, 1, 1, 0, 1, 0, 0]
def k51_29 := cp kc51 [1, 1, 1, 1, 1, 1, 1, 1, 1, 1, 1, 1, 0, 1, 0, 1]
def k51_131 := cp kc51 [1, 1, 1, 1, 1, 1, 1, 1, 1, 1, 1, 1, 1, 1, 0, 0]
def k51_55 : Code := .block 0 k51_56
def k51_33 : Code := .seq k51_138 k51_34
def k51_32 : Code := .seq k51_141 k51_37
def k51_28 : Code := .seq k51_129 k51_29
def k51_128 := cp kc51 [1, 1, 1, 1, 1, 1, 1, 1, 1, 1, 1, 1, 0, 1, 1]
def k51_54 : Code := .seq k51_131 k51_55
def k51_31 : Code := .seq k51_33 k51_32
def k51_120 := cp kc51 [1, 1, 1, 1, 1, 1, 1, 0, 1, 0, 1, 1, 0, 0]
def k51_71 := cp kc51 [1, 1, 1, 1, 1, 1, 1, 0, 1, 0, 1, 1, 0, 1]
def k51_127 := cp kc51 [1, 1, 1, 1, 1, 1, 1, 1, 1, 1, 1, 1, 0, 0]
def k51_27 : Code := .cond (.tmp 147) k51_28 k51_128
def k51_130 := cp kc51 [1, 1, 1, 1, 1, 1, 1, 1, 1, 1, 1, 1, 1, 0]
def k51_30 : Code := .seq k51_54 k51_31
def k51_70 : Code := .seq k51_120 k51_71
def k51_119 := cp kc51 [1, 1, 1, 1, 1, 1, 1, 0, 1, 0, 1, 1, 1]
def k51_124 := cp kc51 [1, 1, 1, 1, 1, 1, 1, 1, 1, 0, 1, 0, 0]
def k51_22 := cp kc51 [1, 1, 1, 1, 1, 1, 1, 1, 1, 0, 1, 0, 1]
def k51_26 : Code := .seq k51_127 k51_27
def k51_25 : Code := .seq k51_130 k51_30
def k51_109 := cp kc51 [1, 1, 1, 1, 0, 1, 0, 1, 0, 1, 0, 0]
def k51_80 := cp kc51 [1, 1, 1, 1, 0, 1, 0, 1, 0, 1, 0, 1]
def k51_118 := cp kc51 [1, 1, 1, 1, 1, 1, 1, 0, 1, 0, 1, 0]
def k51_69 : Code := .cond (.tmp 108) k51_70 k51_119
def k51_21 : Code := .seq k51_124 k51_22
def k51_123 := cp kc51 [1, 1, 1, 1, 1, 1, 1, 1, 1, 0, 1, 1]
def k51_126 := cp kc51 [1, 1, 1, 1, 1, 1, 1, 1, 1, 1, 1, 0]
def k51_24 : Code := .seq k51_26 k51_25
def k51_102 := cp kc51 [1, 1, 1, 0, 1, 0, 1, 0, 1, 0, 0]
def k51_90 := cp kc51 [1, 1, 1, 0, 1, 0, 1, 0, 1, 0, 1]
def k51_79 : Code := .seq k51_109 k51_80
def k51_108 := cp kc51 [1, 1, 1, 1, 0, 1, 0, 1, 0, 1, 1]
def k51_117 := cp kc51 [1, 1, 1, 1, 1, 1, 1, 0, 1, 0, 0]
def k51_68 : Code := .seq k51_118 k51_69
def k51_122 := cp kc51 [1, 1, 1, 1, 1, 1, 1, 1, 1, 0, 0]
def k51_20 : Code := .cond (.tmp 130) k51_21 k51_123
def k51_125 := cp kc51 [1, 1, 1, 1, 1, 1, 1, 1, 1, 1, 0]
def k51_23 : Code := .seq k51_126 k51_24
def k51_89 : Code := .seq k51_102 k51_90
def k51_101 := cp kc51 [1, 1, 1, 0, 1, 0, 1, 0, 1, 1]
def k51_107 := cp kc51 [1, 1, 1, 1, 0, 1, 0, 1, 0, 0]
def k51_78 : Code := .cond (.tmp 69) k51_79 k51_108
def k51_110 := cp kc51 [1, 1, 1, 1, 0, 1, 0, 1, 1, 0]
def k51_81 := cp kc51 [1, 1, 1, 1, 0, 1, 0, 1, 1, 1]
def k51_67 : Code := .seq k51_117 k51_68
def k51_116 := cp kc51 [1, 1, 1, 1, 1, 1, 1, 0, 1, 1]
def k51_19 : Code := .seq k51_122 k51_20
def k51_18 : Code := .seq k51_125 k51_23
def k51_100 := cp kc51 [1, 1, 1, 0, 1, 0, 1, 0, 0]
def k51_88 : Code := .cond (.tmp 44) k51_89 k51_101
def k51_103 := cp kc51 [1, 1, 1, 0, 1, 0, 1, 1, 0]
def k51_91 := cp kc51 [1, 1, 1, 0, 1, 0, 1, 1, 1]
def k51_77 : Code := .seq k51_107 k51_78
def k51_76 : Code := .seq k51_110 k51_81
def k51_113 := cp kc51 [1, 1, 1, 1, 1, 0, 1, 0, 0]
def k51_14 := cp kc51 [1, 1, 1, 1, 1, 0, 1, 0, 1]
def k51_115 := cp kc51 [1, 1, 1, 1, 1, 1, 1, 0, 0]
def k51_66 : Code := .cond (.tmp 94) k51_67 k51_116
def k51_121 := cp kc51 [1, 1, 1, 1, 1, 1, 1, 1, 0]
def k51_17 : Code := .seq k51_19 k51_18
def k51_87 : Code := .seq k51_100 k51_88
def k51_86 : Code := .seq k51_103 k51_91
def k51_106 := cp kc51 [1, 1, 1, 1, 0, 1, 0, 0]
def k51_75 : Code := .seq k51_77 k51_76
def k51_13 : Code := .seq k51_113 k51_14
def k51_112 := cp kc51 [1, 1, 1, 1, 1, 0, 1, 1]
def k51_65 : Code := .seq k51_115 k51_66
def k51_16 : Code := .seq k51_121 k51_17
def k51_99 := cp kc51 [1, 1, 1, 0, 1, 0, 0]
def k51_85 : Code := .seq k51_87 k51_86
def k51_74 : Code := .seq k51_106 k51_75
def k51_105 := cp kc51 [1, 1, 1, 1, 0, 1, 1]
def k51_111 := cp kc51 [1, 1, 1, 1, 1, 0, 0]
def k51_12 : Code := .cond (.tmp 86) k51_13 k51_112
def k51_114 := cp kc51 [1, 1, 1, 1, 1, 1, 0]
def k51_15 : Code := .seq k51_65 k51_16
def k51_96 := cp kc51 [1, 1, 0, 1, 0, 0]
def k51_7 := cp kc51 [1, 1, 0, 1, 0, 1]
def k51_84 : Code := .seq k51_99 k51_85
def k51_98 := cp kc51 [1, 1, 1, 0, 1, 1]
def k51_104 := cp kc51 [1, 1, 1, 1, 0, 0]
def k51_73 : Code := .cond (.tmp 63) k51_74 k51_105
def k51_11 : Code := .seq k51_111 k51_12
def k51_10 : Code := .seq k51_114 k51_15
def k51_6 : Code := .seq k51_96 k51_7
def k51_95 := cp kc51 [1, 1, 0, 1, 1]
def k51_97 := cp kc51 [1, 1, 1, 0, 0]
def k51_83 : Code := .cond (.tmp 38) k51_84 k51_98
def k51_72 : Code := .seq k51_104 k51_73
def k51_9 : Code := .seq k51_11 k51_10
def k51_94 := cp kc51 [1, 1, 0, 0]
def k51_5 : Code := .cond (.tmp 32) k51_6 k51_95
def k51_82 : Code := .seq k51_97 k51_83
def k51_8 : Code := .seq k51_72 k51_9
def k51_4 : Code := .seq k51_94 k51_5
def k51_3 : Code := .seq k51_82 k51_8
def k51_93 := cp kc51 [1, 0]
def k51_2 : Code := .seq k51_4 k51_3
def k51_92 := cp kc51 [0]
def k51_1 : Code := .seq k51_93 k51_2
def k51_0 : Code := .seq k51_92 k51_1
def p51_45 (cf : CallF) (lf : Nat) (s1 : Value) (s8 : Value) (s10 : Value) (s17 : Value) (s21 : Value) (s22 : Value) (h : Heap) : Ans :=
 bindO (fieldAddrA E 49 s17 4) fun t212 =>
 bindR (skipR (storeA E 37 t212 s21 h)) (fun v h => some (.panic v, h)) fun _ h =>
 bindO (loadA E 49 s17 h) fun t213 =>
 bindO (binA E 3 .add s22 (.int .i64 (1))) fun t215 =>
 bindO (binB E 3 .sub t215 s1) fun t217 =>
 bindO (buildA E 29 []) fun t218 =>
 bindR (skipR (storeA E 49 s8 t213 h)) (fun v h => some (.panic v, h)) fun _ h =>
 bindR (skipR (storeA E 29 s10 t218 h)) (fun v h => some (.panic v, h)) fun _ h =>
 bindO (loadA E 49 s8 h) fun tr8 =>
 bindO (loadA E 29 s10 h) fun tr10 =>
 some (.ret (.tuple ⟨[tr8, t217, tr10]⟩), h)
theorem p51_45_ok (cf : CallF) (lf : Nat) (T : Tmps) (h : Heap) : execK E cf lf 219 k51_45 T h (finK E [.cell 8 49, .tmp 9, .cell 10 29]) = p51_45 cf lf (T 1) (T 8) (T 10) (T 17) (T 21) (T 22) h := by kernel_rfl
def p51_49 (cf : CallF) (lf : Nat) (s1 : Value) (s8 : Value) (s10 : Value) (s17 : Value) (s21 : Value) (s22 : Value) (s207 : Value) (h : Heap) : Ans :=
 condV s207 (
  bindO (buildA E 49 []) fun t208 =>
  bindR (cf 28 [s1] h) (fun v h => some (.panic v, h)) fun t210 h =>
  bindR (skipR (storeA E 49 s8 t208 h)) (fun v h => some (.panic v, h)) fun _ h =>
  bindR (skipR (storeA E 29 s10 t210 h)) (fun v h => some (.panic v, h)) fun _ h =>
  bindO (loadA E 49 s8 h) fun tr8 =>
  bindO (loadA E 29 s10 h) fun tr10 =>
  some (.ret (.tuple ⟨[tr8, (.int .i64 (0)), tr10]⟩), h)
 ) (
  p51_45 cf lf s1 s8 s10 s17 s21 s22 h
 )
theorem p51_49_ok (cf : CallF) (lf : Nat) (T : Tmps) (h : Heap) : execK E cf lf 219 k51_49 T h (seqK (fun T h => p51_45 cf lf (T 1) (T 8) (T 10) (T 17) (T 21) (T 22) h) (finK E [.cell 8 49, .tmp 9, .cell 10 29])) = p51_49 cf lf (T 1) (T 8) (T 10) (T 17) (T 21) (T 22) (T 207) h := by kernel_rfl
def p51_38 (cf : CallF) (lf : Nat) (s0 : Value) (s1 : Value) (s3 : Value) (s8 : Value) (s10 : Value) (s14 : Value) (s17 : Value) (s20 : Value) (h : Heap) : Ans :=
 bindO (fieldAddrA E 49 s17 2) fun t188 =>
 bindO (loadA E 9 t188 h) fun t189 =>
 bindO (lenA E 9 t189) fun t190 =>
 bindO (binB E 3 .add s14 t190) fun t191 =>
 bindO (binA E 3 .add s3 (.int .i64 (1))) fun t194 =>
 bindR (cf 29 [s0, t191, s20, t194] h) (fun v h => some (.panic v, h)) fun t195 h =>
 bindO (extractA t195 0) fun t196 =>
 bindO (extractA t195 1) fun t197 =>
 bindO (extractA t195 2) fun t198 =>
 bindR (valR (allocA E 29 h)) (fun v h => some (.panic v, h)) fun t23 h =>
 bindR (skipR (storeA E 29 t23 t198 h)) (fun v h => some (.panic v, h)) fun _ h =>
 bindO (fieldAddrA E 29 t23 0) fun t199 =>
 bindO (loadA E 27 t199 h) fun t200 =>
 bindO (binA E 27 .neq t200 (.int .i64 (0))) fun t201 =>
 condV t201 (
  bindO (buildA E 49 []) fun t202 =>
  bindO (loadA E 29 t23 h) fun t203 =>
  bindR (skipR (storeA E 49 s8 t202 h)) (fun v h => some (.panic v, h)) fun _ h =>
  bif (eqOV (loadA E 29 t23 h) t203) && (true) then
  bindR (skipR (storeA E 29 s10 t203 h)) (fun v h => some (.panic v, h)) fun _ h =>
  bindO (loadA E 49 s8 h) fun tr8 =>
  bindO (loadA E 29 s10 h) fun tr10 =>
  some (.ret (.tuple ⟨[tr8, (.int .i64 (0)), tr10]⟩), h)
  else none
 ) (
  bindR (cf 26 [s0, t197, (.string (mkS [125]))] h) (fun v h => some (.panic v, h)) fun t206 h =>
  bindO (unA .not t206) fun t207 =>
  p51_49 cf lf s1 s8 s10 s17 t196 t197 t207 h
 )
theorem p51_38_ok (cf : CallF) (lf : Nat) (T : Tmps) (h : Heap) : execK E cf lf 219 k51_38 T h (finK E [.cell 8 49, .tmp 9, .cell 10 29]) = p51_38 cf lf (T 0) (T 1) (T 3) (T 8) (T 10) (T 14) (T 17) (T 20) h := by simp only [k51_38, k51_39, k51_40, k51_41, k51_42, k51_43, k51_48, execK_all, p51_45_ok, p51_49_ok]; delta p51_38; generalize p51_45 = G0; generalize p51_49 = G1; as_aux_lemma => kernel_rfl
def p51_31 (cf : CallF) (lf : Nat) (s0 : Value) (s1 : Value) (s3 : Value) (s8 : Value) (s10 : Value) (s11 : Value) (s14 : Value) (s17 : Value) (h : Heap) : Ans :=
 bindO (fieldAddrA E 49 s17 2) fun t178 =>
 bindO (loadA E 9 t178 h) fun t179 =>
 bindO (binA E 9 .eql t179 (.string (mkS []))) fun t180 =>
 condV t180 (
  bindO (buildA E 49 []) fun t181 =>
  bindR (cf 28 [s1] h) (fun v h => some (.panic v, h)) fun t183 h =>
  bindR (skipR (storeA E 49 s8 t181 h)) (fun v h => some (.panic v, h)) fun _ h =>
  bindR (skipR (storeA E 29 s10 t183 h)) (fun v h => some (.panic v, h)) fun _ h =>
  bindO (loadA E 49 s8 h) fun tr8 =>
  bindO (loadA E 29 s10 h) fun tr10 =>
  some (.ret (.tuple ⟨[tr8, (.int .i64 (0)), tr10]⟩), h)
 ) (
  condV s11 (
   p51_38 cf lf s0 s1 s3 s8 s10 s14 s17 (.int .i64 (4)) h
  ) (
   p51_38 cf lf s0 s1 s3 s8 s10 s14 s17 (.int .i64 (3)) h
  )
 )
theorem p51_31_ok (cf : CallF) (lf : Nat) (T : Tmps) (h : Heap) : execK E cf lf 219 k51_31 T h (finK E [.cell 8 49, .tmp 9, .cell 10 29]) = p51_31 cf lf (T 0) (T 1) (T 3) (T 8) (T 10) (T 11) (T 14) (T 17) h := by simp only [k51_31, k51_32, k51_33, k51_34, k51_35, k51_37, k51_52, k51_53, execK_all, p51_38_ok]; delta p51_31; generalize p51_38 = G0; as_aux_lemma => kernel_rfl
def p51_61 (cf : CallF) (lf : Nat) (F56 : Value → Value → Value → Value → Value → Value → Value → Value → Value → Value → Heap → Ans) (s0 : Value) (s1 : Value) (s3 : Value) (s8 : Value) (s10 : Value) (s11 : Value) (s14 : Value) (s17 : Value) (s18 : Value) (s19 : Value) (h : Heap) : Ans :=
 bindO (binA E 3 .add s19 (.int .i64 (1))) fun t165 =>
 F56 s0 s1 s3 s8 s10 s11 s14 s17 s18 t165 h
theorem p51_61_ok (cf : CallF) (lf : Nat) (F56 : Value → Value → Value → Value → Value → Value → Value → Value → Value → Value → Heap → Ans) (T : Tmps) (h : Heap) : execK E cf lf 219 k51_61 T h (seqK (fun T h => F56 (T 0) (T 1) (T 3) (T 8) (T 10) (T 11) (T 14) (T 17) (T 18) (T 19) h) (blockK 0 (seqK (fun T h => p51_31 cf lf (T 0) (T 1) (T 3) (T 8) (T 10) (T 11) (T 14) (T 17) h) (finK E [.cell 8 49, .tmp 9, .cell 10 29])))) = p51_61 cf lf F56 (T 0) (T 1) (T 3) (T 8) (T 10) (T 11) (T 14) (T 17) (T 18) (T 19) h := by kernel_rfl
def p51_64 (cf : CallF) (lf : Nat) (F56 : Value → Value → Value → Value → Value → Value → Value → Value → Value → Value → Heap → Ans) (s0 : Value) (s1 : Value) (s3 : Value) (s8 : Value) (s10 : Value) (s11 : Value) (s14 : Value) (s17 : Value) (s18 : Value) (s19 : Value) (s172 : Value) (h : Heap) : Ans :=
 condV s172 (
  bindO (indexAddrA E 40 s18 s19) fun t175 =>
  bindO (loadA E 9 t175 h) fun t176 =>
  bindO (fieldAddrA E 49 s17 2) fun t177 =>
  bindR (skipR (storeA E 9 t177 t176 h)) (fun v h => some (.panic v, h)) fun _ h =>
  p51_61 cf lf F56 s0 s1 s3 s8 s10 s11 s14 s17 s18 s19 h
 ) (
  p51_61 cf lf F56 s0 s1 s3 s8 s10 s11 s14 s17 s18 s19 h
 )
theorem p51_64_ok (cf : CallF) (lf : Nat) (F56 : Value → Value → Value → Value → Value → Value → Value → Value → Value → Value → Heap → Ans) (T : Tmps) (h : Heap) : execK E cf lf 219 k51_64 T h (blockK 1 (seqK (fun T h => p51_61 cf lf F56 (T 0) (T 1) (T 3) (T 8) (T 10) (T 11) (T 14) (T 17) (T 18) (T 19) h) (seqK (fun T h => F56 (T 0) (T 1) (T 3) (T 8) (T 10) (T 11) (T 14) (T 17) (T 18) (T 19) h) (blockK 0 (seqK (fun T h => p51_31 cf lf (T 0) (T 1) (T 3) (T 8) (T 10) (T 11) (T 14) (T 17) h) (finK E [.cell 8 49, .tmp 9, .cell 10 29])))))) = p51_64 cf lf F56 (T 0) (T 1) (T 3) (T 8) (T 10) (T 11) (T 14) (T 17) (T 18) (T 19) (T 172) h := by kernel_rfl
def p51_57 (cf : CallF) (lf : Nat) (F56 : Value → Value → Value → Value → Value → Value → Value → Value → Value → Value → Heap → Ans) (s0 : Value) (s1 : Value) (s3 : Value) (s8 : Value) (s10 : Value) (s11 : Value) (s14 : Value) (s17 : Value) (s18 : Value) (s19 : Value) (h : Heap) : Ans :=
 bindO (lenA E 40 s18) fun t157 =>
 bindO (binB E 3 .lss s19 t157) fun t158 =>
 bindO (gO (boolIs true t158) (fieldAddrA E 49 s17 2)) fun t160 =>
 bindO (gO (boolIs true t158) (loadA E 9 t160 h)) fun t161 =>
 bindO (gO (boolIs true t158) (binA E 9 .eql t161 (.string (mkS [])))) fun t162 =>
 bindO (pickA t158 t162 (.bool false)) fun t163 =>
 condV t163 (
  bindO (indexAddrA E 40 s18 s19) fun t170 =>
  bindO (loadA E 9 t170 h) fun t171 =>
  bindR (cf 26 [s0, s14, t171] h) (fun v h => some (.panic v, h)) fun t172 h =>
  p51_64 cf lf F56 s0 s1 s3 s8 s10 s11 s14 s17 s18 s19 t172 h
 ) (
  p51_31 cf lf s0 s1 s3 s8 s10 s11 s14 s17 h
 )
theorem p51_57_ok (cf : CallF) (lf : Nat) (F56 : Value → Value → Value → Value → Value → Value → Value → Value → Value → Value → Heap → Ans) (T : Tmps) (h : Heap) : execK E cf lf 219 k51_57 T h (seqK (fun T h => F56 (T 0) (T 1) (T 3) (T 8) (T 10) (T 11) (T 14) (T 17) (T 18) (T 19) h) (blockK 0 (seqK (fun T h => p51_31 cf lf (T 0) (T 1) (T 3) (T 8) (T 10) (T 11) (T 14) (T 17) h) (finK E [.cell 8 49, .tmp 9, .cell 10 29])))) = p51_57 cf lf F56 (T 0) (T 1) (T 3) (T 8) (T 10) (T 11) (T 14) (T 17) (T 18) (T 19) h := by simp only [k51_57, k51_58, k51_59, k51_60, k51_62, k51_63, execK_all, p51_61_ok, p51_64_ok]; delta p51_57; generalize p51_61 = G0; generalize p51_64 = G1; as_aux_lemma => kernel_rfl
def l51_56 (cf : CallF) (lf : Nat) : Nat → Value → Value → Value → Value → Value → Value → Value → Value → Value → Value → Heap → Ans
 | 0, _, _, _, _, _, _, _, _, _, _, _ => none
 | n + 1, s0, s1, s3, s8, s10, s11, s14, s17, s18, s19, h => p51_57 cf lf (l51_56 cf lf n) s0 s1 s3 s8 s10 s11 s14 s17 s18 s19 h
theorem l51_56_ok (cf : CallF) (lf : Nat) (n : Nat) : ∀ (T : Tmps) (h : Heap), iterK (fun T h K => execK E cf lf 219 k51_57 T h K) (blockK 0 (seqK (fun T h => p51_31 cf lf (T 0) (T 1) (T 3) (T 8) (T 10) (T 11) (T 14) (T 17) h) (finK E [.cell 8 49, .tmp 9, .cell 10 29]))) n T h = l51_56 cf lf n (T 0) (T 1) (T 3) (T 8) (T 10) (T 11) (T 14) (T 17) (T 18) (T 19) h := by
 induction n with
 | zero => intro T h; rfl
 | succ n ih =>
  intro T h
  rw [iterK_succ, show iterK (fun T h K => execK E cf lf 219 k51_57 T h K) (blockK 0 (seqK (fun T h => p51_31 cf lf (T 0) (T 1) (T 3) (T 8) (T 10) (T 11) (T 14) (T 17) h) (finK E [.cell 8 49, .tmp 9, .cell 10 29]))) n = (fun T h => l51_56 cf lf n (T 0) (T 1) (T 3) (T 8) (T 10) (T 11) (T 14) (T 17) (T 18) (T 19) h) from funext fun T => funext fun h => ih T h]
  exact p51_57_ok cf lf (l51_56 cf lf n) T h
def p51_55 (cf : CallF) (lf : Nat) (s0 : Value) (s1 : Value) (s3 : Value) (s8 : Value) (s10 : Value) (s11 : Value) (s14 : Value) (s17 : Value) (s18 : Value) (s19 : Value) (h : Heap) : Ans :=
 l51_56 cf lf lf s0 s1 s3 s8 s10 s11 s14 s17 s18 s19 h
theorem p51_55_ok (cf : CallF) (lf : Nat) (T : Tmps) (h : Heap) : execK E cf lf 219 k51_55 T h (seqK (fun T h => p51_31 cf lf (T 0) (T 1) (T 3) (T 8) (T 10) (T 11) (T 14) (T 17) h) (finK E [.cell 8 49, .tmp 9, .cell 10 29])) = p51_55 cf lf (T 0) (T 1) (T 3) (T 8) (T 10) (T 11) (T 14) (T 17) (T 18) (T 19) h := by simp only [k51_55, k51_56, execK_all, l51_56_ok]; delta p51_55; generalize l51_56 = G0; as_aux_lemma => kernel_rfl
def p51_24 (cf : CallF) (lf : Nat) (s0 : Value) (s1 : Value) (s3 : Value) (s8 : Value) (s10 : Value) (s11 : Value) (s14 : Value) (s17 : Value) (h : Heap) : Ans :=
 bindR (cf 26 [s0, s14, (.string (mkS [125]))] h) (fun v h => some (.panic v, h)) fun t147 h =>
 condV t147 (
  bindO (loadA E 49 s17 h) fun t148 =>
  bindO (binA E 3 .add s14 (.int .i64 (1))) fun t150 =>
  bindO (binB E 3 .sub t150 s1) fun t152 =>
  bindO (buildA E 29 []) fun t153 =>
  bindR (skipR (storeA E 49 s8 t148 h)) (fun v h => some (.panic v, h)) fun _ h =>
  bindR (skipR (storeA E 29 s10 t153 h)) (fun v h => some (.panic v, h)) fun _ h =>
  bindO (loadA E 49 s8 h) fun tr8 =>
  bindO (loadA E 29 s10 h) fun tr10 =>
  some (.ret (.tuple ⟨[tr8, t152, tr10]⟩), h)
 ) (
  bindR (cf 78 [] h) (fun v h => some (.panic v, h)) fun t154 h =>
  p51_55 cf lf s0 s1 s3 s8 s10 s11 s14 s17 t154 (.int .i64 (0)) h
 )
theorem p51_24_ok (cf : CallF) (lf : Nat) (T : Tmps) (h : Heap) : execK E cf lf 219 k51_24 T h (finK E [.cell 8 49, .tmp 9, .cell 10 29]) = p51_24 cf lf (T 0) (T 1) (T 3) (T 8) (T 10) (T 11) (T 14) (T 17) h := by simp only [k51_24, k51_25, k51_26, k51_27, k51_28, k51_30, k51_54, execK_all, p51_31_ok, p51_55_ok]; delta p51_24; generalize p51_31 = G0; generalize p51_55 = G1; as_aux_lemma => kernel_rfl
def p51_16 (cf : CallF) (lf : Nat) (s0 : Value) (s1 : Value) (s3 : Value) (s8 : Value) (s10 : Value) (s11 : Value) (s14 : Value) (h : Heap) : Ans :=
 bindR (cf 77 [s0, s14, (.string (mkS [63, 35, 64, 42]))] h) (fun v h => some (.panic v, h)) fun t128 h =>
 bindO (binA E 3 .eql t128 (.int .i64 (0))) fun t130 =>
 condV t130 (
  bindO (buildA E 49 []) fun t131 =>
  bindR (cf 28 [s1] h) (fun v h => some (.panic v, h)) fun t133 h =>
  bindR (skipR (storeA E 49 s8 t131 h)) (fun v h => some (.panic v, h)) fun _ h =>
  bindR (skipR (storeA E 29 s10 t133 h)) (fun v h => some (.panic v, h)) fun _ h =>
  bindO (loadA E 49 s8 h) fun tr8 =>
  bindO (loadA E 29 s10 h) fun tr10 =>
  some (.ret (.tuple ⟨[tr8, (.int .i64 (0)), tr10]⟩), h)
 ) (
  bindO (binB E 3 .add s14 t128) fun t138 =>
  bindO (sliceA E 9 s0 (some s14) (some t138) h) fun t139 =>
  bindO (buildA E 49 [(0, (.int .i64 (2))), (1, t139), (3, s11)]) fun t141 =>
  bindR (valR (allocA E 49 h)) (fun v h => some (.panic v, h)) fun t17 h =>
  bindR (skipR (storeA E 49 t17 t141 h)) (fun v h => some (.panic v, h)) fun _ h =>
  bindO (binB E 3 .add s14 t128) fun t144 =>
  p51_24 cf lf s0 s1 s3 s8 s10 s11 t144 t17 h
 )
theorem p51_16_ok (cf : CallF) (lf : Nat) (T : Tmps) (h : Heap) : execK E cf lf 219 k51_16 T h (finK E [.cell 8 49, .tmp 9, .cell 10 29]) = p51_16 cf lf (T 0) (T 1) (T 3) (T 8) (T 10) (T 11) (T 14) h := by simp only [k51_16, k51_17, k51_18, k51_19, k51_20, k51_21, k51_23, execK_all, p51_24_ok]; delta p51_16; generalize p51_24 = G0; as_aux_lemma => kernel_rfl
def p51_66 (cf : CallF) (lf : Nat) (s0 : Value) (s1 : Value) (s3 : Value) (s8 : Value) (s10 : Value) (s11 : Value) (s14 : Value) (s94 : Value) (h : Heap) : Ans :=
 condV s94 (
  bindO (binA E 3 .add s14 (.int .i64 (1))) fun t97 =>
  bindR (cf 77 [s0, t97, (.string (mkS [63, 64, 42]))] h) (fun v h => some (.panic v, h)) fun t98 h =>
  bindO (binA E 3 .gtr t98 (.int .i64 (0))) fun t100 =>
  bindO (gO (boolIs true t100) (some s0)) fun t102 =>
  bindO (gO (boolIs true t100) (some s14)) fun t103 =>
  bindO (gO (boolIs true t100) (binA E 3 .add t103 (.int .i64 (1)))) fun t104 =>
  bindO (gO (boolIs true t100) (some t98)) fun t105 =>
  bindO (gO (boolIs true t100) (binB E 3 .add t104 t105)) fun t106 =>
  bindR (gR (boolIs true t100) (cf 26 [t102, t106, (.string (mkS [125]))] h) h) (fun v h => some (.panic v, h)) fun t107 h =>
  bindO (pickA t100 t107 (.bool false)) fun t108 =>
  condV t108 (
   bindO (binA E 3 .add s14 (.int .i64 (1))) fun t111 =>
   bindO (binA E 3 .add s14 (.int .i64 (1))) fun t113 =>
   bindO (binB E 3 .add t113 t98) fun t115 =>
   bindO (sliceA E 9 s0 (some t111) (some t115) h) fun t116 =>
   bindO (buildA E 49 [(0, (.int .i64 (2))), (1, t116), (2, (.string (mkS [108, 101, 110]))), (3, s11)]) fun t118 =>
   bindO (binA E 3 .add s14 (.int .i64 (2))) fun t120 =>
   bindO (binB E 3 .add t120 t98) fun t122 =>
   bindO (binB E 3 .sub t122 s1) fun t124 =>
   bindO (buildA E 29 []) fun t125 =>
   bindR (skipR (storeA E 49 s8 t118 h)) (fun v h => some (.panic v, h)) fun _ h =>
   bindR (skipR (storeA E 29 s10 t125 h)) (fun v h => some (.panic v, h)) fun _ h =>
   bindO (loadA E 49 s8 h) fun tr8 =>
   bindO (loadA E 29 s10 h) fun tr10 =>
   some (.ret (.tuple ⟨[tr8, t124, tr10]⟩), h)
  ) (
   p51_16 cf lf s0 s1 s3 s8 s10 s11 s14 h
  )
 ) (
  p51_16 cf lf s0 s1 s3 s8 s10 s11 s14 h
 )
theorem p51_66_ok (cf : CallF) (lf : Nat) (T : Tmps) (h : Heap) : execK E cf lf 219 k51_66 T h (seqK (fun T h => p51_16 cf lf (T 0) (T 1) (T 3) (T 8) (T 10) (T 11) (T 14) h) (finK E [.cell 8 49, .tmp 9, .cell 10 29])) = p51_66 cf lf (T 0) (T 1) (T 3) (T 8) (T 10) (T 11) (T 14) (T 94) h := by kernel_rfl
def p51_9 (cf : CallF) (lf : Nat) (s0 : Value) (s1 : Value) (s3 : Value) (s8 : Value) (s10 : Value) (s11 : Value) (h : Heap) : Ans :=
 bindO (binA E 3 .geq s3 (.int .i64 (20))) fun t86 =>
 condV t86 (
  bindO (buildA E 49 []) fun t87 =>
  bindO (buildA E 29 [(0, (.int .i64 (3))), (1, s1)]) fun t89 =>
  bindR (skipR (storeA E 49 s8 t87 h)) (fun v h => some (.panic v, h)) fun _ h =>
  bindR (skipR (storeA E 29 s10 t89 h)) (fun v h => some (.panic v, h)) fun _ h =>
  bindO (loadA E 49 s8 h) fun tr8 =>
  bindO (loadA E 29 s10 h) fun tr10 =>
  some (.ret (.tuple ⟨[tr8, (.int .i64 (0)), tr10]⟩), h)
 ) (
  bindO (binA E 3 .add s1 (.int .i64 (2))) fun t91 =>
  bindR (cf 26 [s0, t91, (.string (mkS [35]))] h) (fun v h => some (.panic v, h)) fun t94 h =>
  p51_66 cf lf s0 s1 s3 s8 s10 s11 t91 t94 h
 )
theorem p51_9_ok (cf : CallF) (lf : Nat) (T : Tmps) (h : Heap) : execK E cf lf 219 k51_9 T h (finK E [.cell 8 49, .tmp 9, .cell 10 29]) = p51_9 cf lf (T 0) (T 1) (T 3) (T 8) (T 10) (T 11) h := by simp only [k51_10, k51_11, k51_12, k51_13, k51_15, k51_65, k51_9, execK_all, p51_16_ok, p51_66_ok]; delta p51_9; generalize p51_16 = G0; generalize p51_66 = G1; as_aux_lemma => kernel_rfl
def p51_73 (cf : CallF) (lf : Nat) (s0 : Value) (s1 : Value) (s3 : Value) (s8 : Value) (s10 : Value) (s11 : Value) (s63 : Value) (h : Heap) : Ans :=
 condV s63 (
  bindO (binA E 3 .add s1 (.int .i64 (1))) fun t66 =>
  bindR (cf 77 [s0, t66, (.string (mkS [63, 35, 64, 42]))] h) (fun v h => some (.panic v, h)) fun t67 h =>
  bindO (binA E 3 .eql t67 (.int .i64 (0))) fun t69 =>
  condV t69 (
   bindO (buildA E 49 []) fun t70 =>
   bindO (buildA E 29 []) fun t71 =>
   bindR (skipR (storeA E 49 s8 t70 h)) (fun v h => some (.panic v, h)) fun _ h =>
   bindR (skipR (storeA E 29 s10 t71 h)) (fun v h => some (.panic v, h)) fun _ h =>
   bindO (loadA E 49 s8 h) fun tr8 =>
   bindO (loadA E 29 s10 h) fun tr10 =>
   some (.ret (.tuple ⟨[tr8, (.int .i64 (0)), tr10]⟩), h)
  ) (
   bindO (binA E 3 .add s1 (.int .i64 (1))) fun t74 =>
   bindO (binA E 3 .add s1 (.int .i64 (1))) fun t76 =>
   bindO (binB E 3 .add t76 t67) fun t78 =>
   bindO (sliceA E 9 s0 (some t74) (some t78) h) fun t79 =>
   bindO (buildA E 49 [(0, (.int .i64 (2))), (1, t79), (3, s11)]) fun t81 =>
   bindO (binA E 3 .add (.int .i64 (1)) t67) fun t83 =>
   bindO (buildA E 29 []) fun t84 =>
   bindR (skipR (storeA E 49 s8 t81 h)) (fun v h => some (.panic v, h)) fun _ h =>
   bindR (skipR (storeA E 29 s10 t84 h)) (fun v h => some (.panic v, h)) fun _ h =>
   bindO (loadA E 49 s8 h) fun tr8 =>
   bindO (loadA E 29 s10 h) fun tr10 =>
   some (.ret (.tuple ⟨[tr8, t83, tr10]⟩), h)
  )
 ) (
  p51_9 cf lf s0 s1 s3 s8 s10 s11 h
 )
theorem p51_73_ok (cf : CallF) (lf : Nat) (T : Tmps) (h : Heap) : execK E cf lf 219 k51_73 T h (seqK (fun T h => p51_9 cf lf (T 0) (T 1) (T 3) (T 8) (T 10) (T 11) h) (finK E [.cell 8 49, .tmp 9, .cell 10 29])) = p51_73 cf lf (T 0) (T 1) (T 3) (T 8) (T 10) (T 11) (T 63) h := by kernel_rfl
def p51_8 (cf : CallF) (lf : Nat) (s0 : Value) (s1 : Value) (s3 : Value) (s8 : Value) (s10 : Value) (s11 : Value) (h : Heap) : Ans :=
 bindR (cf 26 [s0, s1, (.string (mkS [36, 123]))] h) (fun v h => some (.panic v, h)) fun t62 h =>
 bindO (unA .not t62) fun t63 =>
 p51_73 cf lf s0 s1 s3 s8 s10 s11 t63 h
theorem p51_8_ok (cf : CallF) (lf : Nat) (T : Tmps) (h : Heap) : execK E cf lf 219 k51_8 T h (finK E [.cell 8 49, .tmp 9, .cell 10 29]) = p51_8 cf lf (T 0) (T 1) (T 3) (T 8) (T 10) (T 11) h := by simp only [k51_72, k51_8, execK_all, p51_73_ok, p51_9_ok]; delta p51_8; generalize p51_73 = G0; generalize p51_9 = G1; as_aux_lemma => kernel_rfl
def p51_83 (cf : CallF) (lf : Nat) (s0 : Value) (s1 : Value) (s3 : Value) (s8 : Value) (s10 : Value) (s11 : Value) (s38 : Value) (h : Heap) : Ans :=
 condV s38 (
  bindO (binA E 3 .add s1 (.int .i64 (2))) fun t41 =>
  bindR (cf 76 [s0, t41] h) (fun v h => some (.panic v, h)) fun t42 h =>
  bindO (binA E 3 .lss t42 (.int .i64 (0))) fun t44 =>
  condV t44 (
   bindO (buildA E 49 []) fun t45 =>
   bindR (cf 28 [s1] h) (fun v h => some (.panic v, h)) fun t47 h =>
   bindR (skipR (storeA E 49 s8 t45 h)) (fun v h => some (.panic v, h)) fun _ h =>
   bindR (skipR (storeA E 29 s10 t47 h)) (fun v h => some (.panic v, h)) fun _ h =>
   bindO (loadA E 49 s8 h) fun tr8 =>
   bindO (loadA E 29 s10 h) fun tr10 =>
   some (.ret (.tuple ⟨[tr8, (.int .i64 (0)), tr10]⟩), h)
  ) (
   bindO (binA E 3 .add s1 (.int .i64 (2))) fun t50 =>
   bindO (sliceA E 9 s0 (some t50) (some t42) h) fun t52 =>
   bindO (buildA E 49 [(0, (.int .i64 (3))), (1, t52), (3, s11)]) fun t54 =>
   bindO (binA E 3 .add t42 (.int .i64 (1))) fun t56 =>
   bindO (binB E 3 .sub t56 s1) fun t58 =>
   bindO (buildA E 29 []) fun t59 =>
   bindR (skipR (storeA E 49 s8 t54 h)) (fun v h => some (.panic v, h)) fun _ h =>
   bindR (skipR (storeA E 29 s10 t59 h)) (fun v h => some (.panic v, h)) fun _ h =>
   bindO (loadA E 49 s8 h) fun tr8 =>
   bindO (loadA E 29 s10 h) fun tr10 =>
   some (.ret (.tuple ⟨[tr8, t58, tr10]⟩), h)
  )
 ) (
  p51_8 cf lf s0 s1 s3 s8 s10 s11 h
 )
theorem p51_83_ok (cf : CallF) (lf : Nat) (T : Tmps) (h : Heap) : execK E cf lf 219 k51_83 T h (seqK (fun T h => p51_8 cf lf (T 0) (T 1) (T 3) (T 8) (T 10) (T 11) h) (finK E [.cell 8 49, .tmp 9, .cell 10 29])) = p51_83 cf lf (T 0) (T 1) (T 3) (T 8) (T 10) (T 11) (T 38) h := by kernel_rfl
def p51_0 (cf : CallF) (lf : Nat) (s0 : Value) (s1 : Value) (s2 : Value) (s3 : Value) (h : Heap) : Ans :=
 bindR (valR (allocA E 49 h)) (fun v h => some (.panic v, h)) fun t8 h =>
 bindR (valR (allocA E 29 h)) (fun v h => some (.panic v, h)) fun t10 h =>
 bindO (binA E 3 .neq s2 (.int .i64 (0))) fun t25 =>
 bindO (gO (boolIs true t25) (some s2)) fun t27 =>
 bindO (gO (boolIs true t25) (binA E 3 .neq t27 (.int .i64 (3)))) fun t28 =>
 bindO (pickA t25 t28 (.bool false)) fun t29 =>
 bindR (cf 26 [s0, s1, (.string (mkS [36, 40, 40]))] h) (fun v h => some (.panic v, h)) fun t32 h =>
 condV t32 (
  bindO (buildA E 49 []) fun t33 =>
  bindR (cf 28 [s1] h) (fun v h => some (.panic v, h)) fun t35 h =>
  bindR (skipR (storeA E 49 t8 t33 h)) (fun v h => some (.panic v, h)) fun _ h =>
  bindR (skipR (storeA E 29 t10 t35 h)) (fun v h => some (.panic v, h)) fun _ h =>
  bindO (loadA E 49 t8 h) fun tr8 =>
  bindO (loadA E 29 t10 h) fun tr10 =>
  some (.ret (.tuple ⟨[tr8, (.int .i64 (0)), tr10]⟩), h)
 ) (
  bindR (cf 26 [s0, s1, (.string (mkS [36, 40]))] h) (fun v h => some (.panic v, h)) fun t38 h =>
  p51_83 cf lf s0 s1 s3 t8 t10 t29 t38 h
 )
theorem p51_0_ok (cf : CallF) (lf : Nat) (T : Tmps) (h : Heap) : execK E cf lf 219 k51_0 T h (finK E [.cell 8 49, .tmp 9, .cell 10 29]) = p51_0 cf lf (T 0) (T 1) (T 2) (T 3) h := by simp only [k51_0, k51_1, k51_2, k51_3, k51_4, k51_5, k51_6, k51_82, execK_all, p51_83_ok, p51_8_ok]; delta p51_0; generalize p51_83 = G0; generalize p51_8 = G1; as_aux_lemma => kernel_rfl
def f51 (cf : CallF) (lf : Nat) (a0 : Value) (a1 : Value) (a2 : Value) (a3 : Value) (h : Heap) : Ans := p51_0 cf lf a0 a1 a2 a3 h
theorem f51_ok (cf : CallF) (lf : Nat) (a0 a1 a2 a3 : Value) (h : Heap) : stepN E cf lf 51 [a0, a1, a2, a3] h = f51 cf lf a0 a1 a2 a3 h := (show stepN E cf lf 51 [a0, a1, a2, a3] h = execK E cf lf 219 k51_0 (T0 [a0, a1, a2, a3]) h (finK E [.cell 8 49, .tmp 9, .cell 10 29]) by kernel_rfl).trans ((p51_0_ok cf lf (T0 [a0, a1, a2, a3]) h).trans (by kernel_rfl))
def f60 (cf : CallF) (lf : Nat) (a0 : Value) (a1 : Value) (h : Heap) : Ans :=
 bindO (lenA E 9 a0) fun t6 =>
 bindO (lenA E 9 a1) fun t8 =>
 bindO (binB E 3 .geq t6 t8) fun t9 =>
 bindO (gO (boolIs true t9) (some a0)) fun t11 =>
 bindO (gO (boolIs true t9) (some a1)) fun t12 =>
 bindO (gO (boolIs true t9) (lenA E 9 t12)) fun t13 =>
 bindO (gO (boolIs true t9) (sliceA E 9 t11 none (some t13) h)) fun t14 =>
 bindO (gO (boolIs true t9) (some a1)) fun t15 =>
 bindO (gO (boolIs true t9) (binB E 9 .eql t14 t15)) fun t16 =>
 bindO (pickA t9 t16 (.bool false)) fun t17 =>
 some (.ret t17, h)
theorem f60_ok (cf : CallF) (lf : Nat) (a0 a1 : Value) (h : Heap) : stepN E cf lf 60 [a0, a1] h = f60 cf lf a0 a1 h := by kernel_rfl
def f66 (cf : CallF) (lf : Nat) (a0 : Value) (a1 : Value) (h : Heap) : Ans :=
 bindR (cf 85 [a0, a1] h) (fun v h => some (.panic v, h)) fun t10 h =>
 bindO (binA E 3 .geq t10 (.int .i64 (0))) fun t12 =>
 condV t12 (
  bindO (sliceA E 9 a0 none (some t10) h) fun t15 =>
  bindO (lenA E 9 a1) fun t19 =>
  bindO (binB E 3 .add t10 t19) fun t20 =>
  bindO (sliceA E 9 a0 (some t20) none h) fun t21 =>
  some (.ret (.tuple ⟨[t15, t21, (.bool true)]⟩), h)
 ) (
  some (.ret (.tuple ⟨[a0, (.string (mkS [])), (.bool false)]⟩), h)
 )
theorem f66_ok (cf : CallF) (lf : Nat) (a0 a1 : Value) (h : Heap) : stepN E cf lf 66 [a0, a1] h = f66 cf lf a0 a1 h := by kernel_rfl
noncomputable def kc67 := codeOf Tryd.f67
def k67_26 := cp kc67 [1, 0, 1, 0, 0, 1, 1, 0, 0, 1, 1, 0, 0]
def k67_17 := cp kc67 [1, 0, 1, 0, 0, 1, 1, 0, 0, 1, 1, 0, 1]
def k67_16 : Code := .seq k67_26 k67_17
def k67_25 := cp kc67 [1, 0, 1, 0, 0, 1, 1, 0, 0, 1, 1, 1]
def k67_24 := cp kc67 [1, 0, 1, 0, 0, 1, 1, 0, 0, 1, 0]
def k67_15 : Code := .cond (.tmp 16) k67_16 k67_25
def k67_23 := cp kc67 [1, 0, 1, 0, 0, 1, 1, 0, 0, 0]
def k67_14 : Code := .seq k67_24 k67_15
def k67_13 : Code := .seq k67_23 k67_14
def k67_21 := cp kc67 [1, 0, 1, 0, 0, 1, 0, 0]
def k67_22 := cp kc67 [1, 0, 1, 0, 0, 1, 0, 1]
def k67_12 : Code := .block 1 k67_13
def k67_11 := cp kc67 [1, 0, 1, 0, 0, 1, 1, 1]
def k67_10 : Code := .cond (.tmp 9) k67_21 k67_22
def k67_9 : Code := .seq k67_12 k67_11
def k67_20 := cp kc67 [1, 0, 1, 0, 0, 0]
def k67_8 : Code := .seq k67_10 k67_9
def k67_7 : Code := .seq k67_20 k67_8
def k67_6 : Code := .loop k67_7
def k67_19 := cp kc67 [1, 0, 0]
def k67_5 : Code := .block 0 k67_6
def k67_27 := cp kc67 [1, 1, 0]
def k67_3 := cp kc67 [1, 1, 1]
def k67_4 : Code := .seq k67_19 k67_5
def k67_2 : Code := .seq k67_27 k67_3
def k67_18 := cp kc67 [0]
def k67_1 : Code := .seq k67_4 k67_2
def k67_0 : Code := .seq k67_18 k67_1
def p67_2 (cf : CallF) (lf : Nat) (h : Heap) : Ans :=
 some (.ret (.int .i64 (-1)), h)
theorem p67_2_ok (cf : CallF) (lf : Nat) (T : Tmps) (h : Heap) : execK E cf lf 19 k67_2 T h (finK E [.tmp 4]) = p67_2 cf lf h := by kernel_rfl
def p67_7 (cf : CallF) (lf : Nat) (F6 : Value → Value → Value → Value → Heap → Ans) (s0 : Value) (s1 : Value) (s7 : Value) (s8 : Value) (h : Heap) : Ans :=
 bindO (binB E 3 .lss s8 s7) fun t9 =>
 condV t9 (
  bindO (indexAddrA E 40 s0 s8) fun t14 =>
  bindO (loadA E 9 t14 h) fun t15 =>
  bindR (callA E cf s1 [t15] h) (fun v h => some (.panic v, h)) fun t16 h =>
  condV t16 (
   some (.ret s8, h)
  ) (
   bindO (binA E 3 .add s8 (.int .i64 (1))) fun t18 =>
   F6 s0 s1 s7 t18 h
  )
 ) (
  p67_2 cf lf h
 )
theorem p67_7_ok (cf : CallF) (lf : Nat) (F6 : Value → Value → Value → Value → Heap → Ans) (T : Tmps) (h : Heap) : execK E cf lf 19 k67_7 T h (seqK (fun T h => F6 (T 0) (T 1) (T 7) (T 8) h) (blockK 0 (seqK (fun T h => p67_2 cf lf h) (finK E [.tmp 4])))) = p67_7 cf lf F6 (T 0) (T 1) (T 7) (T 8) h := by kernel_rfl
def l67_6 (cf : CallF) (lf : Nat) : Nat → Value → Value → Value → Value → Heap → Ans
 | 0, _, _, _, _, _ => none
 | n + 1, s0, s1, s7, s8, h => p67_7 cf lf (l67_6 cf lf n) s0 s1 s7 s8 h
theorem l67_6_ok (cf : CallF) (lf : Nat) (n : Nat) : ∀ (T : Tmps) (h : Heap), iterK (fun T h K => execK E cf lf 19 k67_7 T h K) (blockK 0 (seqK (fun T h => p67_2 cf lf h) (finK E [.tmp 4]))) n T h = l67_6 cf lf n (T 0) (T 1) (T 7) (T 8) h := by
 induction n with
 | zero => intro T h; rfl
 | succ n ih =>
  intro T h
  rw [iterK_succ, show iterK (fun T h K => execK E cf lf 19 k67_7 T h K) (blockK 0 (seqK (fun T h => p67_2 cf lf h) (finK E [.tmp 4]))) n = (fun T h => l67_6 cf lf n (T 0) (T 1) (T 7) (T 8) h) from funext fun T => funext fun h => ih T h]
  exact p67_7_ok cf lf (l67_6 cf lf n) T h
def p67_0 (cf : CallF) (lf : Nat) (s0 : Value) (s1 : Value) (h : Heap) : Ans :=
 bindO (lenA E 40 s0) fun t7 =>
 l67_6 cf lf lf s0 s1 t7 (.int .i64 (0)) h
theorem p67_0_ok (cf : CallF) (lf : Nat) (T : Tmps) (h : Heap) : execK E cf lf 19 k67_0 T h (finK E [.tmp 4]) = p67_0 cf lf (T 0) (T 1) h := by simp only [k67_0, k67_1, k67_4, k67_5, k67_6, execK_all, l67_6_ok, p67_2_ok]; delta p67_0; generalize l67_6 = G0; generalize p67_2 = G1; as_aux_lemma => kernel_rfl
def f67 (cf : CallF) (lf : Nat) (a0 : Value) (a1 : Value) (h : Heap) : Ans := p67_0 cf lf a0 a1 h
theorem f67_ok (cf : CallF) (lf : Nat) (a0 a1 : Value) (h : Heap) : stepN E cf lf 67 [a0, a1] h = f67 cf lf a0 a1 h := (show stepN E cf lf 67 [a0, a1] h = execK E cf lf 19 k67_0 (T0 [a0, a1]) h (finK E [.tmp 4]) by kernel_rfl).trans ((p67_0_ok cf lf (T0 [a0, a1]) h).trans (by kernel_rfl))
def f68 (cf : CallF) (lf : Nat) (a0 : Value) (h : Heap) : Ans :=
 bindO (binA E 96 .neq a0 (.int .i64 (0))) fun t4 =>
 bindO (gO (boolIs true t4) (some a0)) fun t6 =>
 bindO (gO (boolIs true t4) (binA E 96 .neq t6 (.int .i64 (3)))) fun t7 =>
 bindO (pickA t4 t7 (.bool false)) fun t8 =>
 some (.ret t8, h)
theorem f68_ok (cf : CallF) (lf : Nat) (a0 : Value) (h : Heap) : stepN E cf lf 68 [a0] h = f68 cf lf a0 h := by kernel_rfl
noncomputable def kc69 := codeOf Tryd.f69
def k69_13 := cp kc69 [1, 1, 0, 1, 0]
def k69_14 := cp kc69 [1, 1, 0, 1, 1]
def k69_12 := cp kc69 [1, 1, 0, 0]
def k69_7 : Code := .cond (.tmp 11) k69_13 k69_14
def k69_9 := cp kc69 [0, 1, 0]
def k69_10 := cp kc69 [0, 1, 1]
def k69_6 : Code := .seq k69_12 k69_7
def k69_5 := cp kc69 [1, 1, 1]
def k69_8 := cp kc69 [0, 0]
def k69_3 : Code := .cond (.tmp 6) k69_9 k69_10
def k69_11 := cp kc69 [1, 0]
def k69_4 : Code := .seq k69_6 k69_5
def k69_2 : Code := .seq k69_8 k69_3
def k69_1 : Code := .seq k69_11 k69_4
def k69_0 : Code := .seq k69_2 k69_1
def p69_5 (cf : CallF) (lf : Nat) (s0 : Value) (s2 : Value) (s3 : Value) (h : Heap) : Ans :=
 bindO (loadA E 37 s2 h) fun t13 =>
 bindO (loadA E 49 s3 h) fun t14 =>
 bindR (valR (buildSliceA E 37 1 [(0, t14)] h)) (fun v h => some (.panic v, h)) fun t15 h =>
 bindR (valR (appendA E 37 t13 t15 h)) (fun v h => some (.panic v, h)) fun t16 h =>
 bindR (skipR (storeA E 37 s2 t16 h)) (fun v h => some (.panic v, h)) fun _ h =>
 bindR (skipR (storeA E 79 s0 (.slice none 0 0) h)) (fun v h => some (.panic v, h)) fun _ h =>
 some (.ret (.tuple ⟨[]⟩), h)
theorem p69_5_ok (cf : CallF) (lf : Nat) (T : Tmps) (h : Heap) : execK E cf lf 17 k69_5 T h (finK E []) = p69_5 cf lf (T 0) (T 2) (T 3) h := by kernel_rfl
def p69_0 (cf : CallF) (lf : Nat) (s0 : Value) (s1 : Value) (s2 : Value) (h : Heap) : Ans :=
 bindO (loadA E 79 s0 h) fun t4 =>
 bindO (lenA E 79 t4) fun t5 =>
 bindO (binA E 3 .eql t5 (.int .i64 (0))) fun t6 =>
 condV t6 (
  some (.ret (.tuple ⟨[]⟩), h)
 ) (
  bindO (loadA E 79 s0 h) fun t7 =>
  bindR (valR (convA E 79 9 t7 h)) (fun v h => some (.panic v, h)) fun t8 h =>
  bindO (loadA E 4 s1 h) fun t9 =>
  bindO (buildA E 49 [(0, (.int .i64 (0))), (1, t8), (3, t9)]) fun t10 =>
  bindR (valR (allocA E 49 h)) (fun v h => some (.panic v, h)) fun t3 h =>
  bindR (skipR (storeA E 49 t3 t10 h)) (fun v h => some (.panic v, h)) fun _ h =>
  bindO (loadA E 4 s1 h) fun t11 =>
  condV t11 (
   bindO (fieldAddrA E 49 t3 0) fun t12 =>
   bindR (skipR (storeA E 3 t12 (.int .i64 (1)) h)) (fun v h => some (.panic v, h)) fun _ h =>
   p69_5 cf lf s0 s2 t3 h
  ) (
   p69_5 cf lf s0 s2 t3 h
  )
 )
theorem p69_0_ok (cf : CallF) (lf : Nat) (T : Tmps) (h : Heap) : execK E cf lf 17 k69_0 T h (finK E []) = p69_0 cf lf (T 0) (T 1) (T 2) h := by simp only [k69_0, k69_1, k69_2, k69_3, k69_4, k69_6, k69_7, execK_all, p69_5_ok]; delta p69_0; generalize p69_5 = G0; as_aux_lemma => kernel_rfl
def f69 (cf : CallF) (lf : Nat) (a0 : Value) (a1 : Value) (a2 : Value) (h : Heap) : Ans := p69_0 cf lf a0 a1 a2 h
theorem f69_ok (cf : CallF) (lf : Nat) (a0 a1 a2 : Value) (h : Heap) : stepN E cf lf 69 [a0, a1, a2] h = f69 cf lf a0 a1 a2 h := (show stepN E cf lf 69 [a0, a1, a2] h = execK E cf lf 17 k69_0 (T0 [a0, a1, a2]) h (finK E []) by kernel_rfl).trans ((p69_0_ok cf lf (T0 [a0, a1, a2]) h).trans (by kernel_rfl))
def f70 (cf : CallF) (lf : Nat) (a0 : Value) (a1 : Value) (a2 : Value) (h : Heap) : Ans :=
 bindO (loadA E 1 a1 h) fun t4 =>
 bindR (callA E cf t4 [] h) (fun v h => some (.panic v, h)) fun t5 h =>
 bindO (loadA E 37 a2 h) fun t6 =>
 bindR (valR (appendA E 37 t6 a0 h)) (fun v h => some (.panic v, h)) fun t8 h =>
 bindR (skipR (storeA E 37 a2 t8 h)) (fun v h => some (.panic v, h)) fun _ h =>
 some (.ret (.tuple ⟨[]⟩), h)
theorem f70_ok (cf : CallF) (lf : Nat) (a0 a1 a2 : Value) (h : Heap) : stepN E cf lf 70 [a0, a1, a2] h = f70 cf lf a0 a1 a2 h := by kernel_rfl
def f71 (cf : CallF) (lf : Nat) (a0 : Value) (a1 : Value) (h : Heap) : Ans :=
 bindO (binA E 96 .eql a0 (.int .i64 (0))) fun t7 =>
 condV t7 (
  bindR (cf 73 [(.string (mkS [32, 9, 10, 59, 38, 124, 40, 41, 60, 62])), a1] h) (fun v h => some (.panic v, h)) fun t9 h =>
  bindO (binA E 3 .geq t9 (.int .i64 (0))) fun t10 =>
  some (.ret t10, h)
 ) (
  bindO (binA E 96 .eql a0 (.int .i64 (1))) fun t12 =>
  condV t12 (
   bindO (binA E 5 .eql a1 (.int .u8 (34))) fun t14 =>
   some (.ret t14, h)
  ) (
   bindO (binA E 96 .eql a0 (.int .i64 (2))) fun t16 =>
   condV t16 (
    some (.ret (.bool false), h)
   ) (
    bindO (binA E 5 .eql a1 (.int .u8 (125))) fun t18 =>
    some (.ret t18, h)
   )
  )
 )
theorem f71_ok (cf : CallF) (lf : Nat) (a0 a1 : Value) (h : Heap) : stepN E cf lf 71 [a0, a1] h = f71 cf lf a0 a1 h := by kernel_rfl
noncomputable def kc72 := codeOf Tryd.f72
def k72_14 := cp kc72 [1, 1, 1, 1, 0]
def k72_5 := cp kc72 [1, 1, 1, 1, 1]
def k72_10 := cp kc72 [1, 0, 1, 0]
def k72_11 := cp kc72 [1, 0, 1, 1]
def k72_13 := cp kc72 [1, 1, 1, 0]
def k72_4 : Code := .seq k72_14 k72_5
def k72_9 := cp kc72 [1, 0, 0]
def k72_7 : Code := .cond (.tmp 14) k72_10 k72_11
def k72_12 := cp kc72 [1, 1, 0]
def k72_3 : Code := .seq k72_13 k72_4
def k72_6 : Code := .seq k72_9 k72_7
def k72_2 : Code := .seq k72_12 k72_3
def k72_8 := cp kc72 [0]
def k72_1 : Code := .seq k72_6 k72_2
def k72_0 : Code := .seq k72_8 k72_1
def p72_2 (cf : CallF) (lf : Nat) (s0 : Value) (h : Heap) : Ans :=
 bindO (nilA s0) fun t21 =>
 bindO (fieldAddrA E 57 t21 0) fun t22 =>
 bindO (loadA E 9 t22 h) fun t23 =>
 bindO (nilA s0) fun t25 =>
 bindO (fieldAddrA E 57 t25 1) fun t26 =>
 bindO (loadA E 3 t26 h) fun t27 =>
 bindO (binA E 3 .add t27 (.int .i64 (1))) fun t28 =>
 bindO (indexA E 9 t23 t28) fun t29 =>
 bindO (nilA s0) fun t31 =>
 bindO (fieldAddrA E 57 t31 1) fun t32 =>
 bindO (loadA E 3 t32 h) fun t33 =>
 bindO (binA E 3 .add t33 (.int .i64 (2))) fun t34 =>
 bindO (nilA s0) fun t35 =>
 bindO (fieldAddrA E 57 t35 1) fun t36 =>
 bindR (skipR (storeA E 3 t36 t34 h)) (fun v h => some (.panic v, h)) fun _ h =>
 some (.ret t29, h)
theorem p72_2_ok (cf : CallF) (lf : Nat) (T : Tmps) (h : Heap) : execK E cf lf 38 k72_2 T h (finK E [.tmp 2]) = p72_2 cf lf (T 0) h := by kernel_rfl
def p72_0 (cf : CallF) (lf : Nat) (s0 : Value) (h : Heap) : Ans :=
 bindO (nilA s0) fun t5 =>
 bindO (fieldAddrA E 57 t5 1) fun t6 =>
 bindO (loadA E 3 t6 h) fun t7 =>
 bindO (binA E 3 .add t7 (.int .i64 (1))) fun t8 =>
 bindO (nilA s0) fun t10 =>
 bindO (fieldAddrA E 57 t10 0) fun t11 =>
 bindO (loadA E 9 t11 h) fun t12 =>
 bindO (lenA E 9 t12) fun t13 =>
 bindO (binB E 3 .geq t8 t13) fun t14 =>
 condV t14 (
  bindO (nilA s0) fun t16 =>
  bindO (fieldAddrA E 57 t16 1) fun t17 =>
  bindO (loadA E 3 t17 h) fun t18 =>
  bindR (cf 25 [(.int .i64 (19)), t18] h) (fun v h => some (.panic v, h)) fun t19 h =>
  p72_2 cf lf s0 h
 ) (
  p72_2 cf lf s0 h
 )
theorem p72_0_ok (cf : CallF) (lf : Nat) (T : Tmps) (h : Heap) : execK E cf lf 38 k72_0 T h (finK E [.tmp 2]) = p72_0 cf lf (T 0) h := by simp only [k72_0, k72_1, k72_6, k72_7, execK_all, p72_2_ok]; delta p72_0; generalize p72_2 = G0; as_aux_lemma => kernel_rfl
def f72 (cf : CallF) (lf : Nat) (a0 : Value) (h : Heap) : Ans := p72_0 cf lf a0 h
theorem f72_ok (cf : CallF) (lf : Nat) (a0 : Value) (h : Heap) : stepN E cf lf 72 [a0] h = f72 cf lf a0 h := (show stepN E cf lf 72 [a0] h = execK E cf lf 38 k72_0 (T0 [a0]) h (finK E [.tmp 2]) by kernel_rfl).trans ((p72_0_ok cf lf (T0 [a0]) h).trans (by kernel_rfl))
def f73 (cf : CallF) (lf : Nat) (a0 : Value) (a1 : Value) (h : Heap) : Ans :=
 bindR (cf 87 [a0, a1] h) (fun v h => some (.panic v, h)) fun t7 h =>
 some (.ret t7, h)
theorem f73_ok (cf : CallF) (lf : Nat) (a0 a1 : Value) (h : Heap) : stepN E cf lf 73 [a0, a1] h = f73 cf lf a0 a1 h := by kernel_rfl
noncomputable def kc74 := codeOf Tryd.f74
def k74_32 := cp kc74 [1, 1, 0, 0, 1, 1, 1, 0, 1, 1, 0]
def k74_20 := cp kc74 [1, 1, 0, 0, 1, 1, 1, 0, 1, 1, 1]
def k74_35 := cp kc74 [1, 1, 0, 0, 1, 1, 1, 1, 1, 0, 0]
def k74_24 := cp kc74 [1, 1, 0, 0, 1, 1, 1, 1, 1, 0, 1]
def k74_31 := cp kc74 [1, 1, 0, 0, 1, 1, 1, 0, 1, 0]
def k74_19 : Code := .seq k74_32 k74_20
def k74_23 : Code := .seq k74_35 k74_24
def k74_34 := cp kc74 [1, 1, 0, 0, 1, 1, 1, 1, 1, 1]
def k74_30 := cp kc74 [1, 1, 0, 0, 1, 1, 1, 0, 0]
def k74_18 : Code := .seq k74_31 k74_19
def k74_33 := cp kc74 [1, 1, 0, 0, 1, 1, 1, 1, 0]
def k74_22 : Code := .cond (.tmp 44) k74_23 k74_34
def k74_40 := cp kc74 [1, 1, 1, 1, 0, 1, 1, 0, 0]
def k74_10 := cp kc74 [1, 1, 1, 1, 0, 1, 1, 0, 1]
def k74_17 : Code := .seq k74_30 k74_18
def k74_21 : Code := .seq k74_33 k74_22
def k74_9 : Code := .seq k74_40 k74_10
def k74_39 := cp kc74 [1, 1, 1, 1, 0, 1, 1, 1]
def k74_29 := cp kc74 [1, 1, 0, 0, 1, 1, 0]
def k74_16 : Code := .cond (.tmp 20) k74_17 k74_21
def k74_38 := cp kc74 [1, 1, 1, 1, 0, 1, 0]
def k74_8 : Code := .cond (.tmp 62) k74_9 k74_39
def k74_28 := cp kc74 [1, 1, 0, 0, 1, 0]
def k74_15 : Code := .seq k74_29 k74_16
def k74_37 := cp kc74 [1, 1, 1, 1, 0, 0]
def k74_7 : Code := .seq k74_38 k74_8
def k74_41 := cp kc74 [1, 1, 1, 1, 1, 0]
def k74_11 := cp kc74 [1, 1, 1, 1, 1, 1]
def k74_27 := cp kc74 [1, 1, 0, 0, 0]
def k74_14 : Code := .cond (.tmp 15) k74_28 k74_15
def k74_6 : Code := .seq k74_37 k74_7
def k74_5 : Code := .seq k74_41 k74_11
def k74_13 : Code := .seq k74_27 k74_14
def k74_36 := cp kc74 [1, 1, 1, 0]
def k74_4 : Code := .seq k74_6 k74_5
def k74_12 : Code := .block 0 k74_13
def k74_3 : Code := .seq k74_36 k74_4
def k74_26 := cp kc74 [1, 0]
def k74_2 : Code := .seq k74_12 k74_3
def k74_25 := cp kc74 [0]
def k74_1 : Code := .seq k74_26 k74_2
def k74_0 : Code := .seq k74_25 k74_1
def p74_3 (cf : CallF) (lf : Nat) (s0 : Value) (s1 : Value) (s6 : Value) (h : Heap) : Ans :=
 bindO (nilA s0) fun t53 =>
 bindO (fieldAddrA E 57 t53 1) fun t54 =>
 bindO (loadA E 3 t54 h) fun t55 =>
 bindO (binA E 3 .add t55 (.int .i64 (1))) fun t56 =>
 bindO (nilA s0) fun t57 =>
 bindO (fieldAddrA E 57 t57 1) fun t58 =>
 bindR (skipR (storeA E 3 t58 t56 h)) (fun v h => some (.panic v, h)) fun _ h =>
 bindR (cf 90 [s0, (.string (mkS [63, 35, 64, 42]))] h) (fun v h => some (.panic v, h)) fun t60 h =>
 bindO (binA E 9 .neq t60 (.string (mkS []))) fun t62 =>
 condV t62 (
  bindR (cf 68 [s1] h) (fun v h => some (.panic v, h)) fun t65 h =>
  bindO (buildA E 49 [(0, (.int .i64 (2))), (1, t60), (3, t65)]) fun t66 =>
  bindR (skipR (storeA E 49 s6 t66 h)) (fun v h => some (.panic v, h)) fun _ h =>
  bindO (loadA E 49 s6 h) fun tr6 =>
  some (.ret (.tuple ⟨[tr6, (.bool true)]⟩), h)
 ) (
  bindO (buildA E 49 []) fun t67 =>
  bindR (skipR (storeA E 49 s6 t67 h)) (fun v h => some (.panic v, h)) fun _ h =>
  bindO (loadA E 49 s6 h) fun tr6 =>
  some (.ret (.tuple ⟨[tr6, (.bool false)]⟩), h)
 )
theorem p74_3_ok (cf : CallF) (lf : Nat) (T : Tmps) (h : Heap) : execK E cf lf 68 k74_3 T h (finK E [.cell 6 49, .tmp 7]) = p74_3 cf lf (T 0) (T 1) (T 6) h := by kernel_rfl
def p74_14 (cf : CallF) (lf : Nat) (s0 : Value) (s1 : Value) (s2 : Value) (s6 : Value) (s8 : Value) (s15 : Value) (h : Heap) : Ans :=
 condV s15 (
  bindR (cf 25 [(.int .i64 (19)), s8] h) (fun v h => some (.panic v, h)) fun t19 h =>
  p74_3 cf lf s0 s1 s6 h
 ) (
  bindR (cf 23 [s0, (.string (mkS [36, 40]))] h) (fun v h => some (.panic v, h)) fun t22 h =>
  condV t22 (
   bindO (nilA s0) fun t24 =>
   bindO (fieldAddrA E 57 t24 1) fun t25 =>
   bindO (loadA E 3 t25 h) fun t26 =>
   bindR (cf 88 [s0, s8] h) (fun v h => some (.panic v, h)) fun t29 h =>
   bindO (nilA s0) fun t31 =>
   bindO (fieldAddrA E 57 t31 0) fun t32 =>
   bindO (loadA E 9 t32 h) fun t33 =>
   bindO (nilA s0) fun t36 =>
   bindO (fieldAddrA E 57 t36 1) fun t37 =>
   bindO (loadA E 3 t37 h) fun t38 =>
   bindO (binA E 3 .sub t38 (.int .i64 (1))) fun t39 =>
   bindO (sliceA E 9 t33 (some t26) (some t39) h) fun t40 =>
   bindR (cf 68 [s1] h) (fun v h => none) fun t42 h =>
   bif (eqOV (loadA E 9 t32 h) t33) && ((eqOV (loadA E 3 t37 h) t38) && ((eqOV (sliceA E 9 t33 (some t26) (some t39) h) t40) && (true))) then
   bindO (buildA E 49 [(0, (.int .i64 (3))), (1, t40), (3, t42)]) fun t43 =>
   bindR (skipR (storeA E 49 s6 t43 h)) (fun v h => some (.panic v, h)) fun _ h =>
   bindO (loadA E 49 s6 h) fun tr6 =>
   some (.ret (.tuple ⟨[tr6, (.bool true)]⟩), h)
   else none
  ) (
   bindR (cf 23 [s0, (.string (mkS [36, 123]))] h) (fun v h => some (.panic v, h)) fun t46 h =>
   condV t46 (
    bindR (cf 89 [s0, s8, s1, s2] h) (fun v h => some (.panic v, h)) fun t51 h =>
    bindR (skipR (storeA E 49 s6 t51 h)) (fun v h => some (.panic v, h)) fun _ h =>
    bindO (loadA E 49 s6 h) fun tr6 =>
    some (.ret (.tuple ⟨[tr6, (.bool true)]⟩), h)
   ) (
    p74_3 cf lf s0 s1 s6 h
   )
  )
 )
theorem p74_14_ok (cf : CallF) (lf : Nat) (T : Tmps) (h : Heap) : execK E cf lf 68 k74_14 T h (blockK 0 (seqK (fun T h => p74_3 cf lf (T 0) (T 1) (T 6) h) (finK E [.cell 6 49, .tmp 7]))) = p74_14 cf lf (T 0) (T 1) (T 2) (T 6) (T 8) (T 15) h := by kernel_rfl
def p74_0 (cf : CallF) (lf : Nat) (s0 : Value) (s1 : Value) (s2 : Value) (h : Heap) : Ans :=
 bindR (valR (allocA E 49 h)) (fun v h => some (.panic v, h)) fun t6 h =>
 bindO (nilA s0) fun t12 =>
 bindO (fieldAddrA E 57 t12 1) fun t13 =>
 bindO (loadA E 3 t13 h) fun t14 =>
 bindR (cf 44 [s0, (.string (mkS [36, 40, 40]))] h) (fun v h => some (.panic v, h)) fun t17 h =>
 p74_14 cf lf s0 s1 s2 t6 t14 t17 h
theorem p74_0_ok (cf : CallF) (lf : Nat) (T : Tmps) (h : Heap) : execK E cf lf 68 k74_0 T h (finK E [.cell 6 49, .tmp 7]) = p74_0 cf lf (T 0) (T 1) (T 2) h := by simp only [k74_0, k74_1, k74_12, k74_13, k74_2, execK_all, p74_14_ok, p74_3_ok]; delta p74_0; generalize p74_14 = G0; generalize p74_3 = G1; as_aux_lemma => kernel_rfl
def f74 (cf : CallF) (lf : Nat) (a0 : Value) (a1 : Value) (a2 : Value) (h : Heap) : Ans := p74_0 cf lf a0 a1 a2 h
theorem f74_ok (cf : CallF) (lf : Nat) (a0 a1 a2 : Value) (h : Heap) : stepN E cf lf 74 [a0, a1, a2] h = f74 cf lf a0 a1 a2 h := (show stepN E cf lf 74 [a0, a1, a2] h = execK E cf lf 68 k74_0 (T0 [a0, a1, a2]) h (finK E [.cell 6 49, .tmp 7]) by kernel_rfl).trans ((p74_0_ok cf lf (T0 [a0, a1, a2]) h).trans (by kernel_rfl))
noncomputable def kc75 := codeOf Tryd.f75
def k75_24 := cp kc75 [1, 0, 1, 0, 0, 1, 0, 0, 1, 0, 0]
def k75_16 := cp kc75 [1, 0, 1, 0, 0, 1, 0, 0, 1, 0, 1]
def k75_15 : Code := .seq k75_24 k75_16
def k75_23 := cp kc75 [1, 0, 1, 0, 0, 1, 0, 0, 1, 1]
def k75_22 := cp kc75 [1, 0, 1, 0, 0, 1, 0, 0, 0]
def k75_14 : Code := .cond (.tmp 16) k75_15 k75_23
def k75_20 := cp kc75 [1, 0, 1, 0, 0, 0, 1, 0]
def k75_21 := cp kc75 [1, 0, 1, 0, 0, 0, 1, 1]
def k75_13 : Code := .seq k75_22 k75_14
def k75_19 := cp kc75 [1, 0, 1, 0, 0, 0, 0]
def k75_10 : Code := .cond (.tmp 9) k75_20 k75_21
def k75_12 : Code := .block 1 k75_13
def k75_11 := cp kc75 [1, 0, 1, 0, 0, 1, 1]
def k75_9 : Code := .seq k75_19 k75_10
def k75_8 : Code := .seq k75_12 k75_11
def k75_7 : Code := .seq k75_9 k75_8
def k75_6 : Code := .loop k75_7
def k75_18 := cp kc75 [1, 0, 0]
def k75_5 : Code := .block 0 k75_6
def k75_25 := cp kc75 [1, 1, 0]
def k75_3 := cp kc75 [1, 1, 1]
def k75_4 : Code := .seq k75_18 k75_5
def k75_2 : Code := .seq k75_25 k75_3
def k75_17 := cp kc75 [0]
def k75_1 : Code := .seq k75_4 k75_2
def k75_0 : Code := .seq k75_17 k75_1
def p75_2 (cf : CallF) (lf : Nat) (h : Heap) : Ans :=
 some (.ret (.bool false), h)
theorem p75_2_ok (cf : CallF) (lf : Nat) (T : Tmps) (h : Heap) : execK E cf lf 17 k75_2 T h (finK E [.tmp 4]) = p75_2 cf lf h := by kernel_rfl
def p75_7 (cf : CallF) (lf : Nat) (F6 : Value → Value → Value → Heap → Ans) (s0 : Value) (s1 : Value) (s5 : Value) (h : Heap) : Ans :=
 bindO (lenA E 9 s0) fun t8 =>
 bindO (binB E 3 .lss s5 t8) fun t9 =>
 condV t9 (
  bindO (indexA E 9 s0 s5) fun t14 =>
  bindO (binB E 5 .eql t14 s1) fun t16 =>
  condV t16 (
   some (.ret (.bool true), h)
  ) (
   bindO (binA E 3 .add s5 (.int .i64 (1))) fun t11 =>
   F6 s0 s1 t11 h
  )
 ) (
  p75_2 cf lf h
 )
theorem p75_7_ok (cf : CallF) (lf : Nat) (F6 : Value → Value → Value → Heap → Ans) (T : Tmps) (h : Heap) : execK E cf lf 17 k75_7 T h (seqK (fun T h => F6 (T 0) (T 1) (T 5) h) (blockK 0 (seqK (fun T h => p75_2 cf lf h) (finK E [.tmp 4])))) = p75_7 cf lf F6 (T 0) (T 1) (T 5) h := by kernel_rfl
def l75_6 (cf : CallF) (lf : Nat) : Nat → Value → Value → Value → Heap → Ans
 | 0, _, _, _, _ => none
 | n + 1, s0, s1, s5, h => p75_7 cf lf (l75_6 cf lf n) s0 s1 s5 h
theorem l75_6_ok (cf : CallF) (lf : Nat) (n : Nat) : ∀ (T : Tmps) (h : Heap), iterK (fun T h K => execK E cf lf 17 k75_7 T h K) (blockK 0 (seqK (fun T h => p75_2 cf lf h) (finK E [.tmp 4]))) n T h = l75_6 cf lf n (T 0) (T 1) (T 5) h := by
 induction n with
 | zero => intro T h; rfl
 | succ n ih =>
  intro T h
  rw [iterK_succ, show iterK (fun T h K => execK E cf lf 17 k75_7 T h K) (blockK 0 (seqK (fun T h => p75_2 cf lf h) (finK E [.tmp 4]))) n = (fun T h => l75_6 cf lf n (T 0) (T 1) (T 5) h) from funext fun T => funext fun h => ih T h]
  exact p75_7_ok cf lf (l75_6 cf lf n) T h
def p75_0 (cf : CallF) (lf : Nat) (s0 : Value) (s1 : Value) (h : Heap) : Ans :=
 l75_6 cf lf lf s0 s1 (.int .i64 (0)) h
theorem p75_0_ok (cf : CallF) (lf : Nat) (T : Tmps) (h : Heap) : execK E cf lf 17 k75_0 T h (finK E [.tmp 4]) = p75_0 cf lf (T 0) (T 1) h := by simp only [k75_0, k75_1, k75_4, k75_5, k75_6, execK_all, l75_6_ok, p75_2_ok]; delta p75_0; generalize l75_6 = G0; generalize p75_2 = G1; as_aux_lemma => kernel_rfl
def f75 (cf : CallF) (lf : Nat) (a0 : Value) (a1 : Value) (h : Heap) : Ans := p75_0 cf lf a0 a1 h
theorem f75_ok (cf : CallF) (lf : Nat) (a0 a1 : Value) (h : Heap) : stepN E cf lf 75 [a0, a1] h = f75 cf lf a0 a1 h := (show stepN E cf lf 75 [a0, a1] h = execK E cf lf 17 k75_0 (T0 [a0, a1]) h (finK E [.tmp 4]) by kernel_rfl).trans ((p75_0_ok cf lf (T0 [a0, a1]) h).trans (by kernel_rfl))
noncomputable def kc76 := codeOf Tryd.f76
def k76_68 := cp kc76 [1, 1, 0, 0, 0, 1, 0, 0, 1, 0, 1, 1, 1, 1, 1, 1, 1, 1, 1, 0, 1, 1, 0, 0]
def k76_41 := cp kc76 [1, 1, 0, 0, 0, 1, 0, 0, 1, 0, 1, 1, 1, 1, 1, 1, 1, 1, 1, 0, 1, 1, 0, 1]
def k76_40 : Code := .seq k76_68 k76_41
def k76_67 := cp kc76 [1, 1, 0, 0, 0, 1, 0, 0, 1, 0, 1, 1, 1, 1, 1, 1, 1, 1, 1, 0, 1, 1, 1]
def k76_66 := cp kc76 [1, 1, 0, 0, 0, 1, 0, 0, 1, 0, 1, 1, 1, 1, 1, 1, 1, 1, 1, 0, 1, 0]
def k76_39 : Code := .cond (.tmp 50) k76_40 k76_67
def k76_65 := cp kc76 [1, 1, 0, 0, 0, 1, 0, 0, 1, 0, 1, 1, 1, 1, 1, 1, 1, 1, 1, 0, 0]
def k76_38 : Code := .seq k76_66 k76_39
def k76_53 := cp kc76 [1, 1, 0, 0, 0, 1, 0, 0, 1, 0, 1, 1, 1, 0, 1, 0, 0, 0, 1, 0]
def k76_54 := cp kc76 [1, 1, 0, 0, 0, 1, 0, 0, 1, 0, 1, 1, 1, 0, 1, 0, 0, 0, 1, 1]
def k76_60 := cp kc76 [1, 1, 0, 0, 0, 1, 0, 0, 1, 0, 1, 1, 1, 1, 1, 0, 1, 1, 0, 0]
def k76_32 := cp kc76 [1, 1, 0, 0, 0, 1, 0, 0, 1, 0, 1, 1, 1, 1, 1, 0, 1, 1, 0, 1]
def k76_37 : Code := .seq k76_65 k76_38
def k76_64 := cp kc76 [1, 1, 0, 0, 0, 1, 0, 0, 1, 0, 1, 1, 1, 1, 1, 1, 1, 1, 1, 1]
def k76_52 := cp kc76 [1, 1, 0, 0, 0, 1, 0, 0, 1, 0, 1, 1, 1, 0, 1, 0, 0, 0, 0]
def k76_25 : Code := .cond (.tmp 30) k76_53 k76_54
def k76_55 := cp kc76 [1, 1, 0, 0, 0, 1, 0, 0, 1, 0, 1, 1, 1, 0, 1, 0, 0, 1, 0]
def k76_31 : Code := .seq k76_60 k76_32
def k76_59 := cp kc76 [1, 1, 0, 0, 0, 1, 0, 0, 1, 0, 1, 1, 1, 1, 1, 0, 1, 1, 1]
def k76_63 := cp kc76 [1, 1, 0, 0, 0, 1, 0, 0, 1, 0, 1, 1, 1, 1, 1, 1, 1, 1, 0]
def k76_36 : Code := .cond (.tmp 45) k76_37 k76_64
def k76_24 : Code := .seq k76_52 k76_25
def k76_23 : Code := .block 4 k76_55
def k76_58 := cp kc76 [1, 1, 0, 0, 0, 1, 0, 0, 1, 0, 1, 1, 1, 1, 1, 0, 1, 0]
def k76_30 : Code := .cond (.tmp 40) k76_31 k76_59
def k76_62 := cp kc76 [1, 1, 0, 0, 0, 1, 0, 0, 1, 0, 1, 1, 1, 1, 1, 1, 1, 0]
def k76_35 : Code := .seq k76_63 k76_36
def k76_22 : Code := .seq k76_24 k76_23
def k76_57 := cp kc76 [1, 1, 0, 0, 0, 1, 0, 0, 1, 0, 1, 1, 1, 1, 1, 0, 0]
def k76_29 : Code := .seq k76_58 k76_30
def k76_61 := cp kc76 [1, 1, 0, 0, 0, 1, 0, 0, 1, 0, 1, 1, 1, 1, 1, 1, 0]
def k76_34 : Code := .cond (.tmp 41) k76_62 k76_35
def k76_21 : Code := .loop k76_22
def k76_28 : Code := .seq k76_57 k76_29
def k76_33 : Code := .seq k76_61 k76_34
def k76_51 := cp kc76 [1, 1, 0, 0, 0, 1, 0, 0, 1, 0, 1, 1, 1, 0, 0]
def k76_20 : Code := .block 3 k76_21
def k76_56 := cp kc76 [1, 1, 0, 0, 0, 1, 0, 0, 1, 0, 1, 1, 1, 1, 0]
def k76_27 : Code := .cond (.tmp 33) k76_28 k76_33
def k76_19 : Code := .seq k76_51 k76_20
def k76_26 : Code := .seq k76_56 k76_27
def k76_50 := cp kc76 [1, 1, 0, 0, 0, 1, 0, 0, 1, 0, 1, 1, 0]
def k76_18 : Code := .cond (.tmp 17) k76_19 k76_26
def k76_49 := cp kc76 [1, 1, 0, 0, 0, 1, 0, 0, 1, 0, 1, 0]
def k76_17 : Code := .seq k76_50 k76_18
def k76_48 := cp kc76 [1, 1, 0, 0, 0, 1, 0, 0, 1, 0, 0]
def k76_16 : Code := .cond (.tmp 13) k76_49 k76_17
def k76_15 : Code := .seq k76_48 k76_16
def k76_47 := cp kc76 [1, 1, 0, 0, 0, 1, 0, 0, 0]
def k76_14 : Code := .block 2 k76_15
def k76_45 := cp kc76 [1, 1, 0, 0, 0, 0, 1, 0]
def k76_46 := cp kc76 [1, 1, 0, 0, 0, 0, 1, 1]
def k76_13 : Code := .seq k76_47 k76_14
def k76_12 := cp kc76 [1, 1, 0, 0, 0, 1, 0, 1]
def k76_44 := cp kc76 [1, 1, 0, 0, 0, 0, 0]
def k76_10 : Code := .cond (.tmp 9) k76_45 k76_46
def k76_11 : Code := .seq k76_13 k76_12
def k76_9 : Code := .seq k76_44 k76_10
def k76_8 : Code := .block 1 k76_11
def k76_7 : Code := .seq k76_9 k76_8
def k76_6 : Code := .loop k76_7
def k76_69 := cp kc76 [1, 1, 1, 0]
def k76_4 := cp kc76 [1, 1, 1, 1]
def k76_5 : Code := .block 0 k76_6
def k76_3 : Code := .seq k76_69 k76_4
def k76_43 := cp kc76 [1, 0]
def k76_2 : Code := .seq k76_5 k76_3
def k76_42 := cp kc76 [0]
def k76_1 : Code := .seq k76_43 k76_2
def k76_0 : Code := .seq k76_42 k76_1
def p76_3 (cf : CallF) (lf : Nat) (h : Heap) : Ans :=
 some (.ret (.int .i64 (-1)), h)
theorem p76_3_ok (cf : CallF) (lf : Nat) (T : Tmps) (h : Heap) : execK E cf lf 54 k76_3 T h (finK E [.tmp 4]) = p76_3 cf lf h := by kernel_rfl
def p76_12 (cf : CallF) (lf : Nat) (F6 : Value → Value → Value → Heap → Ans) (s0 : Value) (s1 : Value) (s5 : Value) (h : Heap) : Ans :=
 bindO (binA E 3 .add s1 (.int .i64 (1))) fun t53 =>
 F6 s0 t53 s5 h
theorem p76_12_ok (cf : CallF) (lf : Nat) (F6 : Value → Value → Value → Heap → Ans) (T : Tmps) (h : Heap) : execK E cf lf 54 k76_12 T h (blockK 1 (seqK (fun T h => F6 (T 0) (T 1) (T 5) h) (blockK 0 (seqK (fun T h => p76_3 cf lf h) (finK E [.tmp 4]))))) = p76_12 cf lf F6 (T 0) (T 1) (T 5) h := by kernel_rfl
def p76_22 (cf : CallF) (lf : Nat) (F6 : Value → Value → Value → Heap → Ans) (F21 : Value → Value → Value → Heap → Ans) (s0 : Value) (s1 : Value) (s5 : Value) (h : Heap) : Ans :=
 bindO (lenA E 9 s0) fun t23 =>
 bindO (binB E 3 .lss s1 t23) fun t24 =>
 bindO (gO (boolIs true t24) (some s0)) fun t26 =>
 bindO (gO (boolIs true t24) (some s1)) fun t27 =>
 bindO (gO (boolIs true t24) (indexA E 9 t26 t27)) fun t28 =>
 bindO (gO (boolIs true t24) (binA E 5 .neq t28 (.int .u8 (39)))) fun t29 =>
 bindO (pickA t24 t29 (.bool false)) fun t30 =>
 condV t30 (
  bindO (binA E 3 .add s1 (.int .i64 (1))) fun t32 =>
  F21 s0 t32 s5 h
 ) (
  p76_12 cf lf F6 s0 s1 s5 h
 )
theorem p76_22_ok (cf : CallF) (lf : Nat) (F6 : Value → Value → Value → Heap → Ans) (F21 : Value → Value → Value → Heap → Ans) (T : Tmps) (h : Heap) : execK E cf lf 54 k76_22 T h (seqK (fun T h => F21 (T 0) (T 1) (T 5) h) (blockK 3 (blockK 2 (seqK (fun T h => p76_12 cf lf F6 (T 0) (T 1) (T 5) h) (blockK 1 (seqK (fun T h => F6 (T 0) (T 1) (T 5) h) (blockK 0 (seqK (fun T h => p76_3 cf lf h) (finK E [.tmp 4]))))))))) = p76_22 cf lf F6 F21 (T 0) (T 1) (T 5) h := by kernel_rfl
def l76_21 (cf : CallF) (lf : Nat) (F6 : Value → Value → Value → Heap → Ans) : Nat → Value → Value → Value → Heap → Ans
 | 0, _, _, _, _ => none
 | n + 1, s0, s1, s5, h => p76_22 cf lf F6 (l76_21 cf lf F6 n) s0 s1 s5 h
theorem l76_21_ok (cf : CallF) (lf : Nat) (F6 : Value → Value → Value → Heap → Ans) (n : Nat) : ∀ (T : Tmps) (h : Heap), iterK (fun T h K => execK E cf lf 54 k76_22 T h K) (blockK 3 (blockK 2 (seqK (fun T h => p76_12 cf lf F6 (T 0) (T 1) (T 5) h) (blockK 1 (seqK (fun T h => F6 (T 0) (T 1) (T 5) h) (blockK 0 (seqK (fun T h => p76_3 cf lf h) (finK E [.tmp 4])))))))) n T h = l76_21 cf lf F6 n (T 0) (T 1) (T 5) h := by
 induction n with
 | zero => intro T h; rfl
 | succ n ih =>
  intro T h
  rw [iterK_succ, show iterK (fun T h K => execK E cf lf 54 k76_22 T h K) (blockK 3 (blockK 2 (seqK (fun T h => p76_12 cf lf F6 (T 0) (T 1) (T 5) h) (blockK 1 (seqK (fun T h => F6 (T 0) (T 1) (T 5) h) (blockK 0 (seqK (fun T h => p76_3 cf lf h) (finK E [.tmp 4])))))))) n = (fun T h => l76_21 cf lf F6 n (T 0) (T 1) (T 5) h) from funext fun T => funext fun h => ih T h]
  exact p76_22_ok cf lf F6 (l76_21 cf lf F6 n) T h
def p76_14 (cf : CallF) (lf : Nat) (F6 : Value → Value → Value → Heap → Ans) (s0 : Value) (s1 : Value) (s5 : Value) (s12 : Value) (h : Heap) : Ans :=
 bindO (binA E 5 .eql s12 (.int .u8 (92))) fun t14 =>
 condV t14 (
  bindO (binA E 3 .add s1 (.int .i64 (1))) fun t16 =>
  p76_12 cf lf F6 s0 t16 s5 h
 ) (
  bindO (binA E 5 .eql s12 (.int .u8 (39))) fun t18 =>
  condV t18 (
   bindO (binA E 3 .add s1 (.int .i64 (1))) fun t20 =>
   l76_21 cf lf F6 lf s0 t20 s5 h
  ) (
   bindO (binA E 5 .eql s12 (.int .u8 (34))) fun t34 =>
   condV t34 (
    bindO (binA E 3 .add s1 (.int .i64 (1))) fun t37 =>
    bindR (cf 91 [s0, t37] h) (fun v h => some (.panic v, h)) fun t38 h =>
    bindO (binA E 3 .lss t38 (.int .i64 (0))) fun t40 =>
    condV t40 (
     some (.ret (.int .i64 (-1)), h)
    ) (
     p76_12 cf lf F6 s0 t38 s5 h
    )
   ) (
    bindO (binA E 5 .eql s12 (.int .u8 (40))) fun t42 =>
    condV t42 (
     bindO (binA E 3 .add s5 (.int .i64 (1))) fun t44 =>
     p76_12 cf lf F6 s0 s1 t44 h
    ) (
     bindO (binA E 5 .eql s12 (.int .u8 (41))) fun t46 =>
     condV t46 (
      bindO (binA E 3 .sub s5 (.int .i64 (1))) fun t48 =>
      bindO (binA E 3 .eql t48 (.int .i64 (0))) fun t50 =>
      condV t50 (
       some (.ret s1, h)
      ) (
       p76_12 cf lf F6 s0 s1 t48 h
      )
     ) (
      p76_12 cf lf F6 s0 s1 s5 h
     )
    )
   )
  )
 )
theorem p76_14_ok (cf : CallF) (lf : Nat) (F6 : Value → Value → Value → Heap → Ans) (T : Tmps) (h : Heap) : execK E cf lf 54 k76_14 T h (seqK (fun T h => p76_12 cf lf F6 (T 0) (T 1) (T 5) h) (blockK 1 (seqK (fun T h => F6 (T 0) (T 1) (T 5) h) (blockK 0 (seqK (fun T h => p76_3 cf lf h) (finK E [.tmp 4])))))) = p76_14 cf lf F6 (T 0) (T 1) (T 5) (T 12) h := by simp only [k76_14, k76_15, k76_16, k76_17, k76_18, k76_19, k76_20, k76_21, k76_26, k76_27, k76_28, k76_29, k76_30, k76_31, k76_33, k76_34, k76_35, k76_36, k76_37, k76_38, k76_39, k76_40, execK_all, l76_21_ok]; delta p76_14; generalize l76_21 = G0; as_aux_lemma => kernel_rfl
def p76_7 (cf : CallF) (lf : Nat) (F6 : Value → Value → Value → Heap → Ans) (s0 : Value) (s1 : Value) (s5 : Value) (h : Heap) : Ans :=
 bindO (lenA E 9 s0) fun t8 =>
 bindO (binB E 3 .lss s1 t8) fun t9 =>
 condV t9 (
  bindO (indexA E 9 s0 s1) fun t12 =>
  p76_14 cf lf F6 s0 s1 s5 t12 h
 ) (
  p76_3 cf lf h
 )
theorem p76_7_ok (cf : CallF) (lf : Nat) (F6 : Value → Value → Value → Heap → Ans) (T : Tmps) (h : Heap) : execK E cf lf 54 k76_7 T h (seqK (fun T h => F6 (T 0) (T 1) (T 5) h) (blockK 0 (seqK (fun T h => p76_3 cf lf h) (finK E [.tmp 4])))) = p76_7 cf lf F6 (T 0) (T 1) (T 5) h := by simp only [k76_10, k76_11, k76_13, k76_7, k76_8, k76_9, execK_all, p76_12_ok, p76_14_ok]; delta p76_7; generalize p76_12 = G0; generalize p76_14 = G1; as_aux_lemma => kernel_rfl
def l76_6 (cf : CallF) (lf : Nat) : Nat → Value → Value → Value → Heap → Ans
 | 0, _, _, _, _ => none
 | n + 1, s0, s1, s5, h => p76_7 cf lf (l76_6 cf lf n) s0 s1 s5 h
theorem l76_6_ok (cf : CallF) (lf : Nat) (n : Nat) : ∀ (T : Tmps) (h : Heap), iterK (fun T h K => execK E cf lf 54 k76_7 T h K) (blockK 0 (seqK (fun T h => p76_3 cf lf h) (finK E [.tmp 4]))) n T h = l76_6 cf lf n (T 0) (T 1) (T 5) h := by
 induction n with
 | zero => intro T h; rfl
 | succ n ih =>
  intro T h
  rw [iterK_succ, show iterK (fun T h K => execK E cf lf 54 k76_7 T h K) (blockK 0 (seqK (fun T h => p76_3 cf lf h) (finK E [.tmp 4]))) n = (fun T h => l76_6 cf lf n (T 0) (T 1) (T 5) h) from funext fun T => funext fun h => ih T h]
  exact p76_7_ok cf lf (l76_6 cf lf n) T h
def p76_0 (cf : CallF) (lf : Nat) (s0 : Value) (s1 : Value) (h : Heap) : Ans :=
 l76_6 cf lf lf s0 s1 (.int .i64 (1)) h
theorem p76_0_ok (cf : CallF) (lf : Nat) (T : Tmps) (h : Heap) : execK E cf lf 54 k76_0 T h (finK E [.tmp 4]) = p76_0 cf lf (T 0) (T 1) h := by simp only [k76_0, k76_1, k76_2, k76_5, k76_6, execK_all, l76_6_ok, p76_3_ok]; delta p76_0; generalize l76_6 = G0; generalize p76_3 = G1; as_aux_lemma => kernel_rfl
def f76 (cf : CallF) (lf : Nat) (a0 : Value) (a1 : Value) (h : Heap) : Ans := p76_0 cf lf a0 a1 h
theorem f76_ok (cf : CallF) (lf : Nat) (a0 a1 : Value) (h : Heap) : stepN E cf lf 76 [a0, a1] h = f76 cf lf a0 a1 h := (show stepN E cf lf 76 [a0, a1] h = execK E cf lf 54 k76_0 (T0 [a0, a1]) h (finK E [.tmp 4]) by kernel_rfl).trans ((p76_0_ok cf lf (T0 [a0, a1]) h).trans (by kernel_rfl))
noncomputable def kc77 := codeOf Tryd.f77
def k77_10 := cp kc77 [1, 1, 0, 1, 0]
def k77_11 := cp kc77 [1, 1, 0, 1, 1]
def k77_9 := cp kc77 [1, 1, 0, 0]
def k77_6 : Code := .cond (.tmp 31) k77_10 k77_11
def k77_12 := cp kc77 [1, 1, 1, 0]
def k77_4 := cp kc77 [1, 1, 1, 1]
def k77_5 : Code := .seq k77_9 k77_6
def k77_3 : Code := .seq k77_12 k77_4
def k77_8 := cp kc77 [1, 0]
def k77_2 : Code := .seq k77_5 k77_3
def k77_7 := cp kc77 [0]
def k77_1 : Code := .seq k77_8 k77_2
def k77_0 : Code := .seq k77_7 k77_1
def p77_3 (cf : CallF) (lf : Nat) (s7 : Value) (h : Heap) : Ans :=
 some (.ret s7, h)
theorem p77_3_ok (cf : CallF) (lf : Nat) (T : Tmps) (h : Heap) : execK E cf lf 33 k77_3 T h (finK E [.tmp 6]) = p77_3 cf lf (T 7) h := by kernel_rfl
def p77_6 (cf : CallF) (lf : Nat) (s7 : Value) (s31 : Value) (h : Heap) : Ans :=
 condV s31 (
  p77_3 cf lf (.int .i64 (1)) h
 ) (
  p77_3 cf lf s7 h
 )
theorem p77_6_ok (cf : CallF) (lf : Nat) (T : Tmps) (h : Heap) : execK E cf lf 33 k77_6 T h (seqK (fun T h => p77_3 cf lf (T 7) h) (finK E [.tmp 6])) = p77_6 cf lf (T 7) (T 31) h := by kernel_rfl
def p77_0 (cf : CallF) (lf : Nat) (s0 : Value) (s1 : Value) (s2 : Value) (h : Heap) : Ans :=
 bindR (cf 92 [s0, s1] h) (fun v h => some (.panic v, h)) fun t10 h =>
 bindO (binA E 3 .eql t10 (.int .i64 (0))) fun t12 =>
 bindO (gO (boolIs true t12) (some s1)) fun t14 =>
 bindO (gO (boolIs true t12) (some s0)) fun t15 =>
 bindO (gO (boolIs true t12) (lenA E 9 t15)) fun t16 =>
 bindO (gO (boolIs true t12) (binB E 3 .lss t14 t16)) fun t17 =>
 bindO (pickA t12 t17 (.bool false)) fun t18 =>
 bindO (gO (boolIs true t18) (some s0)) fun t20 =>
 bindO (gO (boolIs true t18) (some s1)) fun t21 =>
 bindO (gO (boolIs true t18) (indexA E 9 t20 t21)) fun t22 =>
 bindR (gR (boolIs true t18) (cf 93 [t22] h) h) (fun v h => some (.panic v, h)) fun t23 h =>
 bindO (gO (boolIs true t18) (some t23)) fun t24 =>
 bindO (gO (boolIs false t24) (some s2)) fun t25 =>
 bindO (gO (boolIs false t24) (some s0)) fun t26 =>
 bindO (gO (boolIs false t24) (some s1)) fun t27 =>
 bindO (gO (boolIs false t24) (indexA E 9 t26 t27)) fun t28 =>
 bindR (gR (boolIs false t24) (cf 75 [t25, t28] h) h) (fun v h => some (.panic v, h)) fun t29 h =>
 bindO (gO (boolIs true t18) (pickA t24 (.bool true) t29)) fun t30 =>
 bindO (pickA t18 t30 (.bool false)) fun t31 =>
 p77_6 cf lf t10 t31 h
theorem p77_0_ok (cf : CallF) (lf : Nat) (T : Tmps) (h : Heap) : execK E cf lf 33 k77_0 T h (finK E [.tmp 6]) = p77_0 cf lf (T 0) (T 1) (T 2) h := by simp only [k77_0, k77_1, k77_2, k77_5, execK_all, p77_3_ok, p77_6_ok]; delta p77_0; generalize p77_3 = G0; generalize p77_6 = G1; as_aux_lemma => kernel_rfl
def f77 (cf : CallF) (lf : Nat) (a0 : Value) (a1 : Value) (a2 : Value) (h : Heap) : Ans := p77_0 cf lf a0 a1 a2 h
theorem f77_ok (cf : CallF) (lf : Nat) (a0 a1 a2 : Value) (h : Heap) : stepN E cf lf 77 [a0, a1, a2] h = f77 cf lf a0 a1 a2 h := (show stepN E cf lf 77 [a0, a1, a2] h = execK E cf lf 33 k77_0 (T0 [a0, a1, a2]) h (finK E [.tmp 6]) by kernel_rfl).trans ((p77_0_ok cf lf (T0 [a0, a1, a2]) h).trans (by kernel_rfl))
def f78 (cf : CallF) (lf : Nat) (h : Heap) : Ans :=
 bindR (valR (buildSliceA E 40 12 [(0, (.string (mkS [58, 45]))), (1, (.string (mkS [58, 61]))), (2, (.string (mkS [58, 43]))), (3, (.string (mkS [58, 63]))), (4, (.string (mkS [35, 35]))), (5, (.string (mkS [37, 37]))), (6, (.string (mkS [45]))), (7, (.string (mkS [61]))), (8, (.string (mkS [43]))), (9, (.string (mkS [63]))), (10, (.string (mkS [35]))), (11, (.string (mkS [37])))] h)) (fun v h => some (.panic v, h)) fun t1 h =>
 some (.ret t1, h)
theorem f78_ok (cf : CallF) (lf : Nat) (h : Heap) : stepN E cf lf 78 [] h = f78 cf lf  h := by kernel_rfl
noncomputable def kc85 := codeOf Tryd.f85
def k85_112 := cp kc85 [1, 1, 1, 1, 1, 1, 1, 1, 0, 0, 0, 1, 0, 1, 1, 1, 1, 1, 1, 1, 0, 1, 0, 1, 0, 0]
def k85_43 := cp kc85 [1, 1, 1, 1, 1, 1, 1, 1, 0, 0, 0, 1, 0, 1, 1, 1, 1, 1, 1, 1, 0, 1, 0, 1, 0, 1]
def k85_42 : Code := .seq k85_112 k85_43
def k85_111 := cp kc85 [1, 1, 1, 1, 1, 1, 1, 1, 0, 0, 0, 1, 0, 1, 1, 1, 1, 1, 1, 1, 0, 1, 0, 1, 1]
def k85_105 := cp kc85 [1, 1, 1, 1, 1, 1, 1, 1, 0, 0, 0, 1, 0, 1, 1, 1, 1, 1, 0, 1, 0, 1, 0, 0]
def k85_33 := cp kc85 [1, 1, 1, 1, 1, 1, 1, 1, 0, 0, 0, 1, 0, 1, 1, 1, 1, 1, 0, 1, 0, 1, 0, 1]
def k85_110 := cp kc85 [1, 1, 1, 1, 1, 1, 1, 1, 0, 0, 0, 1, 0, 1, 1, 1, 1, 1, 1, 1, 0, 1, 0, 0]
def k85_41 : Code := .cond (.tmp 139) k85_42 k85_111
def k85_113 := cp kc85 [1, 1, 1, 1, 1, 1, 1, 1, 0, 0, 0, 1, 0, 1, 1, 1, 1, 1, 1, 1, 0, 1, 1, 0]
def k85_44 := cp kc85 [1, 1, 1, 1, 1, 1, 1, 1, 0, 0, 0, 1, 0, 1, 1, 1, 1, 1, 1, 1, 0, 1, 1, 1]
def k85_32 : Code := .seq k85_105 k85_33
def k85_104 := cp kc85 [1, 1, 1, 1, 1, 1, 1, 1, 0, 0, 0, 1, 0, 1, 1, 1, 1, 1, 0, 1, 0, 1, 1]
def k85_40 : Code := .seq k85_110 k85_41
def k85_39 : Code := .seq k85_113 k85_44
def k85_103 := cp kc85 [1, 1, 1, 1, 1, 1, 1, 1, 0, 0, 0, 1, 0, 1, 1, 1, 1, 1, 0, 1, 0, 0]
def k85_31 : Code := .cond (.tmp 114) k85_32 k85_104
def k85_106 := cp kc85 [1, 1, 1, 1, 1, 1, 1, 1, 0, 0, 0, 1, 0, 1, 1, 1, 1, 1, 0, 1, 1, 0]
def k85_34 := cp kc85 [1, 1, 1, 1, 1, 1, 1, 1, 0, 0, 0, 1, 0, 1, 1, 1, 1, 1, 0, 1, 1, 1]
def k85_109 := cp kc85 [1, 1, 1, 1, 1, 1, 1, 1, 0, 0, 0, 1, 0, 1, 1, 1, 1, 1, 1, 1, 0, 0]
def k85_38 : Code := .seq k85_40 k85_39
def k85_95 := cp kc85 [1, 1, 1, 1, 1, 1, 1, 1, 0, 0, 0, 1, 0, 0, 1, 0, 1, 0, 1, 0, 0]
def k85_53 := cp kc85 [1, 1, 1, 1, 1, 1, 1, 1, 0, 0, 0, 1, 0, 0, 1, 0, 1, 0, 1, 0, 1]
def k85_30 : Code := .seq k85_103 k85_31
def k85_29 : Code := .seq k85_106 k85_34
def k85_37 : Code := .seq k85_109 k85_38
def k85_108 := cp kc85 [1, 1, 1, 1, 1, 1, 1, 1, 0, 0, 0, 1, 0, 1, 1, 1, 1, 1, 1, 1, 1]
def k85_52 : Code := .seq k85_95 k85_53
def k85_94 := cp kc85 [1, 1, 1, 1, 1, 1, 1, 1, 0, 0, 0, 1, 0, 0, 1, 0, 1, 0, 1, 1]
def k85_102 := cp kc85 [1, 1, 1, 1, 1, 1, 1, 1, 0, 0, 0, 1, 0, 1, 1, 1, 1, 1, 0, 0]
def k85_28 : Code := .seq k85_30 k85_29
def k85_107 := cp kc85 [1, 1, 1, 1, 1, 1, 1, 1, 0, 0, 0, 1, 0, 1, 1, 1, 1, 1, 1, 0]
def k85_36 : Code := .cond (.tmp 132) k85_37 k85_108
def k85_93 := cp kc85 [1, 1, 1, 1, 1, 1, 1, 1, 0, 0, 0, 1, 0, 0, 1, 0, 1, 0, 0]
def k85_51 : Code := .cond (.tmp 73) k85_52 k85_94
def k85_27 : Code := .seq k85_102 k85_28
def k85_35 : Code := .seq k85_107 k85_36
def k85_50 : Code := .seq k85_93 k85_51
def k85_49 := cp kc85 [1, 1, 1, 1, 1, 1, 1, 1, 0, 0, 0, 1, 0, 0, 1, 0, 1, 1]
def k85_98 := cp kc85 [1, 1, 1, 1, 1, 1, 1, 1, 0, 0, 0, 1, 0, 1, 0, 1, 0, 0]
def k85_23 := cp kc85 [1, 1, 1, 1, 1, 1, 1, 1, 0, 0, 0, 1, 0, 1, 0, 1, 0, 1]
def k85_101 := cp kc85 [1, 1, 1, 1, 1, 1, 1, 1, 0, 0, 0, 1, 0, 1, 1, 1, 1, 0]
def k85_26 : Code := .cond (.tmp 107) k85_27 k85_35
def k85_92 := cp kc85 [1, 1, 1, 1, 1, 1, 1, 1, 0, 0, 0, 1, 0, 0, 1, 0, 0]
def k85_48 : Code := .seq k85_50 k85_49
def k85_22 : Code := .seq k85_98 k85_23
def k85_97 := cp kc85 [1, 1, 1, 1, 1, 1, 1, 1, 0, 0, 0, 1, 0, 1, 0, 1, 1]
def k85_100 := cp kc85 [1, 1, 1, 1, 1, 1, 1, 1, 0, 0, 0, 1, 0, 1, 1, 1, 0]
def k85_25 : Code := .seq k85_101 k85_26
def k85_47 : Code := .seq k85_92 k85_48
def k85_91 := cp kc85 [1, 1, 1, 1, 1, 1, 1, 1, 0, 0, 0, 1, 0, 0, 1, 1]
def k85_96 := cp kc85 [1, 1, 1, 1, 1, 1, 1, 1, 0, 0, 0, 1, 0, 1, 0, 0]
def k85_21 : Code := .cond (.tmp 93) k85_22 k85_97
def k85_99 := cp kc85 [1, 1, 1, 1, 1, 1, 1, 1, 0, 0, 0, 1, 0, 1, 1, 0]
def k85_24 : Code := .seq k85_100 k85_25
def k85_90 := cp kc85 [1, 1, 1, 1, 1, 1, 1, 1, 0, 0, 0, 1, 0, 0, 0]
def k85_46 : Code := .cond (.tmp 64) k85_47 k85_91
def k85_20 : Code := .seq k85_96 k85_21
def k85_19 : Code := .seq k85_99 k85_24
def k85_88 := cp kc85 [1, 1, 1, 1, 1, 1, 1, 1, 0, 0, 0, 0, 1, 0]
def k85_89 := cp kc85 [1, 1, 1, 1, 1, 1, 1, 1, 0, 0, 0, 0, 1, 1]
def k85_45 : Code := .seq k85_90 k85_46
def k85_18 : Code := .seq k85_20 k85_19
def k85_81 := cp kc85 [1, 1, 0, 0, 1, 1, 1, 1, 1, 1, 1, 0, 0]
def k85_70 := cp kc85 [1, 1, 0, 0, 1, 1, 1, 1, 1, 1, 1, 0, 1]
def k85_87 := cp kc85 [1, 1, 1, 1, 1, 1, 1, 1, 0, 0, 0, 0, 0]
def k85_16 : Code := .cond (.tmp 59) k85_88 k85_89
def k85_17 : Code := .seq k85_45 k85_18
def k85_69 : Code := .seq k85_81 k85_70
def k85_80 := cp kc85 [1, 1, 0, 0, 1, 1, 1, 1, 1, 1, 1, 1]
def k85_15 : Code := .seq k85_87 k85_16
def k85_14 : Code := .block 2 k85_17
def k85_78 := cp kc85 [1, 1, 0, 0, 1, 1, 1, 1, 1, 0, 0]
def k85_66 := cp kc85 [1, 1, 0, 0, 1, 1, 1, 1, 1, 0, 1]
def k85_79 := cp kc85 [1, 1, 0, 0, 1, 1, 1, 1, 1, 1, 0]
def k85_68 : Code := .cond (.tmp 36) k85_69 k85_80
def k85_13 : Code := .seq k85_15 k85_14
def k85_65 : Code := .seq k85_78 k85_66
def k85_67 : Code := .seq k85_79 k85_68
def k85_12 : Code := .loop k85_13
def k85_114 := cp kc85 [1, 1, 1, 1, 1, 1, 1, 1, 1, 0]
def k85_10 := cp kc85 [1, 1, 1, 1, 1, 1, 1, 1, 1, 1]
def k85_76 := cp kc85 [1, 1, 0, 0, 1, 1, 1, 0, 0]
def k85_62 := cp kc85 [1, 1, 0, 0, 1, 1, 1, 0, 1]
def k85_77 := cp kc85 [1, 1, 0, 0, 1, 1, 1, 1, 0]
def k85_64 : Code := .cond (.tmp 31) k85_65 k85_67
def k85_11 : Code := .block 1 k85_12
def k85_9 : Code := .seq k85_114 k85_10
def k85_61 : Code := .seq k85_76 k85_62
def k85_63 : Code := .seq k85_77 k85_64
def k85_86 := cp kc85 [1, 1, 1, 1, 1, 1, 1, 0]
def k85_8 : Code := .seq k85_11 k85_9
def k85_74 := cp kc85 [1, 1, 0, 0, 1, 0, 0]
def k85_58 := cp kc85 [1, 1, 0, 0, 1, 0, 1]
def k85_75 := cp kc85 [1, 1, 0, 0, 1, 1, 0]
def k85_60 : Code := .cond (.tmp 24) k85_61 k85_63
def k85_85 := cp kc85 [1, 1, 1, 1, 1, 1, 0]
def k85_7 : Code := .seq k85_86 k85_8
def k85_57 : Code := .seq k85_74 k85_58
def k85_59 : Code := .seq k85_75 k85_60
def k85_84 := cp kc85 [1, 1, 1, 1, 1, 0]
def k85_6 : Code := .seq k85_85 k85_7
def k85_73 := cp kc85 [1, 1, 0, 0, 0]
def k85_56 : Code := .cond (.tmp 16) k85_57 k85_59
def k85_83 := cp kc85 [1, 1, 1, 1, 0]
def k85_5 : Code := .seq k85_84 k85_6
def k85_55 : Code := .seq k85_73 k85_56
def k85_82 := cp kc85 [1, 1, 1, 0]
def k85_4 : Code := .seq k85_83 k85_5
def k85_54 : Code := .block 0 k85_55
def k85_3 : Code := .seq k85_82 k85_4
def k85_72 := cp kc85 [1, 0]
def k85_2 : Code := .seq k85_54 k85_3
def k85_71 := cp kc85 [0]
def k85_1 : Code := .seq k85_72 k85_2
def k85_0 : Code := .seq k85_71 k85_1
def p85_9 (cf : CallF) (lf : Nat) (h : Heap) : Ans :=
 some (.ret (.int .i64 (-1)), h)
theorem p85_9_ok (cf : CallF) (lf : Nat) (T : Tmps) (h : Heap) : execK E cf lf 143 k85_9 T h (finK E [.tmp 4]) = p85_9 cf lf h := by kernel_rfl
def p85_31 (cf : CallF) (lf : Nat) (F12 : Value → Value → Value → Value → Value → Value → Value → Value → Heap → Ans) (s8 : Value) (s12 : Value) (s114 : Value) (h : Heap) : Ans :=
 condV s114 (
  bindO (binB E 3 .add s12 s8) fun t117 =>
  some (.ret t117, h)
 ) (
  some (.ret (.int .i64 (-1)), h)
 )
theorem p85_31_ok (cf : CallF) (lf : Nat) (F12 : Value → Value → Value → Value → Value → Value → Value → Value → Heap → Ans) (T : Tmps) (h : Heap) : execK E cf lf 143 k85_31 T h (seqK (fun T h => execK E cf lf 143 k85_29 T h (blockK 2 (seqK (fun T h => F12 (T 0) (T 1) (T 5) (T 6) (T 7) (T 8) (T 9) (T 10) h) (blockK 1 (seqK (fun T h => p85_9 cf lf h) (finK E [.tmp 4])))))) (blockK 2 (seqK (fun T h => F12 (T 0) (T 1) (T 5) (T 6) (T 7) (T 8) (T 9) (T 10) h) (blockK 1 (seqK (fun T h => p85_9 cf lf h) (finK E [.tmp 4])))))) = p85_31 cf lf F12 (T 8) (T 12) (T 114) h := by kernel_rfl
def p85_36 (cf : CallF) (lf : Nat) (F12 : Value → Value → Value → Value → Value → Value → Value → Value → Heap → Ans) (s0 : Value) (s1 : Value) (s5 : Value) (s6 : Value) (s7 : Value) (s8 : Value) (s9 : Value) (s10 : Value) (s132 : Value) (h : Heap) : Ans :=
 condV s132 (
  bindO (sliceA E 9 s0 (some s8) none h) fun t135 =>
  bindR (cf 96 [t135, s1] h) (fun v h => some (.panic v, h)) fun t137 h =>
  bindO (binA E 3 .lss t137 (.int .i64 (0))) fun t139 =>
  condV t139 (
   some (.ret (.int .i64 (-1)), h)
  ) (
   bindO (binB E 3 .add s8 t137) fun t142 =>
   some (.ret t142, h)
  )
 ) (
  F12 s0 s1 s5 s6 s7 s8 s9 s10 h
 )
theorem p85_36_ok (cf : CallF) (lf : Nat) (F12 : Value → Value → Value → Value → Value → Value → Value → Value → Heap → Ans) (T : Tmps) (h : Heap) : execK E cf lf 143 k85_36 T h (blockK 2 (seqK (fun T h => F12 (T 0) (T 1) (T 5) (T 6) (T 7) (T 8) (T 9) (T 10) h) (blockK 1 (seqK (fun T h => p85_9 cf lf h) (finK E [.tmp 4]))))) = p85_36 cf lf F12 (T 0) (T 1) (T 5) (T 6) (T 7) (T 8) (T 9) (T 10) (T 132) h := by kernel_rfl
def p85_21 (cf : CallF) (lf : Nat) (F12 : Value → Value → Value → Value → Value → Value → Value → Value → Heap → Ans) (s0 : Value) (s1 : Value) (s5 : Value) (s6 : Value) (s7 : Value) (s8 : Value) (s9 : Value) (s10 : Value) (s93 : Value) (h : Heap) : Ans :=
 condV s93 (
  some (.ret s8, h)
 ) (
  bindO (binA E 3 .add s8 (.int .i64 (1))) fun t96 =>
  bindO (binA E 3 .add s10 (.int .i64 (1))) fun t98 =>
  bindO (loadA E 3 (.pointer (some ⟨1, 0, none⟩)) h) fun t100 =>
  bindO (binB E 3 .leq s5 t100) fun t101 =>
  bindO (gO (boolIs true t101) (some t98)) fun t103 =>
  bindO (gO (boolIs true t101) (some t96)) fun t104 =>
  bindR (gR (boolIs true t101) (cf 95 [t104] h) h) (fun v h => some (.panic v, h)) fun t105 h =>
  bindO (gO (boolIs true t101) (binB E 3 .gtr t103 t105)) fun t106 =>
  bindO (pickA t101 t106 (.bool false)) fun t107 =>
  condV t107 (
   bindO (sliceA E 9 s0 (some t96) none h) fun t110 =>
   bindR (cf 94 [t110, s1] h) (fun v h => some (.panic v, h)) fun t112 h =>
   bindO (binA E 3 .geq t112 (.int .i64 (0))) fun t114 =>
   p85_31 cf lf F12 t96 t112 t114 h
  ) (
   bindO (loadA E 3 (.pointer (some ⟨1, 0, none⟩)) h) fun t119 =>
   bindO (binB E 3 .gtr s5 t119) fun t120 =>
   bindO (gO (boolIs true t120) (some t98)) fun t122 =>
   bindO (gO (boolIs true t120) (some t96)) fun t123 =>
   bindO (gO (boolIs true t120) (binA E 3 .shr t123 (.int .u64 (4)))) fun t124 =>
   bindO (gO (boolIs true t120) (binA E 3 .add (.int .i64 (4)) t124)) fun t125 =>
   bindO (gO (boolIs true t120) (binB E 3 .geq t122 t125)) fun t126 =>
   bindO (pickA t120 t126 (.bool false)) fun t127 =>
   bindO (gO (boolIs true t127) (some t96)) fun t129 =>
   bindO (gO (boolIs true t127) (some s9)) fun t130 =>
   bindO (gO (boolIs true t127) (binB E 3 .lss t129 t130)) fun t131 =>
   bindO (pickA t127 t131 (.bool false)) fun t132 =>
   p85_36 cf lf F12 s0 s1 s5 s6 s7 t96 s9 t98 t132 h
  )
 )
theorem p85_21_ok (cf : CallF) (lf : Nat) (F12 : Value → Value → Value → Value → Value → Value → Value → Value → Heap → Ans) (T : Tmps) (h : Heap) : execK E cf lf 143 k85_21 T h (seqK (fun T h => execK E cf lf 143 k85_19 T h (blockK 2 (seqK (fun T h => F12 (T 0) (T 1) (T 5) (T 6) (T 7) (T 8) (T 9) (T 10) h) (blockK 1 (seqK (fun T h => p85_9 cf lf h) (finK E [.tmp 4])))))) (blockK 2 (seqK (fun T h => F12 (T 0) (T 1) (T 5) (T 6) (T 7) (T 8) (T 9) (T 10) h) (blockK 1 (seqK (fun T h => p85_9 cf lf h) (finK E [.tmp 4])))))) = p85_21 cf lf F12 (T 0) (T 1) (T 5) (T 6) (T 7) (T 8) (T 9) (T 10) (T 93) h := by simp only [k85_19, k85_21, k85_22, k85_24, k85_25, k85_26, k85_27, k85_28, k85_30, k85_35, execK_all, p85_31_ok, p85_36_ok]; delta p85_21; generalize p85_31 = G0; generalize p85_36 = G1; as_aux_lemma => kernel_rfl
def p85_18 (cf : CallF) (lf : Nat) (F12 : Value → Value → Value → Value → Value → Value → Value → Value → Heap → Ans) (s0 : Value) (s1 : Value) (s5 : Value) (s6 : Value) (s7 : Value) (s8 : Value) (s9 : Value) (s10 : Value) (h : Heap) : Ans :=
 bindO (binA E 3 .add s8 (.int .i64 (1))) fun t80 =>
 bindO (indexA E 9 s0 t80) fun t81 =>
 bindO (binB E 5 .eql t81 s7) fun t83 =>
 bindO (gO (boolIs true t83) (some s0)) fun t85 =>
 bindO (gO (boolIs true t83) (some s8)) fun t86 =>
 bindO (gO (boolIs true t83) (some s8)) fun t87 =>
 bindO (gO (boolIs true t83) (some s5)) fun t88 =>
 bindO (gO (boolIs true t83) (binB E 3 .add t87 t88)) fun t89 =>
 bindO (gO (boolIs true t83) (sliceA E 9 t85 (some t86) (some t89) h)) fun t90 =>
 bindO (gO (boolIs true t83) (some s1)) fun t91 =>
 bindO (gO (boolIs true t83) (binB E 9 .eql t90 t91)) fun t92 =>
 bindO (pickA t83 t92 (.bool false)) fun t93 =>
 p85_21 cf lf F12 s0 s1 s5 s6 s7 s8 s9 s10 t93 h
theorem p85_18_ok (cf : CallF) (lf : Nat) (F12 : Value → Value → Value → Value → Value → Value → Value → Value → Heap → Ans) (T : Tmps) (h : Heap) : execK E cf lf 143 k85_18 T h (blockK 2 (seqK (fun T h => F12 (T 0) (T 1) (T 5) (T 6) (T 7) (T 8) (T 9) (T 10) h) (blockK 1 (seqK (fun T h => p85_9 cf lf h) (finK E [.tmp 4]))))) = p85_18 cf lf F12 (T 0) (T 1) (T 5) (T 6) (T 7) (T 8) (T 9) (T 10) h := by simp only [k85_18, k85_20, execK_all, p85_21_ok]; delta p85_18; generalize p85_21 = G0; as_aux_lemma => kernel_rfl
def p85_46 (cf : CallF) (lf : Nat) (F12 : Value → Value → Value → Value → Value → Value → Value → Value → Heap → Ans) (s0 : Value) (s1 : Value) (s5 : Value) (s6 : Value) (s7 : Value) (s8 : Value) (s9 : Value) (s10 : Value) (s64 : Value) (h : Heap) : Ans :=
 condV s64 (
  bindO (binA E 3 .add s8 (.int .i64 (1))) fun t67 =>
  bindO (sliceA E 9 s0 (some t67) (some s9) h) fun t69 =>
  bindR (cf 87 [t69, s6] h) (fun v h => some (.panic v, h)) fun t71 h =>
  bindO (binA E 3 .lss t71 (.int .i64 (0))) fun t73 =>
  condV t73 (
   some (.ret (.int .i64 (-1)), h)
  ) (
   bindO (binA E 3 .add t71 (.int .i64 (1))) fun t76 =>
   bindO (binB E 3 .add s8 t76) fun t77 =>
   p85_18 cf lf F12 s0 s1 s5 s6 s7 t77 s9 s10 h
  )
 ) (
  p85_18 cf lf F12 s0 s1 s5 s6 s7 s8 s9 s10 h
 )
theorem p85_46_ok (cf : CallF) (lf : Nat) (F12 : Value → Value → Value → Value → Value → Value → Value → Value → Heap → Ans) (T : Tmps) (h : Heap) : execK E cf lf 143 k85_46 T h (seqK (fun T h => p85_18 cf lf F12 (T 0) (T 1) (T 5) (T 6) (T 7) (T 8) (T 9) (T 10) h) (blockK 2 (seqK (fun T h => F12 (T 0) (T 1) (T 5) (T 6) (T 7) (T 8) (T 9) (T 10) h) (blockK 1 (seqK (fun T h => p85_9 cf lf h) (finK E [.tmp 4])))))) = p85_46 cf lf F12 (T 0) (T 1) (T 5) (T 6) (T 7) (T 8) (T 9) (T 10) (T 64) h := by kernel_rfl
def p85_13 (cf : CallF) (lf : Nat) (F12 : Value → Value → Value → Value → Value → Value → Value → Value → Heap → Ans) (s0 : Value) (s1 : Value) (s5 : Value) (s6 : Value) (s7 : Value) (s8 : Value) (s9 : Value) (s10 : Value) (h : Heap) : Ans :=
 bindO (binB E 3 .lss s8 s9) fun t59 =>
 condV t59 (
  bindO (indexA E 9 s0 s8) fun t62 =>
  bindO (binB E 5 .neq t62 s6) fun t64 =>
  p85_46 cf lf F12 s0 s1 s5 s6 s7 s8 s9 s10 t64 h
 ) (
  p85_9 cf lf h
 )
theorem p85_13_ok (cf : CallF) (lf : Nat) (F12 : Value → Value → Value → Value → Value → Value → Value → Value → Heap → Ans) (T : Tmps) (h : Heap) : execK E cf lf 143 k85_13 T h (seqK (fun T h => F12 (T 0) (T 1) (T 5) (T 6) (T 7) (T 8) (T 9) (T 10) h) (blockK 1 (seqK (fun T h => p85_9 cf lf h) (finK E [.tmp 4])))) = p85_13 cf lf F12 (T 0) (T 1) (T 5) (T 6) (T 7) (T 8) (T 9) (T 10) h := by simp only [k85_13, k85_14, k85_15, k85_16, k85_17, k85_45, execK_all, p85_18_ok, p85_46_ok]; delta p85_13; generalize p85_18 = G0; generalize p85_46 = G1; as_aux_lemma => kernel_rfl
def l85_12 (cf : CallF) (lf : Nat) : Nat → Value → Value → Value → Value → Value → Value → Value → Value → Heap → Ans
 | 0, _, _, _, _, _, _, _, _, _ => none
 | n + 1, s0, s1, s5, s6, s7, s8, s9, s10, h => p85_13 cf lf (l85_12 cf lf n) s0 s1 s5 s6 s7 s8 s9 s10 h
theorem l85_12_ok (cf : CallF) (lf : Nat) (n : Nat) : ∀ (T : Tmps) (h : Heap), iterK (fun T h K => execK E cf lf 143 k85_13 T h K) (blockK 1 (seqK (fun T h => p85_9 cf lf h) (finK E [.tmp 4]))) n T h = l85_12 cf lf n (T 0) (T 1) (T 5) (T 6) (T 7) (T 8) (T 9) (T 10) h := by
 induction n with
 | zero => intro T h; rfl
 | succ n ih =>
  intro T h
  rw [iterK_succ, show iterK (fun T h K => execK E cf lf 143 k85_13 T h K) (blockK 1 (seqK (fun T h => p85_9 cf lf h) (finK E [.tmp 4]))) n = (fun T h => l85_12 cf lf n (T 0) (T 1) (T 5) (T 6) (T 7) (T 8) (T 9) (T 10) h) from funext fun T => funext fun h => ih T h]
  exact p85_13_ok cf lf (l85_12 cf lf n) T h
def p85_3 (cf : CallF) (lf : Nat) (s0 : Value) (s1 : Value) (s5 : Value) (h : Heap) : Ans :=
 bindO (indexA E 9 s1 (.int .i64 (0))) fun t49 =>
 bindO (indexA E 9 s1 (.int .i64 (1))) fun t51 =>
 bindO (lenA E 9 s0) fun t53 =>
 bindO (binB E 3 .sub t53 s5) fun t55 =>
 bindO (binA E 3 .add t55 (.int .i64 (1))) fun t56 =>
 l85_12 cf lf lf s0 s1 s5 t49 t51 (.int .i64 (0)) t56 (.int .i64 (0)) h
theorem p85_3_ok (cf : CallF) (lf : Nat) (T : Tmps) (h : Heap) : execK E cf lf 143 k85_3 T h (finK E [.tmp 4]) = p85_3 cf lf (T 0) (T 1) (T 5) h := by simp only [k85_11, k85_12, k85_3, k85_4, k85_5, k85_6, k85_7, k85_8, execK_all, l85_12_ok, p85_9_ok]; delta p85_3; generalize l85_12 = G0; generalize p85_9 = G1; as_aux_lemma => kernel_rfl
def p85_56 (cf : CallF) (lf : Nat) (s0 : Value) (s1 : Value) (s5 : Value) (s16 : Value) (h : Heap) : Ans :=
 condV s16 (
  some (.ret (.int .i64 (0)), h)
 ) (
  bindO (binA E 3 .eql s5 (.int .i64 (1))) fun t26 =>
  condV t26 (
   bindO (indexA E 9 s1 (.int .i64 (0))) fun t29 =>
   bindR (cf 87 [s0, t29] h) (fun v h => some (.panic v, h)) fun t30 h =>
   some (.ret t30, h)
  ) (
   bindO (lenA E 9 s0) fun t34 =>
   bindO (binB E 3 .geq s5 t34) fun t35 =>
   condV t35 (
    some (.ret (.int .i64 (-1)), h)
   ) (
    bindO (loadA E 3 (.pointer (some ⟨1, 0, none⟩)) h) fun t38 =>
    bindO (binB E 3 .leq s5 t38) fun t39 =>
    bindO (gO (boolIs true t39) (some s0)) fun t41 =>
    bindO (gO (boolIs true t39) (lenA E 9 t41)) fun t42 =>
    bindO (gO (boolIs true t39) (binA E 3 .leq t42 (.int .i64 (64)))) fun t43 =>
    bindO (pickA t39 t43 (.bool false)) fun t44 =>
    condV t44 (
     bindR (cf 94 [s0, s1] h) (fun v h => some (.panic v, h)) fun t47 h =>
     some (.ret t47, h)
    ) (
     p85_3 cf lf s0 s1 s5 h
    )
   )
  )
 )
theorem p85_56_ok (cf : CallF) (lf : Nat) (T : Tmps) (h : Heap) : execK E cf lf 143 k85_56 T h (blockK 0 (seqK (fun T h => p85_3 cf lf (T 0) (T 1) (T 5) h) (finK E [.tmp 4]))) = p85_56 cf lf (T 0) (T 1) (T 5) (T 16) h := by kernel_rfl
def p85_0 (cf : CallF) (lf : Nat) (s0 : Value) (s1 : Value) (h : Heap) : Ans :=
 bindO (lenA E 9 s1) fun t15 =>
 bindO (binA E 3 .eql t15 (.int .i64 (0))) fun t18 =>
 bindO (gO (boolIs false t18) (some s1)) fun t20 =>
 bindO (gO (boolIs false t18) (some s0)) fun t21 =>
 bindO (gO (boolIs false t18) (binB E 9 .eql t20 t21)) fun t22 =>
 bindO (pickA t18 (.bool true) t22) fun t23 =>
 p85_56 cf lf s0 s1 t15 t23 h
theorem p85_0_ok (cf : CallF) (lf : Nat) (T : Tmps) (h : Heap) : execK E cf lf 143 k85_0 T h (finK E [.tmp 4]) = p85_0 cf lf (T 0) (T 1) h := by simp only [k85_0, k85_1, k85_2, k85_54, k85_55, execK_all, p85_3_ok, p85_56_ok]; delta p85_0; generalize p85_3 = G0; generalize p85_56 = G1; as_aux_lemma => kernel_rfl
def f85 (cf : CallF) (lf : Nat) (a0 : Value) (a1 : Value) (h : Heap) : Ans := p85_0 cf lf a0 a1 h
theorem f85_ok (cf : CallF) (lf : Nat) (a0 a1 : Value) (h : Heap) : stepN E cf lf 85 [a0, a1] h = f85 cf lf a0 a1 h := (show stepN E cf lf 85 [a0, a1] h = execK E cf lf 143 k85_0 (T0 [a0, a1]) h (finK E [.tmp 4]) by kernel_rfl).trans ((p85_0_ok cf lf (T0 [a0, a1]) h).trans (by kernel_rfl))
def f87 (cf : CallF) (lf : Nat) (a0 : Value) (a1 : Value) (h : Heap) : Ans :=
 bindR (callA E cf (.func (.func 97) ⟨[]⟩ ⟨[]⟩) [a0, a1] h) (fun v h => some (.panic v, h)) fun t7 h =>
 some (.ret t7, h)
theorem f87_ok (cf : CallF) (lf : Nat) (a0 a1 : Value) (h : Heap) : stepN E cf lf 87 [a0, a1] h = f87 cf lf a0 a1 h := by kernel_rfl
noncomputable def kc88 := codeOf Tryd.f88
def k88_53 := cp kc88 [0, 1, 0, 0, 1, 0, 1, 1, 1, 0, 1, 1, 1, 1, 1, 1, 1, 1, 1, 0, 1, 1, 0]
def k88_54 := cp kc88 [0, 1, 0, 0, 1, 0, 1, 1, 1, 0, 1, 1, 1, 1, 1, 1, 1, 1, 1, 0, 1, 1, 1]
def k88_52 := cp kc88 [0, 1, 0, 0, 1, 0, 1, 1, 1, 0, 1, 1, 1, 1, 1, 1, 1, 1, 1, 0, 1, 0]
def k88_30 : Code := .cond (.tmp 74) k88_53 k88_54
def k88_51 := cp kc88 [0, 1, 0, 0, 1, 0, 1, 1, 1, 0, 1, 1, 1, 1, 1, 1, 1, 1, 1, 0, 0]
def k88_29 : Code := .seq k88_52 k88_30
def k88_28 : Code := .seq k88_51 k88_29
def k88_50 := cp kc88 [0, 1, 0, 0, 1, 0, 1, 1, 1, 0, 1, 1, 1, 1, 1, 1, 1, 1, 1, 1]
def k88_49 := cp kc88 [0, 1, 0, 0, 1, 0, 1, 1, 1, 0, 1, 1, 1, 1, 1, 1, 1, 1, 0]
def k88_27 : Code := .cond (.tmp 69) k88_28 k88_50
def k88_43 := cp kc88 [0, 1, 0, 0, 1, 0, 1, 1, 1, 0, 1, 1, 1, 0, 1, 0, 1, 0]
def k88_44 := cp kc88 [0, 1, 0, 0, 1, 0, 1, 1, 1, 0, 1, 1, 1, 0, 1, 0, 1, 1]
def k88_48 := cp kc88 [0, 1, 0, 0, 1, 0, 1, 1, 1, 0, 1, 1, 1, 1, 1, 1, 1, 0]
def k88_26 : Code := .seq k88_49 k88_27
def k88_42 := cp kc88 [0, 1, 0, 0, 1, 0, 1, 1, 1, 0, 1, 1, 1, 0, 1, 0, 0]
def k88_21 : Code := .cond (.tmp 48) k88_43 k88_44
def k88_47 := cp kc88 [0, 1, 0, 0, 1, 0, 1, 1, 1, 0, 1, 1, 1, 1, 1, 1, 0]
def k88_25 : Code := .cond (.tmp 65) k88_48 k88_26
def k88_20 : Code := .seq k88_42 k88_21
def k88_19 := cp kc88 [0, 1, 0, 0, 1, 0, 1, 1, 1, 0, 1, 1, 1, 0, 1, 1]
def k88_46 := cp kc88 [0, 1, 0, 0, 1, 0, 1, 1, 1, 0, 1, 1, 1, 1, 1, 0]
def k88_24 : Code := .seq k88_47 k88_25
def k88_41 := cp kc88 [0, 1, 0, 0, 1, 0, 1, 1, 1, 0, 1, 1, 1, 0, 0]
def k88_18 : Code := .seq k88_20 k88_19
def k88_45 := cp kc88 [0, 1, 0, 0, 1, 0, 1, 1, 1, 0, 1, 1, 1, 1, 0]
def k88_23 : Code := .cond (.tmp 60) k88_46 k88_24
def k88_17 : Code := .seq k88_41 k88_18
def k88_22 : Code := .seq k88_45 k88_23
def k88_40 := cp kc88 [0, 1, 0, 0, 1, 0, 1, 1, 1, 0, 1, 1, 0]
def k88_16 : Code := .cond (.tmp 35) k88_17 k88_22
def k88_39 := cp kc88 [0, 1, 0, 0, 1, 0, 1, 1, 1, 0, 1, 0]
def k88_15 : Code := .seq k88_40 k88_16
def k88_38 := cp kc88 [0, 1, 0, 0, 1, 0, 1, 1, 1, 0, 0]
def k88_14 : Code := .cond (.tmp 26) k88_39 k88_15
def k88_13 : Code := .seq k88_38 k88_14
def k88_37 := cp kc88 [0, 1, 0, 0, 1, 0, 1, 1, 0]
def k88_12 : Code := .block 2 k88_13
def k88_36 := cp kc88 [0, 1, 0, 0, 1, 0, 1, 0]
def k88_11 : Code := .seq k88_37 k88_12
def k88_33 := cp kc88 [0, 1, 0, 0, 0, 1, 0]
def k88_34 := cp kc88 [0, 1, 0, 0, 0, 1, 1]
def k88_35 := cp kc88 [0, 1, 0, 0, 1, 0, 0]
def k88_10 : Code := .seq k88_36 k88_11
def k88_32 := cp kc88 [0, 1, 0, 0, 0, 0]
def k88_8 : Code := .cond (.tmp 8) k88_33 k88_34
def k88_9 : Code := .seq k88_35 k88_10
def k88_7 : Code := .seq k88_32 k88_8
def k88_6 : Code := .block 1 k88_9
def k88_5 : Code := .seq k88_7 k88_6
def k88_4 : Code := .loop k88_5
def k88_31 := cp kc88 [0, 0]
def k88_3 : Code := .block 0 k88_4
def k88_2 : Code := .seq k88_31 k88_3
def k88_1 := cp kc88 [1]
def k88_0 : Code := .seq k88_2 k88_1
def p88_1 (cf : CallF) (lf : Nat) (s1 : Value) (h : Heap) : Ans :=
 bindR (cf 25 [(.int .i64 (19)), s1] h) (fun v h => some (.panic v, h)) fun t76 h =>
 some (.ret (.tuple ⟨[]⟩), h)
theorem p88_1_ok (cf : CallF) (lf : Nat) (T : Tmps) (h : Heap) : execK E cf lf 77 k88_1 T h (finK E []) = p88_1 cf lf (T 1) h := by kernel_rfl
def p88_19 (cf : CallF) (lf : Nat) (F4 : Value → Value → Value → Heap → Ans) (s0 : Value) (s1 : Value) (s4 : Value) (s6 : Value) (h : Heap) : Ans :=
 bindO (nilA s0) fun t52 =>
 bindO (fieldAddrA E 57 t52 1) fun t53 =>
 bindO (loadA E 3 t53 h) fun t54 =>
 bindO (binA E 3 .add s6 (.int .i64 (1))) fun t56 =>
 bindO (binB E 3 .add t54 t56) fun t57 =>
 bindO (nilA s0) fun t58 =>
 bindO (fieldAddrA E 57 t58 1) fun t59 =>
 bindR (skipR (storeA E 3 t59 t57 h)) (fun v h => some (.panic v, h)) fun _ h =>
 F4 s0 s1 s4 h
theorem p88_19_ok (cf : CallF) (lf : Nat) (F4 : Value → Value → Value → Heap → Ans) (T : Tmps) (h : Heap) : execK E cf lf 77 k88_19 T h (blockK 2 (blockK 1 (seqK (fun T h => F4 (T 0) (T 1) (T 4) h) (blockK 0 (seqK (fun T h => p88_1 cf lf (T 1) h) (finK E [])))))) = p88_19 cf lf F4 (T 0) (T 1) (T 4) (T 6) h := by kernel_rfl
def p88_18 (cf : CallF) (lf : Nat) (F4 : Value → Value → Value → Heap → Ans) (s0 : Value) (s1 : Value) (s4 : Value) (s6 : Value) (h : Heap) : Ans :=
 bindO (binA E 3 .lss s6 (.int .i64 (0))) fun t48 =>
 condV t48 (
  bindR (cf 25 [(.int .i64 (19)), s1] h) (fun v h => some (.panic v, h)) fun t50 h =>
  p88_19 cf lf F4 s0 s1 s4 s6 h
 ) (
  p88_19 cf lf F4 s0 s1 s4 s6 h
 )
theorem p88_18_ok (cf : CallF) (lf : Nat) (F4 : Value → Value → Value → Heap → Ans) (T : Tmps) (h : Heap) : execK E cf lf 77 k88_18 T h (blockK 2 (blockK 1 (seqK (fun T h => F4 (T 0) (T 1) (T 4) h) (blockK 0 (seqK (fun T h => p88_1 cf lf (T 1) h) (finK E [])))))) = p88_18 cf lf F4 (T 0) (T 1) (T 4) (T 6) h := by simp only [k88_18, k88_20, k88_21, execK_all, p88_19_ok]; delta p88_18; generalize p88_19 = G0; as_aux_lemma => kernel_rfl
def p88_23 (cf : CallF) (lf : Nat) (F4 : Value → Value → Value → Heap → Ans) (s0 : Value) (s1 : Value) (s4 : Value) (s25 : Value) (s60 : Value) (h : Heap) : Ans :=
 condV s60 (
  bindR (cf 98 [s0, s1] h) (fun v h => some (.panic v, h)) fun t64 h =>
  F4 s0 s1 s4 h
 ) (
  bindO (binA E 5 .eql s25 (.int .u8 (40))) fun t66 =>
  condV t66 (
   bindO (binA E 3 .add s4 (.int .i64 (1))) fun t68 =>
   F4 s0 s1 t68 h
  ) (
   bindO (binA E 5 .eql s25 (.int .u8 (41))) fun t70 =>
   condV t70 (
    bindO (binA E 3 .sub s4 (.int .i64 (1))) fun t72 =>
    bindO (binA E 3 .eql t72 (.int .i64 (0))) fun t74 =>
    condV t74 (
     some (.ret (.tuple ⟨[]⟩), h)
    ) (
     F4 s0 s1 t72 h
    )
   ) (
    F4 s0 s1 s4 h
   )
  )
 )
theorem p88_23_ok (cf : CallF) (lf : Nat) (F4 : Value → Value → Value → Heap → Ans) (T : Tmps) (h : Heap) : execK E cf lf 77 k88_23 T h (blockK 2 (blockK 1 (seqK (fun T h => F4 (T 0) (T 1) (T 4) h) (blockK 0 (seqK (fun T h => p88_1 cf lf (T 1) h) (finK E [])))))) = p88_23 cf lf F4 (T 0) (T 1) (T 4) (T 25) (T 60) h := by kernel_rfl
def p88_5 (cf : CallF) (lf : Nat) (F4 : Value → Value → Value → Heap → Ans) (s0 : Value) (s1 : Value) (s4 : Value) (h : Heap) : Ans :=
 bindR (cf 24 [s0] h) (fun v h => some (.panic v, h)) fun t8 h =>
 condV t8 (
  bindO (nilA s0) fun t10 =>
  bindO (fieldAddrA E 57 t10 0) fun t11 =>
  bindO (loadA E 9 t11 h) fun t12 =>
  bindO (nilA s0) fun t14 =>
  bindO (fieldAddrA E 57 t14 1) fun t15 =>
  bindO (loadA E 3 t15 h) fun t16 =>
  bindO (indexA E 9 t12 t16) fun t17 =>
  bindO (nilA s0) fun t19 =>
  bindO (fieldAddrA E 57 t19 1) fun t20 =>
  bindO (loadA E 3 t20 h) fun t21 =>
  bindO (binA E 3 .add t21 (.int .i64 (1))) fun t22 =>
  bindO (nilA s0) fun t23 =>
  bindO (fieldAddrA E 57 t23 1) fun t24 =>
  bindR (skipR (storeA E 3 t24 t22 h)) (fun v h => some (.panic v, h)) fun _ h =>
  bindO (binA E 5 .eql t17 (.int .u8 (92))) fun t27 =>
  condV t27 (
   bindO (nilA s0) fun t29 =>
   bindO (fieldAddrA E 57 t29 1) fun t30 =>
   bindO (loadA E 3 t30 h) fun t31 =>
   bindO (binA E 3 .add t31 (.int .i64 (1))) fun t32 =>
   bindO (nilA s0) fun t33 =>
   bindO (fieldAddrA E 57 t33 1) fun t34 =>
   bindR (skipR (storeA E 3 t34 t32 h)) (fun v h => some (.panic v, h)) fun _ h =>
   F4 s0 s1 s4 h
  ) (
   bindO (binA E 5 .eql t17 (.int .u8 (39))) fun t36 =>
   condV t36 (
    bindO (nilA s0) fun t38 =>
    bindO (fieldAddrA E 57 t38 0) fun t39 =>
    bindO (loadA E 9 t39 h) fun t40 =>
    bindO (nilA s0) fun t42 =>
    bindO (fieldAddrA E 57 t42 1) fun t43 =>
    bindO (loadA E 3 t43 h) fun t44 =>
    bindO (sliceA E 9 t40 (some t44) none h) fun t45 =>
    bindR (cf 73 [t45, (.int .u8 (39))] h) (fun v h => some (.panic v, h)) fun t46 h =>
    p88_18 cf lf F4 s0 s1 s4 t46 h
   ) (
    bindO (binA E 5 .eql t17 (.int .u8 (34))) fun t61 =>
    p88_23 cf lf F4 s0 s1 s4 t17 t61 h
   )
  )
 ) (
  p88_1 cf lf s1 h
 )
theorem p88_5_ok (cf : CallF) (lf : Nat) (F4 : Value → Value → Value → Heap → Ans) (T : Tmps) (h : Heap) : execK E cf lf 77 k88_5 T h (seqK (fun T h => F4 (T 0) (T 1) (T 4) h) (blockK 0 (seqK (fun T h => p88_1 cf lf (T 1) h) (finK E [])))) = p88_5 cf lf F4 (T 0) (T 1) (T 4) h := by simp only [k88_10, k88_11, k88_12, k88_13, k88_14, k88_15, k88_16, k88_17, k88_22, k88_5, k88_6, k88_7, k88_8, k88_9, execK_all, p88_18_ok, p88_23_ok]; delta p88_5; generalize p88_18 = G0; generalize p88_23 = G1; as_aux_lemma => kernel_rfl
def l88_4 (cf : CallF) (lf : Nat) : Nat → Value → Value → Value → Heap → Ans
 | 0, _, _, _, _ => none
 | n + 1, s0, s1, s4, h => p88_5 cf lf (l88_4 cf lf n) s0 s1 s4 h
theorem l88_4_ok (cf : CallF) (lf : Nat) (n : Nat) : ∀ (T : Tmps) (h : Heap), iterK (fun T h K => execK E cf lf 77 k88_5 T h K) (blockK 0 (seqK (fun T h => p88_1 cf lf (T 1) h) (finK E []))) n T h = l88_4 cf lf n (T 0) (T 1) (T 4) h := by
 induction n with
 | zero => intro T h; rfl
 | succ n ih =>
  intro T h
  rw [iterK_succ, show iterK (fun T h K => execK E cf lf 77 k88_5 T h K) (blockK 0 (seqK (fun T h => p88_1 cf lf (T 1) h) (finK E []))) n = (fun T h => l88_4 cf lf n (T 0) (T 1) (T 4) h) from funext fun T => funext fun h => ih T h]
  exact p88_5_ok cf lf (l88_4 cf lf n) T h
def p88_3 (cf : CallF) (lf : Nat) (s0 : Value) (s1 : Value) (s4 : Value) (h : Heap) : Ans :=
 l88_4 cf lf lf s0 s1 s4 h
theorem p88_3_ok (cf : CallF) (lf : Nat) (T : Tmps) (h : Heap) : execK E cf lf 77 k88_3 T h (seqK (fun T h => p88_1 cf lf (T 1) h) (finK E [])) = p88_3 cf lf (T 0) (T 1) (T 4) h := by simp only [k88_3, k88_4, execK_all, l88_4_ok]; delta p88_3; generalize l88_4 = G0; as_aux_lemma => kernel_rfl
def p88_0 (cf : CallF) (lf : Nat) (s0 : Value) (s1 : Value) (h : Heap) : Ans :=
 p88_3 cf lf s0 s1 (.int .i64 (1)) h
theorem p88_0_ok (cf : CallF) (lf : Nat) (T : Tmps) (h : Heap) : execK E cf lf 77 k88_0 T h (finK E []) = p88_0 cf lf (T 0) (T 1) h := by simp only [k88_0, k88_2, execK_all, p88_1_ok, p88_3_ok]; delta p88_0; generalize p88_1 = G0; generalize p88_3 = G1; as_aux_lemma => kernel_rfl
def f88 (cf : CallF) (lf : Nat) (a0 : Value) (a1 : Value) (h : Heap) : Ans := p88_0 cf lf a0 a1 h
theorem f88_ok (cf : CallF) (lf : Nat) (a0 a1 : Value) (h : Heap) : stepN E cf lf 88 [a0, a1] h = f88 cf lf a0 a1 h := (show stepN E cf lf 88 [a0, a1] h = execK E cf lf 77 k88_0 (T0 [a0, a1]) h (finK E []) by kernel_rfl).trans ((p88_0_ok cf lf (T0 [a0, a1]) h).trans (by kernel_rfl))
noncomputable def kc89 := codeOf Tryd.f89
def k89_72 := cp kc89 [1, 1, 1, 1, 1, 1, 1, 1, 1, 1, 1, 1, 1, 1, 0, 1, 0]
def k89_73 := cp kc89 [1, 1, 1, 1, 1, 1, 1, 1, 1, 1, 1, 1, 1, 1, 0, 1, 1]
def k89_71 := cp kc89 [1, 1, 1, 1, 1, 1, 1, 1, 1, 1, 1, 1, 1, 1, 0, 0]
def k89_22 : Code := .cond (.tmp 76) k89_72 k89_73
def k89_74 := cp kc89 [1, 1, 1, 1, 1, 1, 1, 1, 1, 1, 1, 1, 1, 1, 1, 0]
def k89_20 := cp kc89 [1, 1, 1, 1, 1, 1, 1, 1, 1, 1, 1, 1, 1, 1, 1, 1]
def k89_68 := cp kc89 [1, 1, 1, 1, 1, 1, 1, 1, 1, 1, 1, 1, 0, 1, 0]
def k89_69 := cp kc89 [1, 1, 1, 1, 1, 1, 1, 1, 1, 1, 1, 1, 0, 1, 1]
def k89_21 : Code := .seq k89_71 k89_22
def k89_19 : Code := .seq k89_74 k89_20
def k89_67 := cp kc89 [1, 1, 1, 1, 1, 1, 1, 1, 1, 1, 1, 1, 0, 0]
def k89_24 : Code := .cond (.tmp 67) k89_68 k89_69
def k89_70 := cp kc89 [1, 1, 1, 1, 1, 1, 1, 1, 1, 1, 1, 1, 1, 0]
def k89_18 : Code := .seq k89_21 k89_19
def k89_53 := cp kc89 [1, 1, 1, 1, 0, 1, 0, 0, 1, 1, 0, 1, 0]
def k89_38 := cp kc89 [1, 1, 1, 1, 0, 1, 0, 0, 1, 1, 0, 1, 1]
def k89_23 : Code := .seq k89_67 k89_24
def k89_17 : Code := .seq k89_70 k89_18
def k89_52 := cp kc89 [1, 1, 1, 1, 0, 1, 0, 0, 1, 1, 0, 0]
def k89_37 : Code := .seq k89_53 k89_38
def k89_63 := cp kc89 [1, 1, 1, 1, 1, 1, 1, 1, 1, 0, 1, 0]
def k89_64 := cp kc89 [1, 1, 1, 1, 1, 1, 1, 1, 1, 0, 1, 1]
def k89_66 := cp kc89 [1, 1, 1, 1, 1, 1, 1, 1, 1, 1, 1, 0]
def k89_16 : Code := .seq k89_23 k89_17
def k89_36 : Code := .seq k89_52 k89_37
def k89_51 := cp kc89 [1, 1, 1, 1, 0, 1, 0, 0, 1, 1, 1]
def k89_60 := cp kc89 [1, 1, 1, 1, 1, 1, 1, 0, 1, 0, 0]
def k89_12 := cp kc89 [1, 1, 1, 1, 1, 1, 1, 0, 1, 0, 1]
def k89_62 := cp kc89 [1, 1, 1, 1, 1, 1, 1, 1, 1, 0, 0]
def k89_26 : Code := .cond (.tmp 58) k89_63 k89_64
def k89_65 := cp kc89 [1, 1, 1, 1, 1, 1, 1, 1, 1, 1, 0]
def k89_15 : Code := .seq k89_66 k89_16
def k89_50 := cp kc89 [1, 1, 1, 1, 0, 1, 0, 0, 1, 0]
def k89_35 : Code := .cond (.tmp 35) k89_36 k89_51
def k89_11 : Code := .seq k89_60 k89_12
def k89_59 := cp kc89 [1, 1, 1, 1, 1, 1, 1, 0, 1, 1]
def k89_25 : Code := .seq k89_62 k89_26
def k89_14 : Code := .seq k89_65 k89_15
def k89_49 := cp kc89 [1, 1, 1, 1, 0, 1, 0, 0, 0]
def k89_34 : Code := .seq k89_50 k89_35
def k89_56 := cp kc89 [1, 1, 1, 1, 1, 1, 0, 1, 0]
def k89_57 := cp kc89 [1, 1, 1, 1, 1, 1, 0, 1, 1]
def k89_58 := cp kc89 [1, 1, 1, 1, 1, 1, 1, 0, 0]
def k89_10 : Code := .cond (.tmp 51) k89_11 k89_59
def k89_61 := cp kc89 [1, 1, 1, 1, 1, 1, 1, 1, 0]
def k89_13 : Code := .seq k89_25 k89_14
def k89_33 : Code := .seq k89_49 k89_34
def k89_32 := cp kc89 [1, 1, 1, 1, 0, 1, 0, 1]
def k89_55 := cp kc89 [1, 1, 1, 1, 1, 1, 0, 0]
def k89_28 : Code := .cond (.tmp 47) k89_56 k89_57
def k89_9 : Code := .seq k89_58 k89_10
def k89_8 : Code := .seq k89_61 k89_13
def k89_31 : Code := .seq k89_33 k89_32
def k89_48 := cp kc89 [1, 1, 1, 1, 0, 1, 1]
def k89_27 : Code := .seq k89_55 k89_28
def k89_7 : Code := .seq k89_9 k89_8
def k89_47 := cp kc89 [1, 1, 1, 1, 0, 0]
def k89_30 : Code := .cond (.tmp 25) k89_31 k89_48
def k89_54 := cp kc89 [1, 1, 1, 1, 1, 0]
def k89_6 : Code := .seq k89_27 k89_7
def k89_29 : Code := .seq k89_47 k89_30
def k89_5 : Code := .seq k89_54 k89_6
def k89_43 := cp kc89 [1, 0, 1, 0]
def k89_44 := cp kc89 [1, 0, 1, 1]
def k89_46 := cp kc89 [1, 1, 1, 0]
def k89_4 : Code := .seq k89_29 k89_5
def k89_42 := cp kc89 [1, 0, 0]
def k89_40 : Code := .cond (.tmp 14) k89_43 k89_44
def k89_45 := cp kc89 [1, 1, 0]
def k89_3 : Code := .seq k89_46 k89_4
def k89_39 : Code := .seq k89_42 k89_40
def k89_2 : Code := .seq k89_45 k89_3
def k89_41 := cp kc89 [0]
def k89_1 : Code := .seq k89_39 k89_2
def k89_0 : Code := .seq k89_41 k89_1
def p89_19 (cf : CallF) (lf : Nat) (s8 : Value) (s9 : Value) (h : Heap) : Ans :=
 bindO (loadA E 49 s9 h) fun t79 =>
 bindR (skipR (storeA E 49 s8 t79 h)) (fun v h => some (.panic v, h)) fun _ h =>
 bindO (loadA E 49 s8 h) fun tr8 =>
 some (.ret tr8, h)
theorem p89_19_ok (cf : CallF) (lf : Nat) (T : Tmps) (h : Heap) : execK E cf lf 80 k89_19 T h (finK E [.cell 8 49]) = p89_19 cf lf (T 8) (T 9) h := by kernel_rfl
def p89_17 (cf : CallF) (lf : Nat) (s0 : Value) (s1 : Value) (s3 : Value) (s8 : Value) (s9 : Value) (s12 : Value) (h : Heap) : Ans :=
 bindO (binA E 3 .add s3 (.int .i64 (1))) fun t71 =>
 bindR (cf 49 [s0, s12, t71] h) (fun v h => some (.panic v, h)) fun t72 h =>
 bindO (fieldAddrA E 49 s9 4) fun t73 =>
 bindR (skipR (storeA E 37 t73 t72 h)) (fun v h => some (.panic v, h)) fun _ h =>
 bindR (cf 23 [s0, (.string (mkS [125]))] h) (fun v h => some (.panic v, h)) fun t75 h =>
 bindO (unA .not t75) fun t76 =>
 condV t76 (
  bindR (cf 25 [(.int .i64 (19)), s1] h) (fun v h => some (.panic v, h)) fun t78 h =>
  p89_19 cf lf s8 s9 h
 ) (
  p89_19 cf lf s8 s9 h
 )
theorem p89_17_ok (cf : CallF) (lf : Nat) (T : Tmps) (h : Heap) : execK E cf lf 80 k89_17 T h (finK E [.cell 8 49]) = p89_17 cf lf (T 0) (T 1) (T 3) (T 8) (T 9) (T 12) h := by simp only [k89_17, k89_18, k89_21, k89_22, execK_all, p89_19_ok]; delta p89_17; generalize p89_19 = G0; as_aux_lemma => kernel_rfl
def p89_14 (cf : CallF) (lf : Nat) (s0 : Value) (s1 : Value) (s2 : Value) (s3 : Value) (s8 : Value) (s9 : Value) (s11 : Value) (h : Heap) : Ans :=
 bindR (cf 99 [] h) (fun v h => some (.panic v, h)) fun t61 h =>
 bindO (indexAddrA E 40 t61 s11) fun t63 =>
 bindO (loadA E 9 t63 h) fun t64 =>
 bindO (fieldAddrA E 49 s9 2) fun t65 =>
 bindR (skipR (storeA E 9 t65 t64 h)) (fun v h => some (.panic v, h)) fun _ h =>
 bindR (cf 68 [s2] h) (fun v h => some (.panic v, h)) fun t67 h =>
 condV t67 (
  p89_17 cf lf s0 s1 s3 s8 s9 (.int .i64 (4)) h
 ) (
  p89_17 cf lf s0 s1 s3 s8 s9 (.int .i64 (3)) h
 )
theorem p89_14_ok (cf : CallF) (lf : Nat) (T : Tmps) (h : Heap) : execK E cf lf 80 k89_14 T h (finK E [.cell 8 49]) = p89_14 cf lf (T 0) (T 1) (T 2) (T 3) (T 8) (T 9) (T 11) h := by simp only [k89_14, k89_15, k89_16, k89_23, k89_24, execK_all, p89_17_ok]; delta p89_14; generalize p89_17 = G0; as_aux_lemma => kernel_rfl
def p89_7 (cf : CallF) (lf : Nat) (s0 : Value) (s1 : Value) (s2 : Value) (s3 : Value) (s8 : Value) (s9 : Value) (h : Heap) : Ans :=
 bindR (cf 23 [s0, (.string (mkS [125]))] h) (fun v h => some (.panic v, h)) fun t51 h =>
 condV t51 (
  bindO (loadA E 49 s9 h) fun t52 =>
  bindR (skipR (storeA E 49 s8 t52 h)) (fun v h => some (.panic v, h)) fun _ h =>
  bindO (loadA E 49 s8 h) fun tr8 =>
  some (.ret tr8, h)
 ) (
  bindR (cf 99 [] h) (fun v h => some (.panic v, h)) fun t53 h =>
  bindR (cf 67 [t53, (.func (.func 23) ⟨[s0]⟩ ⟨[]⟩)] h) (fun v h => some (.panic v, h)) fun t56 h =>
  bindO (binA E 3 .lss t56 (.int .i64 (0))) fun t58 =>
  condV t58 (
   bindR (cf 25 [(.int .i64 (19)), s1] h) (fun v h => some (.panic v, h)) fun t60 h =>
   p89_14 cf lf s0 s1 s2 s3 s8 s9 t56 h
  ) (
   p89_14 cf lf s0 s1 s2 s3 s8 s9 t56 h
  )
 )
theorem p89_7_ok (cf : CallF) (lf : Nat) (T : Tmps) (h : Heap) : execK E cf lf 80 k89_7 T h (finK E [.cell 8 49]) = p89_7 cf lf (T 0) (T 1) (T 2) (T 3) (T 8) (T 9) h := by simp only [k89_10, k89_11, k89_13, k89_25, k89_26, k89_7, k89_8, k89_9, execK_all, p89_14_ok]; delta p89_7; generalize p89_14 = G0; as_aux_lemma => kernel_rfl
def p89_5 (cf : CallF) (lf : Nat) (s0 : Value) (s1 : Value) (s2 : Value) (s3 : Value) (s8 : Value) (s9 : Value) (h : Heap) : Ans :=
 bindR (cf 90 [s0, (.string (mkS [63, 35, 64, 42]))] h) (fun v h => some (.panic v, h)) fun t43 h =>
 bindO (fieldAddrA E 49 s9 1) fun t44 =>
 bindR (skipR (storeA E 9 t44 t43 h)) (fun v h => some (.panic v, h)) fun _ h =>
 bindO (fieldAddrA E 49 s9 1) fun t45 =>
 bindO (loadA E 9 t45 h) fun t46 =>
 bindO (binA E 9 .eql t46 (.string (mkS []))) fun t47 =>
 condV t47 (
  bindR (cf 25 [(.int .i64 (19)), s1] h) (fun v h => some (.panic v, h)) fun t49 h =>
  p89_7 cf lf s0 s1 s2 s3 s8 s9 h
 ) (
  p89_7 cf lf s0 s1 s2 s3 s8 s9 h
 )
theorem p89_5_ok (cf : CallF) (lf : Nat) (T : Tmps) (h : Heap) : execK E cf lf 80 k89_5 T h (finK E [.cell 8 49]) = p89_5 cf lf (T 0) (T 1) (T 2) (T 3) (T 8) (T 9) h := by simp only [k89_27, k89_28, k89_5, k89_6, execK_all, p89_7_ok]; delta p89_5; generalize p89_7 = G0; as_aux_lemma => kernel_rfl
def p89_30 (cf : CallF) (lf : Nat) (s0 : Value) (s1 : Value) (s2 : Value) (s3 : Value) (s8 : Value) (s9 : Value) (s10 : Value) (s25 : Value) (h : Heap) : Ans :=
 condV s25 (
  bindR (cf 90 [s0, (.string (mkS [63, 64, 42]))] h) (fun v h => some (.panic v, h)) fun t27 h =>
  bindO (fieldAddrA E 49 s9 1) fun t28 =>
  bindR (skipR (storeA E 9 t28 t27 h)) (fun v h => some (.panic v, h)) fun _ h =>
  bindO (fieldAddrA E 49 s9 1) fun t29 =>
  bindO (loadA E 9 t29 h) fun t30 =>
  bindO (binA E 9 .neq t30 (.string (mkS []))) fun t31 =>
  bindO (gO (boolIs true t31) (some s0)) fun t33 =>
  bindR (gR (boolIs true t31) (cf 23 [t33, (.string (mkS [125]))] h) h) (fun v h => some (.panic v, h)) fun t34 h =>
  bindO (pickA t31 t34 (.bool false)) fun t35 =>
  condV t35 (
   bindO (fieldAddrA E 49 s9 2) fun t36 =>
   bindR (skipR (storeA E 9 t36 (.string (mkS [108, 101, 110])) h)) (fun v h => some (.panic v, h)) fun _ h =>
   bindO (loadA E 49 s9 h) fun t37 =>
   bindR (skipR (storeA E 49 s8 t37 h)) (fun v h => some (.panic v, h)) fun _ h =>
   bindO (loadA E 49 s8 h) fun tr8 =>
   some (.ret tr8, h)
  ) (
   bindO (nilA s0) fun t40 =>
   bindO (fieldAddrA E 57 t40 1) fun t41 =>
   bindR (skipR (storeA E 3 t41 s10 h)) (fun v h => some (.panic v, h)) fun _ h =>
   p89_5 cf lf s0 s1 s2 s3 s8 s9 h
  )
 ) (
  p89_5 cf lf s0 s1 s2 s3 s8 s9 h
 )
theorem p89_30_ok (cf : CallF) (lf : Nat) (T : Tmps) (h : Heap) : execK E cf lf 80 k89_30 T h (seqK (fun T h => p89_5 cf lf (T 0) (T 1) (T 2) (T 3) (T 8) (T 9) h) (finK E [.cell 8 49])) = p89_30 cf lf (T 0) (T 1) (T 2) (T 3) (T 8) (T 9) (T 10) (T 25) h := by kernel_rfl
def p89_2 (cf : CallF) (lf : Nat) (s0 : Value) (s1 : Value) (s2 : Value) (s3 : Value) (s8 : Value) (h : Heap) : Ans :=
 bindR (cf 68 [s2] h) (fun v h => some (.panic v, h)) fun t18 h =>
 bindO (buildA E 49 [(0, (.int .i64 (2))), (3, t18)]) fun t19 =>
 bindR (valR (allocA E 49 h)) (fun v h => some (.panic v, h)) fun t9 h =>
 bindR (skipR (storeA E 49 t9 t19 h)) (fun v h => some (.panic v, h)) fun _ h =>
 bindO (nilA s0) fun t21 =>
 bindO (fieldAddrA E 57 t21 1) fun t22 =>
 bindO (loadA E 3 t22 h) fun t23 =>
 bindR (cf 23 [s0, (.string (mkS [35]))] h) (fun v h => some (.panic v, h)) fun t25 h =>
 p89_30 cf lf s0 s1 s2 s3 s8 t9 t23 t25 h
theorem p89_2_ok (cf : CallF) (lf : Nat) (T : Tmps) (h : Heap) : execK E cf lf 80 k89_2 T h (finK E [.cell 8 49]) = p89_2 cf lf (T 0) (T 1) (T 2) (T 3) (T 8) h := by simp only [k89_2, k89_29, k89_3, k89_4, execK_all, p89_30_ok, p89_5_ok]; delta p89_2; generalize p89_30 = G0; generalize p89_5 = G1; as_aux_lemma => kernel_rfl
def p89_0 (cf : CallF) (lf : Nat) (s0 : Value) (s1 : Value) (s2 : Value) (s3 : Value) (h : Heap) : Ans :=
 bindR (valR (allocA E 49 h)) (fun v h => some (.panic v, h)) fun t8 h =>
 bindO (binA E 3 .geq s3 (.int .i64 (20))) fun t14 =>
 condV t14 (
  bindR (cf 25 [(.int .i64 (3)), s1] h) (fun v h => some (.panic v, h)) fun t16 h =>
  p89_2 cf lf s0 s1 s2 s3 t8 h
 ) (
  p89_2 cf lf s0 s1 s2 s3 t8 h
 )
theorem p89_0_ok (cf : CallF) (lf : Nat) (T : Tmps) (h : Heap) : execK E cf lf 80 k89_0 T h (finK E [.cell 8 49]) = p89_0 cf lf (T 0) (T 1) (T 2) (T 3) h := by simp only [k89_0, k89_1, k89_39, k89_40, execK_all, p89_2_ok]; delta p89_0; generalize p89_2 = G0; as_aux_lemma => kernel_rfl
def f89 (cf : CallF) (lf : Nat) (a0 : Value) (a1 : Value) (a2 : Value) (a3 : Value) (h : Heap) : Ans := p89_0 cf lf a0 a1 a2 a3 h
theorem f89_ok (cf : CallF) (lf : Nat) (a0 a1 a2 a3 : Value) (h : Heap) : stepN E cf lf 89 [a0, a1, a2, a3] h = f89 cf lf a0 a1 a2 a3 h := (show stepN E cf lf 89 [a0, a1, a2, a3] h = execK E cf lf 80 k89_0 (T0 [a0, a1, a2, a3]) h (finK E [.cell 8 49]) by kernel_rfl).trans ((p89_0_ok cf lf (T0 [a0, a1, a2, a3]) h).trans (by kernel_rfl))
noncomputable def kc90 := codeOf Tryd.f90
def k90_20 := cp kc90 [1, 1, 1, 0, 0, 0, 0, 1, 0]
def k90_21 := cp kc90 [1, 1, 1, 0, 0, 0, 0, 1, 1]
def k90_19 := cp kc90 [1, 1, 1, 0, 0, 0, 0, 0]
def k90_15 : Code := .cond (.tmp 35) k90_20 k90_21
def k90_22 := cp kc90 [1, 1, 1, 0, 0, 0, 1, 0]
def k90_14 : Code := .seq k90_19 k90_15
def k90_13 : Code := .block 1 k90_22
def k90_24 := cp kc90 [1, 1, 1, 1, 0, 1, 0]
def k90_25 := cp kc90 [1, 1, 1, 1, 0, 1, 1]
def k90_27 := cp kc90 [1, 1, 1, 1, 1, 1, 0]
def k90_7 := cp kc90 [1, 1, 1, 1, 1, 1, 1]
def k90_12 : Code := .seq k90_14 k90_13
def k90_23 := cp kc90 [1, 1, 1, 1, 0, 0]
def k90_9 : Code := .cond (.tmp 55) k90_24 k90_25
def k90_26 := cp kc90 [1, 1, 1, 1, 1, 0]
def k90_6 : Code := .seq k90_27 k90_7
def k90_11 : Code := .loop k90_12
def k90_8 : Code := .seq k90_23 k90_9
def k90_5 : Code := .seq k90_26 k90_6
def k90_10 : Code := .block 0 k90_11
def k90_4 : Code := .seq k90_8 k90_5
def k90_18 := cp kc90 [1, 1, 0]
def k90_3 : Code := .seq k90_10 k90_4
def k90_17 := cp kc90 [1, 0]
def k90_2 : Code := .seq k90_18 k90_3
def k90_16 := cp kc90 [0]
def k90_1 : Code := .seq k90_17 k90_2
def k90_0 : Code := .seq k90_16 k90_1
def p90_5 (cf : CallF) (lf : Nat) (s0 : Value) (s5 : Value) (s6 : Value) (h : Heap) : Ans :=
 bindO (nilA s0) fun t57 =>
 bindO (fieldAddrA E 57 t57 1) fun t58 =>
 bindO (loadA E 3 t58 h) fun t59 =>
 bindO (binB E 3 .add t59 s6) fun t61 =>
 bindO (nilA s0) fun t62 =>
 bindO (fieldAddrA E 57 t62 1) fun t63 =>
 bindR (skipR (storeA E 3 t63 t61 h)) (fun v h => some (.panic v, h)) fun _ h =>
 bindO (sliceA E 9 s5 none (some s6) h) fun t66 =>
 some (.ret t66, h)
theorem p90_5_ok (cf : CallF) (lf : Nat) (T : Tmps) (h : Heap) : execK E cf lf 67 k90_5 T h (finK E [.tmp 4]) = p90_5 cf lf (T 0) (T 5) (T 6) h := by kernel_rfl
def p90_9 (cf : CallF) (lf : Nat) (s0 : Value) (s5 : Value) (s6 : Value) (s55 : Value) (h : Heap) : Ans :=
 condV s55 (
  p90_5 cf lf s0 s5 (.int .i64 (1)) h
 ) (
  p90_5 cf lf s0 s5 s6 h
 )
theorem p90_9_ok (cf : CallF) (lf : Nat) (T : Tmps) (h : Heap) : execK E cf lf 67 k90_9 T h (seqK (fun T h => p90_5 cf lf (T 0) (T 5) (T 6) h) (finK E [.tmp 4])) = p90_9 cf lf (T 0) (T 5) (T 6) (T 55) h := by kernel_rfl
def p90_4 (cf : CallF) (lf : Nat) (s0 : Value) (s1 : Value) (s5 : Value) (s6 : Value) (h : Heap) : Ans :=
 bindO (binA E 3 .eql s6 (.int .i64 (0))) fun t39 =>
 bindO (gO (boolIs true t39) (some s5)) fun t41 =>
 bindO (gO (boolIs true t39) (binA E 9 .neq t41 (.string (mkS [])))) fun t42 =>
 bindO (pickA t39 t42 (.bool false)) fun t43 =>
 bindO (gO (boolIs true t43) (some s5)) fun t45 =>
 bindO (gO (boolIs true t43) (indexA E 9 t45 (.int .i64 (0)))) fun t46 =>
 bindR (gR (boolIs true t43) (cf 101 [t46] h) h) (fun v h => some (.panic v, h)) fun t47 h =>
 bindO (gO (boolIs true t43) (some t47)) fun t48 =>
 bindO (gO (boolIs false t48) (some s1)) fun t49 =>
 bindO (gO (boolIs false t48) (some s5)) fun t50 =>
 bindO (gO (boolIs false t48) (indexA E 9 t50 (.int .i64 (0)))) fun t51 =>
 bindR (gR (boolIs false t48) (cf 73 [t49, t51] h) h) (fun v h => some (.panic v, h)) fun t52 h =>
 bindO (gO (boolIs false t48) (binA E 3 .geq t52 (.int .i64 (0)))) fun t53 =>
 bindO (gO (boolIs true t43) (pickA t48 (.bool true) t53)) fun t54 =>
 bindO (pickA t43 t54 (.bool false)) fun t55 =>
 p90_9 cf lf s0 s5 s6 t55 h
theorem p90_4_ok (cf : CallF) (lf : Nat) (T : Tmps) (h : Heap) : execK E cf lf 67 k90_4 T h (finK E [.tmp 4]) = p90_4 cf lf (T 0) (T 1) (T 5) (T 6) h := by simp only [k90_4, k90_8, execK_all, p90_5_ok, p90_9_ok]; delta p90_4; generalize p90_5 = G0; generalize p90_9 = G1; as_aux_lemma => kernel_rfl
def p90_15 (cf : CallF) (lf : Nat) (F11 : Value → Value → Value → Value → Heap → Ans) (s0 : Value) (s1 : Value) (s5 : Value) (s6 : Value) (s35 : Value) (h : Heap) : Ans :=
 condV s35 (
  bindO (binA E 3 .add s6 (.int .i64 (1))) fun t37 =>
  F11 s0 s1 s5 t37 h
 ) (
  p90_4 cf lf s0 s1 s5 s6 h
 )
theorem p90_15_ok (cf : CallF) (lf : Nat) (F11 : Value → Value → Value → Value → Heap → Ans) (T : Tmps) (h : Heap) : execK E cf lf 67 k90_15 T h (seqK (fun T h => execK E cf lf 67 k90_13 T h (seqK (fun T h => F11 (T 0) (T 1) (T 5) (T 6) h) (blockK 0 (seqK (fun T h => p90_4 cf lf (T 0) (T 1) (T 5) (T 6) h) (finK E [.tmp 4]))))) (seqK (fun T h => F11 (T 0) (T 1) (T 5) (T 6) h) (blockK 0 (seqK (fun T h => p90_4 cf lf (T 0) (T 1) (T 5) (T 6) h) (finK E [.tmp 4]))))) = p90_15 cf lf F11 (T 0) (T 1) (T 5) (T 6) (T 35) h := by kernel_rfl
def p90_12 (cf : CallF) (lf : Nat) (F11 : Value → Value → Value → Value → Heap → Ans) (s0 : Value) (s1 : Value) (s5 : Value) (s6 : Value) (h : Heap) : Ans :=
 bindO (lenA E 9 s5) fun t18 =>
 bindO (binB E 3 .lss s6 t18) fun t19 =>
 bindO (gO (boolIs true t19) (some s5)) fun t21 =>
 bindO (gO (boolIs true t19) (some s6)) fun t22 =>
 bindO (gO (boolIs true t19) (indexA E 9 t21 t22)) fun t23 =>
 bindR (gR (boolIs true t19) (cf 100 [t23] h) h) (fun v h => some (.panic v, h)) fun t24 h =>
 bindO (gO (boolIs true t19) (some t24)) fun t25 =>
 bindO (gO (boolIs false t25) (some s6)) fun t26 =>
 bindO (gO (boolIs false t25) (binA E 3 .gtr t26 (.int .i64 (0)))) fun t27 =>
 bindO (gO (boolIs false t25) (some t27)) fun t28 =>
 bindO (gO (boolIs true t28) (some s5)) fun t29 =>
 bindO (gO (boolIs true t28) (some s6)) fun t30 =>
 bindO (gO (boolIs true t28) (indexA E 9 t29 t30)) fun t31 =>
 bindR (gR (boolIs true t28) (cf 101 [t31] h) h) (fun v h => some (.panic v, h)) fun t32 h =>
 bindO (gO (boolIs false t25) (pickA t28 t32 (.bool false))) fun t33 =>
 bindO (gO (boolIs true t19) (pickA t25 (.bool true) t33)) fun t34 =>
 bindO (pickA t19 t34 (.bool false)) fun t35 =>
 p90_15 cf lf F11 s0 s1 s5 s6 t35 h
theorem p90_12_ok (cf : CallF) (lf : Nat) (F11 : Value → Value → Value → Value → Heap → Ans) (T : Tmps) (h : Heap) : execK E cf lf 67 k90_12 T h (seqK (fun T h => F11 (T 0) (T 1) (T 5) (T 6) h) (blockK 0 (seqK (fun T h => p90_4 cf lf (T 0) (T 1) (T 5) (T 6) h) (finK E [.tmp 4])))) = p90_12 cf lf F11 (T 0) (T 1) (T 5) (T 6) h := by simp only [k90_12, k90_14, execK_all, p90_15_ok]; delta p90_12; generalize p90_15 = G0; as_aux_lemma => kernel_rfl
def l90_11 (cf : CallF) (lf : Nat) : Nat → Value → Value → Value → Value → Heap → Ans
 | 0, _, _, _, _, _ => none
 | n + 1, s0, s1, s5, s6, h => p90_12 cf lf (l90_11 cf lf n) s0 s1 s5 s6 h
theorem l90_11_ok (cf : CallF) (lf : Nat) (n : Nat) : ∀ (T : Tmps) (h : Heap), iterK (fun T h K => execK E cf lf 67 k90_12 T h K) (blockK 0 (seqK (fun T h => p90_4 cf lf (T 0) (T 1) (T 5) (T 6) h) (finK E [.tmp 4]))) n T h = l90_11 cf lf n (T 0) (T 1) (T 5) (T 6) h := by
 induction n with
 | zero => intro T h; rfl
 | succ n ih =>
  intro T h
  rw [iterK_succ, show iterK (fun T h K => execK E cf lf 67 k90_12 T h K) (blockK 0 (seqK (fun T h => p90_4 cf lf (T 0) (T 1) (T 5) (T 6) h) (finK E [.tmp 4]))) n = (fun T h => l90_11 cf lf n (T 0) (T 1) (T 5) (T 6) h) from funext fun T => funext fun h => ih T h]
  exact p90_12_ok cf lf (l90_11 cf lf n) T h
def p90_0 (cf : CallF) (lf : Nat) (s0 : Value) (s1 : Value) (h : Heap) : Ans :=
 bindO (nilA s0) fun t8 =>
 bindO (fieldAddrA E 57 t8 0) fun t9 =>
 bindO (loadA E 9 t9 h) fun t10 =>
 bindO (nilA s0) fun t12 =>
 bindO (fieldAddrA E 57 t12 1) fun t13 =>
 bindO (loadA E 3 t13 h) fun t14 =>
 bindO (sliceA E 9 t10 (some t14) none h) fun t15 =>
 l90_11 cf lf lf s0 s1 t15 (.int .i64 (0)) h
theorem p90_0_ok (cf : CallF) (lf : Nat) (T : Tmps) (h : Heap) : execK E cf lf 67 k90_0 T h (finK E [.tmp 4]) = p90_0 cf lf (T 0) (T 1) h := by simp only [k90_0, k90_1, k90_10, k90_11, k90_2, k90_3, execK_all, l90_11_ok, p90_4_ok]; delta p90_0; generalize l90_11 = G0; generalize p90_4 = G1; as_aux_lemma => kernel_rfl
def f90 (cf : CallF) (lf : Nat) (a0 : Value) (a1 : Value) (h : Heap) : Ans := p90_0 cf lf a0 a1 h
theorem f90_ok (cf : CallF) (lf : Nat) (a0 a1 : Value) (h : Heap) : stepN E cf lf 90 [a0, a1] h = f90 cf lf a0 a1 h := (show stepN E cf lf 90 [a0, a1] h = execK E cf lf 67 k90_0 (T0 [a0, a1]) h (finK E [.tmp 4]) by kernel_rfl).trans ((p90_0_ok cf lf (T0 [a0, a1]) h).trans (by kernel_rfl))
noncomputable def kc91 := codeOf Tryd.f91
def k91_39 := cp kc91 [1, 0, 0, 0, 1, 0, 0, 0, 1, 1, 1, 1, 1, 0, 1, 1, 0, 0]
def k91_25 := cp kc91 [1, 0, 0, 0, 1, 0, 0, 0, 1, 1, 1, 1, 1, 0, 1, 1, 0, 1]
def k91_24 : Code := .seq k91_39 k91_25
def k91_38 := cp kc91 [1, 0, 0, 0, 1, 0, 0, 0, 1, 1, 1, 1, 1, 0, 1, 1, 1]
def k91_37 := cp kc91 [1, 0, 0, 0, 1, 0, 0, 0, 1, 1, 1, 1, 1, 0, 1, 0]
def k91_23 : Code := .cond (.tmp 31) k91_24 k91_38
def k91_36 := cp kc91 [1, 0, 0, 0, 1, 0, 0, 0, 1, 1, 1, 1, 1, 0, 0]
def k91_22 : Code := .seq k91_37 k91_23
def k91_21 : Code := .seq k91_36 k91_22
def k91_35 := cp kc91 [1, 0, 0, 0, 1, 0, 0, 0, 1, 1, 1, 1, 1, 1]
def k91_33 := cp kc91 [1, 0, 0, 0, 1, 0, 0, 0, 1, 1, 1, 0, 0]
def k91_18 := cp kc91 [1, 0, 0, 0, 1, 0, 0, 0, 1, 1, 1, 0, 1]
def k91_34 := cp kc91 [1, 0, 0, 0, 1, 0, 0, 0, 1, 1, 1, 1, 0]
def k91_20 : Code := .cond (.tmp 22) k91_21 k91_35
def k91_17 : Code := .seq k91_33 k91_18
def k91_19 : Code := .seq k91_34 k91_20
def k91_32 := cp kc91 [1, 0, 0, 0, 1, 0, 0, 0, 1, 1, 0]
def k91_16 : Code := .cond (.tmp 16) k91_17 k91_19
def k91_31 := cp kc91 [1, 0, 0, 0, 1, 0, 0, 0, 1, 0]
def k91_15 : Code := .seq k91_32 k91_16
def k91_30 := cp kc91 [1, 0, 0, 0, 1, 0, 0, 0, 0]
def k91_14 : Code := .cond (.tmp 9) k91_31 k91_15
def k91_13 : Code := .seq k91_30 k91_14
def k91_28 := cp kc91 [1, 0, 0, 0, 0, 1, 0]
def k91_29 := cp kc91 [1, 0, 0, 0, 0, 1, 1]
def k91_12 : Code := .block 2 k91_13
def k91_11 := cp kc91 [1, 0, 0, 0, 1, 0, 1]
def k91_27 := cp kc91 [1, 0, 0, 0, 0, 0]
def k91_9 : Code := .cond (.tmp 8) k91_28 k91_29
def k91_10 : Code := .seq k91_12 k91_11
def k91_8 : Code := .seq k91_27 k91_9
def k91_7 : Code := .block 1 k91_10
def k91_6 : Code := .seq k91_8 k91_7
def k91_5 : Code := .loop k91_6
def k91_40 := cp kc91 [1, 1, 0]
def k91_3 := cp kc91 [1, 1, 1]
def k91_4 : Code := .block 0 k91_5
def k91_2 : Code := .seq k91_40 k91_3
def k91_26 := cp kc91 [0]
def k91_1 : Code := .seq k91_4 k91_2
def k91_0 : Code := .seq k91_26 k91_1
def p91_2 (cf : CallF) (lf : Nat) (h : Heap) : Ans :=
 some (.ret (.int .i64 (-1)), h)
theorem p91_2_ok (cf : CallF) (lf : Nat) (T : Tmps) (h : Heap) : execK E cf lf 34 k91_2 T h (finK E [.tmp 4]) = p91_2 cf lf h := by kernel_rfl
def p91_11 (cf : CallF) (lf : Nat) (F5 : Value → Value → Heap → Ans) (s0 : Value) (s1 : Value) (h : Heap) : Ans :=
 bindO (binA E 3 .add s1 (.int .i64 (1))) fun t33 =>
 F5 s0 t33 h
theorem p91_11_ok (cf : CallF) (lf : Nat) (F5 : Value → Value → Heap → Ans) (T : Tmps) (h : Heap) : execK E cf lf 34 k91_11 T h (blockK 1 (seqK (fun T h => F5 (T 0) (T 1) h) (blockK 0 (seqK (fun T h => p91_2 cf lf h) (finK E [.tmp 4]))))) = p91_11 cf lf F5 (T 0) (T 1) h := by kernel_rfl
def p91_14 (cf : CallF) (lf : Nat) (F5 : Value → Value → Heap → Ans) (s0 : Value) (s1 : Value) (s9 : Value) (h : Heap) : Ans :=
 condV s9 (
  bindO (binA E 3 .add s1 (.int .i64 (1))) fun t15 =>
  p91_11 cf lf F5 s0 t15 h
 ) (
  bindO (indexA E 9 s0 s1) fun t19 =>
  bindO (binA E 5 .eql t19 (.int .u8 (34))) fun t20 =>
  condV t20 (
   some (.ret s1, h)
  ) (
   bindR (cf 26 [s0, s1, (.string (mkS [36, 40]))] h) (fun v h => some (.panic v, h)) fun t25 h =>
   condV t25 (
    bindO (binA E 3 .add s1 (.int .i64 (2))) fun t28 =>
    bindR (cf 76 [s0, t28] h) (fun v h => some (.panic v, h)) fun t29 h =>
    bindO (binA E 3 .lss t29 (.int .i64 (0))) fun t31 =>
    condV t31 (
     some (.ret (.int .i64 (-1)), h)
    ) (
     p91_11 cf lf F5 s0 t29 h
    )
   ) (
    p91_11 cf lf F5 s0 s1 h
   )
  )
 )
theorem p91_14_ok (cf : CallF) (lf : Nat) (F5 : Value → Value → Heap → Ans) (T : Tmps) (h : Heap) : execK E cf lf 34 k91_14 T h (blockK 2 (seqK (fun T h => p91_11 cf lf F5 (T 0) (T 1) h) (blockK 1 (seqK (fun T h => F5 (T 0) (T 1) h) (blockK 0 (seqK (fun T h => p91_2 cf lf h) (finK E [.tmp 4]))))))) = p91_14 cf lf F5 (T 0) (T 1) (T 9) h := by kernel_rfl
def p91_6 (cf : CallF) (lf : Nat) (F5 : Value → Value → Heap → Ans) (s0 : Value) (s1 : Value) (h : Heap) : Ans :=
 bindO (lenA E 9 s0) fun t7 =>
 bindO (binB E 3 .lss s1 t7) fun t8 =>
 condV t8 (
  bindO (indexA E 9 s0 s1) fun t12 =>
  bindO (binA E 5 .eql t12 (.int .u8 (92))) fun t13 =>
  p91_14 cf lf F5 s0 s1 t13 h
 ) (
  p91_2 cf lf h
 )
theorem p91_6_ok (cf : CallF) (lf : Nat) (F5 : Value → Value → Heap → Ans) (T : Tmps) (h : Heap) : execK E cf lf 34 k91_6 T h (seqK (fun T h => F5 (T 0) (T 1) h) (blockK 0 (seqK (fun T h => p91_2 cf lf h) (finK E [.tmp 4])))) = p91_6 cf lf F5 (T 0) (T 1) h := by simp only [k91_10, k91_12, k91_13, k91_6, k91_7, k91_8, k91_9, execK_all, p91_11_ok, p91_14_ok]; delta p91_6; generalize p91_11 = G0; generalize p91_14 = G1; as_aux_lemma => kernel_rfl
def l91_5 (cf : CallF) (lf : Nat) : Nat → Value → Value → Heap → Ans
 | 0, _, _, _ => none
 | n + 1, s0, s1, h => p91_6 cf lf (l91_5 cf lf n) s0 s1 h
theorem l91_5_ok (cf : CallF) (lf : Nat) (n : Nat) : ∀ (T : Tmps) (h : Heap), iterK (fun T h K => execK E cf lf 34 k91_6 T h K) (blockK 0 (seqK (fun T h => p91_2 cf lf h) (finK E [.tmp 4]))) n T h = l91_5 cf lf n (T 0) (T 1) h := by
 induction n with
 | zero => intro T h; rfl
 | succ n ih =>
  intro T h
  rw [iterK_succ, show iterK (fun T h K => execK E cf lf 34 k91_6 T h K) (blockK 0 (seqK (fun T h => p91_2 cf lf h) (finK E [.tmp 4]))) n = (fun T h => l91_5 cf lf n (T 0) (T 1) h) from funext fun T => funext fun h => ih T h]
  exact p91_6_ok cf lf (l91_5 cf lf n) T h
def p91_0 (cf : CallF) (lf : Nat) (s0 : Value) (s1 : Value) (h : Heap) : Ans :=
 l91_5 cf lf lf s0 s1 h
theorem p91_0_ok (cf : CallF) (lf : Nat) (T : Tmps) (h : Heap) : execK E cf lf 34 k91_0 T h (finK E [.tmp 4]) = p91_0 cf lf (T 0) (T 1) h := by simp only [k91_0, k91_1, k91_4, k91_5, execK_all, l91_5_ok, p91_2_ok]; delta p91_0; generalize l91_5 = G0; generalize p91_2 = G1; as_aux_lemma => kernel_rfl
def f91 (cf : CallF) (lf : Nat) (a0 : Value) (a1 : Value) (h : Heap) : Ans := p91_0 cf lf a0 a1 h
theorem f91_ok (cf : CallF) (lf : Nat) (a0 a1 : Value) (h : Heap) : stepN E cf lf 91 [a0, a1] h = f91 cf lf a0 a1 h := (show stepN E cf lf 91 [a0, a1] h = execK E cf lf 34 k91_0 (T0 [a0, a1]) h (finK E [.tmp 4]) by kernel_rfl).trans ((p91_0_ok cf lf (T0 [a0, a1]) h).trans (by kernel_rfl))
noncomputable def kc92 := codeOf Tryd.f92
def k92_14 := cp kc92 [1, 1, 0, 0, 0, 0, 1, 0]
def k92_15 := cp kc92 [1, 1, 0, 0, 0, 0, 1, 1]
def k92_13 := cp kc92 [1, 1, 0, 0, 0, 0, 0]
def k92_10 : Code := .cond (.tmp 31) k92_14 k92_15
def k92_16 := cp kc92 [1, 1, 0, 0, 0, 1, 0]
def k92_9 : Code := .seq k92_13 k92_10
def k92_8 : Code := .block 1 k92_16
def k92_7 : Code := .seq k92_9 k92_8
def k92_6 : Code := .loop k92_7
def k92_17 := cp kc92 [1, 1, 1, 0]
def k92_4 := cp kc92 [1, 1, 1, 1]
def k92_5 : Code := .block 0 k92_6
def k92_3 : Code := .seq k92_17 k92_4
def k92_12 := cp kc92 [1, 0]
def k92_2 : Code := .seq k92_5 k92_3
def k92_11 := cp kc92 [0]
def k92_1 : Code := .seq k92_12 k92_2
def k92_0 : Code := .seq k92_11 k92_1
def p92_3 (cf : CallF) (lf : Nat) (s5 : Value) (h : Heap) : Ans :=
 some (.ret s5, h)
theorem p92_3_ok (cf : CallF) (lf : Nat) (T : Tmps) (h : Heap) : execK E cf lf 35 k92_3 T h (finK E [.tmp 4]) = p92_3 cf lf (T 5) h := by kernel_rfl
def p92_10 (cf : CallF) (lf : Nat) (F6 : Value → Value → Value → Heap → Ans) (s0 : Value) (s1 : Value) (s5 : Value) (s31 : Value) (h : Heap) : Ans :=
 condV s31 (
  bindO (binA E 3 .add s5 (.int .i64 (1))) fun t33 =>
  F6 s0 s1 t33 h
 ) (
  p92_3 cf lf s5 h
 )
theorem p92_10_ok (cf : CallF) (lf : Nat) (F6 : Value → Value → Value → Heap → Ans) (T : Tmps) (h : Heap) : execK E cf lf 35 k92_10 T h (seqK (fun T h => execK E cf lf 35 k92_8 T h (seqK (fun T h => F6 (T 0) (T 1) (T 5) h) (blockK 0 (seqK (fun T h => p92_3 cf lf (T 5) h) (finK E [.tmp 4]))))) (seqK (fun T h => F6 (T 0) (T 1) (T 5) h) (blockK 0 (seqK (fun T h => p92_3 cf lf (T 5) h) (finK E [.tmp 4]))))) = p92_10 cf lf F6 (T 0) (T 1) (T 5) (T 31) h := by kernel_rfl
def p92_7 (cf : CallF) (lf : Nat) (F6 : Value → Value → Value → Heap → Ans) (s0 : Value) (s1 : Value) (s5 : Value) (h : Heap) : Ans :=
 bindO (binB E 3 .add s1 s5) fun t8 =>
 bindO (lenA E 9 s0) fun t10 =>
 bindO (binB E 3 .lss t8 t10) fun t11 =>
 bindO (gO (boolIs true t11) (some s0)) fun t13 =>
 bindO (gO (boolIs true t11) (some s1)) fun t14 =>
 bindO (gO (boolIs true t11) (some s5)) fun t15 =>
 bindO (gO (boolIs true t11) (binB E 3 .add t14 t15)) fun t16 =>
 bindO (gO (boolIs true t11) (indexA E 9 t13 t16)) fun t17 =>
 bindR (gR (boolIs true t11) (cf 102 [t17] h) h) (fun v h => some (.panic v, h)) fun t18 h =>
 bindO (gO (boolIs true t11) (some t18)) fun t19 =>
 bindO (gO (boolIs false t19) (some s5)) fun t20 =>
 bindO (gO (boolIs false t19) (binA E 3 .gtr t20 (.int .i64 (0)))) fun t21 =>
 bindO (gO (boolIs false t19) (some t21)) fun t22 =>
 bindO (gO (boolIs true t22) (some s0)) fun t23 =>
 bindO (gO (boolIs true t22) (some s1)) fun t24 =>
 bindO (gO (boolIs true t22) (some s5)) fun t25 =>
 bindO (gO (boolIs true t22) (binB E 3 .add t24 t25)) fun t26 =>
 bindO (gO (boolIs true t22) (indexA E 9 t23 t26)) fun t27 =>
 bindR (gR (boolIs true t22) (cf 93 [t27] h) h) (fun v h => some (.panic v, h)) fun t28 h =>
 bindO (gO (boolIs false t19) (pickA t22 t28 (.bool false))) fun t29 =>
 bindO (gO (boolIs true t11) (pickA t19 (.bool true) t29)) fun t30 =>
 bindO (pickA t11 t30 (.bool false)) fun t31 =>
 p92_10 cf lf F6 s0 s1 s5 t31 h
theorem p92_7_ok (cf : CallF) (lf : Nat) (F6 : Value → Value → Value → Heap → Ans) (T : Tmps) (h : Heap) : execK E cf lf 35 k92_7 T h (seqK (fun T h => F6 (T 0) (T 1) (T 5) h) (blockK 0 (seqK (fun T h => p92_3 cf lf (T 5) h) (finK E [.tmp 4])))) = p92_7 cf lf F6 (T 0) (T 1) (T 5) h := by simp only [k92_7, k92_9, execK_all, p92_10_ok]; delta p92_7; generalize p92_10 = G0; as_aux_lemma => kernel_rfl
def l92_6 (cf : CallF) (lf : Nat) : Nat → Value → Value → Value → Heap → Ans
 | 0, _, _, _, _ => none
 | n + 1, s0, s1, s5, h => p92_7 cf lf (l92_6 cf lf n) s0 s1 s5 h
theorem l92_6_ok (cf : CallF) (lf : Nat) (n : Nat) : ∀ (T : Tmps) (h : Heap), iterK (fun T h K => execK E cf lf 35 k92_7 T h K) (blockK 0 (seqK (fun T h => p92_3 cf lf (T 5) h) (finK E [.tmp 4]))) n T h = l92_6 cf lf n (T 0) (T 1) (T 5) h := by
 induction n with
 | zero => intro T h; rfl
 | succ n ih =>
  intro T h
  rw [iterK_succ, show iterK (fun T h K => execK E cf lf 35 k92_7 T h K) (blockK 0 (seqK (fun T h => p92_3 cf lf (T 5) h) (finK E [.tmp 4]))) n = (fun T h => l92_6 cf lf n (T 0) (T 1) (T 5) h) from funext fun T => funext fun h => ih T h]
  exact p92_7_ok cf lf (l92_6 cf lf n) T h
def p92_0 (cf : CallF) (lf : Nat) (s0 : Value) (s1 : Value) (h : Heap) : Ans :=
 l92_6 cf lf lf s0 s1 (.int .i64 (0)) h
theorem p92_0_ok (cf : CallF) (lf : Nat) (T : Tmps) (h : Heap) : execK E cf lf 35 k92_0 T h (finK E [.tmp 4]) = p92_0 cf lf (T 0) (T 1) h := by simp only [k92_0, k92_1, k92_2, k92_5, k92_6, execK_all, l92_6_ok, p92_3_ok]; delta p92_0; generalize l92_6 = G0; generalize p92_3 = G1; as_aux_lemma => kernel_rfl
def f92 (cf : CallF) (lf : Nat) (a0 : Value) (a1 : Value) (h : Heap) : Ans := p92_0 cf lf a0 a1 h
theorem f92_ok (cf : CallF) (lf : Nat) (a0 a1 : Value) (h : Heap) : stepN E cf lf 92 [a0, a1] h = f92 cf lf a0 a1 h := (show stepN E cf lf 92 [a0, a1] h = execK E cf lf 35 k92_0 (T0 [a0, a1]) h (finK E [.tmp 4]) by kernel_rfl).trans ((p92_0_ok cf lf (T0 [a0, a1]) h).trans (by kernel_rfl))
def f93 (cf : CallF) (lf : Nat) (a0 : Value) (h : Heap) : Ans :=
 bindO (binA E 5 .geq a0 (.int .u8 (48))) fun t4 =>
 bindO (gO (boolIs true t4) (some a0)) fun t6 =>
 bindO (gO (boolIs true t4) (binA E 5 .leq t6 (.int .u8 (57)))) fun t7 =>
 bindO (pickA t4 t7 (.bool false)) fun t8 =>
 some (.ret t8, h)
theorem f93_ok (cf : CallF) (lf : Nat) (a0 : Value) (h : Heap) : stepN E cf lf 93 [a0] h = f93 cf lf a0 h := by kernel_rfl
def f95 (cf : CallF) (lf : Nat) (a0 : Value) (h : Heap) : Ans :=
 bindO (binA E 3 .add a0 (.int .i64 (16))) fun t4 =>
 bindO (binA E 3 .quo t4 (.int .i64 (8))) fun t5 =>
 some (.ret t5, h)
theorem f95_ok (cf : CallF) (lf : Nat) (a0 : Value) (h : Heap) : stepN E cf lf 95 [a0] h = f95 cf lf a0 h := by kernel_rfl
noncomputable def kc96 := codeOf Tryd.f96
def k96_59 := cp kc96 [1, 1, 1, 1, 1, 1, 0, 1, 0, 0, 1, 0, 1, 1, 1, 1, 1, 0, 0]
def k96_27 := cp kc96 [1, 1, 1, 1, 1, 1, 0, 1, 0, 0, 1, 0, 1, 1, 1, 1, 1, 0, 1]
def k96_26 : Code := .seq k96_59 k96_27
def k96_58 := cp kc96 [1, 1, 1, 1, 1, 1, 0, 1, 0, 0, 1, 0, 1, 1, 1, 1, 1, 1]
def k96_57 := cp kc96 [1, 1, 1, 1, 1, 1, 0, 1, 0, 0, 1, 0, 1, 1, 1, 1, 0]
def k96_25 : Code := .cond (.tmp 77) k96_26 k96_58
def k96_56 := cp kc96 [1, 1, 1, 1, 1, 1, 0, 1, 0, 0, 1, 0, 1, 1, 1, 0]
def k96_24 : Code := .seq k96_57 k96_25
def k96_55 := cp kc96 [1, 1, 1, 1, 1, 1, 0, 1, 0, 0, 1, 0, 1, 1, 0]
def k96_23 : Code := .seq k96_56 k96_24
def k96_54 := cp kc96 [1, 1, 1, 1, 1, 1, 0, 1, 0, 0, 1, 0, 1, 0]
def k96_22 : Code := .seq k96_55 k96_23
def k96_51 := cp kc96 [1, 1, 1, 1, 1, 1, 0, 1, 0, 0, 0, 1, 0]
def k96_52 := cp kc96 [1, 1, 1, 1, 1, 1, 0, 1, 0, 0, 0, 1, 1]
def k96_53 := cp kc96 [1, 1, 1, 1, 1, 1, 0, 1, 0, 0, 1, 0, 0]
def k96_21 : Code := .seq k96_54 k96_22
def k96_50 := cp kc96 [1, 1, 1, 1, 1, 1, 0, 1, 0, 0, 0, 0]
def k96_19 : Code := .cond (.tmp 44) k96_51 k96_52
def k96_20 : Code := .seq k96_53 k96_21
def k96_43 := cp kc96 [1, 1, 1, 1, 0, 1, 0, 0, 0, 1, 0]
def k96_44 := cp kc96 [1, 1, 1, 1, 0, 1, 0, 0, 0, 1, 1]
def k96_45 := cp kc96 [1, 1, 1, 1, 0, 1, 0, 0, 1, 0, 0]
def k96_18 : Code := .seq k96_50 k96_19
def k96_17 : Code := .block 3 k96_20
def k96_42 := cp kc96 [1, 1, 1, 1, 0, 1, 0, 0, 0, 0]
def k96_34 : Code := .cond (.tmp 20) k96_43 k96_44
def k96_36 : Code := .block 1 k96_45
def k96_35 := cp kc96 [1, 1, 1, 1, 0, 1, 0, 0, 1, 1]
def k96_16 : Code := .seq k96_18 k96_17
def k96_33 : Code := .seq k96_42 k96_34
def k96_32 : Code := .seq k96_36 k96_35
def k96_48 := cp kc96 [1, 1, 1, 1, 1, 0, 1, 0, 0]
def k96_10 := cp kc96 [1, 1, 1, 1, 1, 0, 1, 0, 1]
def k96_15 : Code := .loop k96_16
def k96_31 : Code := .seq k96_33 k96_32
def k96_9 : Code := .seq k96_48 k96_10
def k96_47 := cp kc96 [1, 1, 1, 1, 1, 0, 1, 1]
def k96_49 := cp kc96 [1, 1, 1, 1, 1, 1, 0, 0]
def k96_14 : Code := .block 2 k96_15
def k96_60 := cp kc96 [1, 1, 1, 1, 1, 1, 1, 0]
def k96_12 := cp kc96 [1, 1, 1, 1, 1, 1, 1, 1]
def k96_30 : Code := .loop k96_31
def k96_46 := cp kc96 [1, 1, 1, 1, 1, 0, 0]
def k96_8 : Code := .cond (.tmp 39) k96_9 k96_47
def k96_13 : Code := .seq k96_49 k96_14
def k96_11 : Code := .seq k96_60 k96_12
def k96_41 := cp kc96 [1, 1, 1, 1, 0, 0]
def k96_29 : Code := .block 0 k96_30
def k96_7 : Code := .seq k96_46 k96_8
def k96_6 : Code := .seq k96_13 k96_11
def k96_28 : Code := .seq k96_41 k96_29
def k96_5 : Code := .seq k96_7 k96_6
def k96_40 := cp kc96 [1, 1, 1, 0]
def k96_4 : Code := .seq k96_28 k96_5
def k96_39 := cp kc96 [1, 1, 0]
def k96_3 : Code := .seq k96_40 k96_4
def k96_38 := cp kc96 [1, 0]
def k96_2 : Code := .seq k96_39 k96_3
def k96_37 := cp kc96 [0]
def k96_1 : Code := .seq k96_38 k96_2
def k96_0 : Code := .seq k96_37 k96_1
def p96_11 (cf : CallF) (lf : Nat) (h : Heap) : Ans :=
 some (.ret (.int .i64 (-1)), h)
theorem p96_11_ok (cf : CallF) (lf : Nat) (T : Tmps) (h : Heap) : execK E cf lf 81 k96_11 T h (finK E [.tmp 4]) = p96_11 cf lf h := by kernel_rfl
def p96_24 (cf : CallF) (lf : Nat) (F15 : Value → Value → Value → Value → Value → Value → Value → Heap → Ans) (s0 : Value) (s1 : Value) (s5 : Value) (s6 : Value) (s7 : Value) (s8 : Value) (s10 : Value) (h : Heap) : Ans :=
 bindO (binB E 115 .eql s8 s5) fun t67 =>
 bindO (gO (boolIs true t67) (some s0)) fun t69 =>
 bindO (gO (boolIs true t67) (some s10)) fun t70 =>
 bindO (gO (boolIs true t67) (some s7)) fun t71 =>
 bindO (gO (boolIs true t67) (binB E 3 .sub t70 t71)) fun t72 =>
 bindO (gO (boolIs true t67) (some s10)) fun t73 =>
 bindO (gO (boolIs true t67) (sliceA E 9 t69 (some t72) (some t73) h)) fun t74 =>
 bindO (gO (boolIs true t67) (some s1)) fun t75 =>
 bindO (gO (boolIs true t67) (binB E 9 .eql t74 t75)) fun t76 =>
 bindO (pickA t67 t76 (.bool false)) fun t77 =>
 condV t77 (
  bindO (binB E 3 .sub s10 s7) fun t80 =>
  some (.ret t80, h)
 ) (
  F15 s0 s1 s5 s6 s7 s8 s10 h
 )
theorem p96_24_ok (cf : CallF) (lf : Nat) (F15 : Value → Value → Value → Value → Value → Value → Value → Heap → Ans) (T : Tmps) (h : Heap) : execK E cf lf 81 k96_24 T h (blockK 3 (seqK (fun T h => F15 (T 0) (T 1) (T 5) (T 6) (T 7) (T 8) (T 10) h) (blockK 2 (seqK (fun T h => p96_11 cf lf h) (finK E [.tmp 4]))))) = p96_24 cf lf F15 (T 0) (T 1) (T 5) (T 6) (T 7) (T 8) (T 10) h := by kernel_rfl
def p96_16 (cf : CallF) (lf : Nat) (F15 : Value → Value → Value → Value → Value → Value → Value → Heap → Ans) (s0 : Value) (s1 : Value) (s5 : Value) (s6 : Value) (s7 : Value) (s8 : Value) (s10 : Value) (h : Heap) : Ans :=
 bindO (lenA E 9 s0) fun t43 =>
 bindO (binB E 3 .lss s10 t43) fun t44 =>
 condV t44 (
  bindO (binA E 115 .mul s8 (.int .u32 (16777619))) fun t46 =>
  bindO (indexA E 9 s0 s10) fun t50 =>
  bindR (valR (convA E 5 115 t50 h)) (fun v h => some (.panic v, h)) fun t51 h =>
  bindO (binB E 115 .add t46 t51) fun t52 =>
  bindO (binB E 3 .sub s10 s7) fun t58 =>
  bindO (indexA E 9 s0 t58) fun t59 =>
  bindR (valR (convA E 5 115 t59 h)) (fun v h => some (.panic v, h)) fun t60 h =>
  bindO (binB E 115 .mul s6 t60) fun t61 =>
  bindO (binB E 115 .sub t52 t61) fun t62 =>
  bindO (binA E 3 .add s10 (.int .i64 (1))) fun t64 =>
  p96_24 cf lf F15 s0 s1 s5 s6 s7 t62 t64 h
 ) (
  p96_11 cf lf h
 )
theorem p96_16_ok (cf : CallF) (lf : Nat) (F15 : Value → Value → Value → Value → Value → Value → Value → Heap → Ans) (T : Tmps) (h : Heap) : execK E cf lf 81 k96_16 T h (seqK (fun T h => F15 (T 0) (T 1) (T 5) (T 6) (T 7) (T 8) (T 10) h) (blockK 2 (seqK (fun T h => p96_11 cf lf h) (finK E [.tmp 4])))) = p96_16 cf lf F15 (T 0) (T 1) (T 5) (T 6) (T 7) (T 8) (T 10) h := by simp only [k96_16, k96_17, k96_18, k96_19, k96_20, k96_21, k96_22, k96_23, execK_all, p96_24_ok]; delta p96_16; generalize p96_24 = G0; as_aux_lemma => kernel_rfl
def l96_15 (cf : CallF) (lf : Nat) : Nat → Value → Value → Value → Value → Value → Value → Value → Heap → Ans
 | 0, _, _, _, _, _, _, _, _ => none
 | n + 1, s0, s1, s5, s6, s7, s8, s10, h => p96_16 cf lf (l96_15 cf lf n) s0 s1 s5 s6 s7 s8 s10 h
theorem l96_15_ok (cf : CallF) (lf : Nat) (n : Nat) : ∀ (T : Tmps) (h : Heap), iterK (fun T h K => execK E cf lf 81 k96_16 T h K) (blockK 2 (seqK (fun T h => p96_11 cf lf h) (finK E [.tmp 4]))) n T h = l96_15 cf lf n (T 0) (T 1) (T 5) (T 6) (T 7) (T 8) (T 10) h := by
 induction n with
 | zero => intro T h; rfl
 | succ n ih =>
  intro T h
  rw [iterK_succ, show iterK (fun T h K => execK E cf lf 81 k96_16 T h K) (blockK 2 (seqK (fun T h => p96_11 cf lf h) (finK E [.tmp 4]))) n = (fun T h => l96_15 cf lf n (T 0) (T 1) (T 5) (T 6) (T 7) (T 8) (T 10) h) from funext fun T => funext fun h => ih T h]
  exact p96_16_ok cf lf (l96_15 cf lf n) T h
def p96_14 (cf : CallF) (lf : Nat) (s0 : Value) (s1 : Value) (s5 : Value) (s6 : Value) (s7 : Value) (s8 : Value) (s10 : Value) (h : Heap) : Ans :=
 l96_15 cf lf lf s0 s1 s5 s6 s7 s8 s10 h
theorem p96_14_ok (cf : CallF) (lf : Nat) (T : Tmps) (h : Heap) : execK E cf lf 81 k96_14 T h (seqK (fun T h => p96_11 cf lf h) (finK E [.tmp 4])) = p96_14 cf lf (T 0) (T 1) (T 5) (T 6) (T 7) (T 8) (T 10) h := by simp only [k96_14, k96_15, execK_all, l96_15_ok]; delta p96_14; generalize l96_15 = G0; as_aux_lemma => kernel_rfl
def p96_5 (cf : CallF) (lf : Nat) (s0 : Value) (s1 : Value) (s5 : Value) (s6 : Value) (s7 : Value) (s8 : Value) (h : Heap) : Ans :=
 bindO (binB E 115 .eql s8 s5) fun t32 =>
 bindO (gO (boolIs true t32) (some s0)) fun t34 =>
 bindO (gO (boolIs true t32) (some s7)) fun t35 =>
 bindO (gO (boolIs true t32) (sliceA E 9 t34 none (some t35) h)) fun t36 =>
 bindO (gO (boolIs true t32) (some s1)) fun t37 =>
 bindO (gO (boolIs true t32) (binB E 9 .eql t36 t37)) fun t38 =>
 bindO (pickA t32 t38 (.bool false)) fun t39 =>
 condV t39 (
  some (.ret (.int .i64 (0)), h)
 ) (
  p96_14 cf lf s0 s1 s5 s6 s7 s8 s7 h
 )
theorem p96_5_ok (cf : CallF) (lf : Nat) (T : Tmps) (h : Heap) : execK E cf lf 81 k96_5 T h (finK E [.tmp 4]) = p96_5 cf lf (T 0) (T 1) (T 5) (T 6) (T 7) (T 8) h := by simp only [k96_13, k96_5, k96_6, k96_7, k96_8, k96_9, execK_all, p96_11_ok, p96_14_ok]; delta p96_5; generalize p96_11 = G0; generalize p96_14 = G1; as_aux_lemma => kernel_rfl
def p96_31 (cf : CallF) (lf : Nat) (F30 : Value → Value → Value → Value → Value → Value → Value → Heap → Ans) (s0 : Value) (s1 : Value) (s5 : Value) (s6 : Value) (s7 : Value) (s8 : Value) (s9 : Value) (h : Heap) : Ans :=
 bindO (binB E 3 .lss s9 s7) fun t20 =>
 condV t20 (
  bindO (binA E 115 .mul s8 (.int .u32 (16777619))) fun t24 =>
  bindO (indexA E 9 s0 s9) fun t27 =>
  bindR (valR (convA E 5 115 t27 h)) (fun v h => some (.panic v, h)) fun t28 h =>
  bindO (binB E 115 .add t24 t28) fun t29 =>
  bindO (binA E 3 .add s9 (.int .i64 (1))) fun t22 =>
  F30 s0 s1 s5 s6 s7 t29 t22 h
 ) (
  p96_5 cf lf s0 s1 s5 s6 s7 s8 h
 )
theorem p96_31_ok (cf : CallF) (lf : Nat) (F30 : Value → Value → Value → Value → Value → Value → Value → Heap → Ans) (T : Tmps) (h : Heap) : execK E cf lf 81 k96_31 T h (seqK (fun T h => F30 (T 0) (T 1) (T 5) (T 6) (T 7) (T 8) (T 9) h) (blockK 0 (seqK (fun T h => p96_5 cf lf (T 0) (T 1) (T 5) (T 6) (T 7) (T 8) h) (finK E [.tmp 4])))) = p96_31 cf lf F30 (T 0) (T 1) (T 5) (T 6) (T 7) (T 8) (T 9) h := by kernel_rfl
def l96_30 (cf : CallF) (lf : Nat) : Nat → Value → Value → Value → Value → Value → Value → Value → Heap → Ans
 | 0, _, _, _, _, _, _, _, _ => none
 | n + 1, s0, s1, s5, s6, s7, s8, s9, h => p96_31 cf lf (l96_30 cf lf n) s0 s1 s5 s6 s7 s8 s9 h
theorem l96_30_ok (cf : CallF) (lf : Nat) (n : Nat) : ∀ (T : Tmps) (h : Heap), iterK (fun T h K => execK E cf lf 81 k96_31 T h K) (blockK 0 (seqK (fun T h => p96_5 cf lf (T 0) (T 1) (T 5) (T 6) (T 7) (T 8) h) (finK E [.tmp 4]))) n T h = l96_30 cf lf n (T 0) (T 1) (T 5) (T 6) (T 7) (T 8) (T 9) h := by
 induction n with
 | zero => intro T h; rfl
 | succ n ih =>
  intro T h
  rw [iterK_succ, show iterK (fun T h K => execK E cf lf 81 k96_31 T h K) (blockK 0 (seqK (fun T h => p96_5 cf lf (T 0) (T 1) (T 5) (T 6) (T 7) (T 8) h) (finK E [.tmp 4]))) n = (fun T h => l96_30 cf lf n (T 0) (T 1) (T 5) (T 6) (T 7) (T 8) (T 9) h) from funext fun T => funext fun h => ih T h]
  exact p96_31_ok cf lf (l96_30 cf lf n) T h
def p96_0 (cf : CallF) (lf : Nat) (s0 : Value) (s1 : Value) (h : Heap) : Ans :=
 bindR (cf 103 [s1] h) (fun v h => some (.panic v, h)) fun t13 h =>
 bindO (extractA t13 0) fun t14 =>
 bindO (extractA t13 1) fun t15 =>
 bindO (lenA E 9 s1) fun t17 =>
 l96_30 cf lf lf s0 s1 t14 t15 t17 (.int .u32 (0)) (.int .i64 (0)) h
theorem p96_0_ok (cf : CallF) (lf : Nat) (T : Tmps) (h : Heap) : execK E cf lf 81 k96_0 T h (finK E [.tmp 4]) = p96_0 cf lf (T 0) (T 1) h := by simp only [k96_0, k96_1, k96_2, k96_28, k96_29, k96_3, k96_30, k96_4, execK_all, l96_30_ok, p96_5_ok]; delta p96_0; generalize l96_30 = G0; generalize p96_5 = G1; as_aux_lemma => kernel_rfl
def f96 (cf : CallF) (lf : Nat) (a0 : Value) (a1 : Value) (h : Heap) : Ans := p96_0 cf lf a0 a1 h
theorem f96_ok (cf : CallF) (lf : Nat) (a0 a1 : Value) (h : Heap) : stepN E cf lf 96 [a0, a1] h = f96 cf lf a0 a1 h := (show stepN E cf lf 96 [a0, a1] h = execK E cf lf 81 k96_0 (T0 [a0, a1]) h (finK E [.tmp 4]) by kernel_rfl).trans ((p96_0_ok cf lf (T0 [a0, a1]) h).trans (by kernel_rfl))
noncomputable def kc98 := codeOf Tryd.f98
def k98_23 := cp kc98 [0, 0, 0, 1, 0, 0, 1, 1, 1, 1, 1, 0]
def k98_24 := cp kc98 [0, 0, 0, 1, 0, 0, 1, 1, 1, 1, 1, 1]
def k98_22 := cp kc98 [0, 0, 0, 1, 0, 0, 1, 1, 1, 1, 0]
def k98_14 : Code := .cond (.tmp 26) k98_23 k98_24
def k98_21 := cp kc98 [0, 0, 0, 1, 0, 0, 1, 1, 1, 0]
def k98_13 : Code := .seq k98_22 k98_14
def k98_20 := cp kc98 [0, 0, 0, 1, 0, 0, 1, 1, 0]
def k98_12 : Code := .cond (.tmp 23) k98_21 k98_13
def k98_19 := cp kc98 [0, 0, 0, 1, 0, 0, 1, 0]
def k98_11 : Code := .seq k98_20 k98_12
def k98_18 := cp kc98 [0, 0, 0, 1, 0, 0, 0]
def k98_10 : Code := .cond (.tmp 13) k98_19 k98_11
def k98_16 := cp kc98 [0, 0, 0, 0, 1, 0]
def k98_17 := cp kc98 [0, 0, 0, 0, 1, 1]
def k98_9 : Code := .seq k98_18 k98_10
def k98_15 := cp kc98 [0, 0, 0, 0, 0]
def k98_7 : Code := .cond (.tmp 5) k98_16 k98_17
def k98_8 : Code := .block 2 k98_9
def k98_6 : Code := .seq k98_15 k98_7
def k98_5 : Code := .block 1 k98_8
def k98_4 : Code := .seq k98_6 k98_5
def k98_3 : Code := .loop k98_4
def k98_2 : Code := .block 0 k98_3
def k98_1 := cp kc98 [1]
def k98_0 : Code := .seq k98_2 k98_1
def p98_1 (cf : CallF) (lf : Nat) (s1 : Value) (h : Heap) : Ans :=
 bindR (cf 25 [(.int .i64 (19)), s1] h) (fun v h => some (.panic v, h)) fun t33 h =>
 some (.ret (.tuple ⟨[]⟩), h)
theorem p98_1_ok (cf : CallF) (lf : Nat) (T : Tmps) (h : Heap) : execK E cf lf 34 k98_1 T h (finK E []) = p98_1 cf lf (T 1) h := by kernel_rfl
def p98_4 (cf : CallF) (lf : Nat) (F3 : Value → Value → Heap → Ans) (s0 : Value) (s1 : Value) (h : Heap) : Ans :=
 bindR (cf 24 [s0] h) (fun v h => some (.panic v, h)) fun t5 h =>
 condV t5 (
  bindR (cf 23 [s0, (.string (mkS [92]))] h) (fun v h => some (.panic v, h)) fun t15 h =>
  condV t15 (
   bindO (nilA s0) fun t17 =>
   bindO (fieldAddrA E 57 t17 1) fun t18 =>
   bindO (loadA E 3 t18 h) fun t19 =>
   bindO (binA E 3 .add t19 (.int .i64 (1))) fun t20 =>
   bindO (nilA s0) fun t21 =>
   bindO (fieldAddrA E 57 t21 1) fun t22 =>
   bindR (skipR (storeA E 3 t22 t20 h)) (fun v h => some (.panic v, h)) fun _ h =>
   F3 s0 s1 h
  ) (
   bindR (cf 23 [s0, (.string (mkS [34]))] h) (fun v h => some (.panic v, h)) fun t25 h =>
   condV t25 (
    some (.ret (.tuple ⟨[]⟩), h)
   ) (
    bindR (cf 23 [s0, (.string (mkS [36, 40]))] h) (fun v h => some (.panic v, h)) fun t28 h =>
    condV t28 (
     bindR (cf 88 [s0, s1] h) (fun v h => some (.panic v, h)) fun t31 h =>
     F3 s0 s1 h
    ) (
     bindO (nilA s0) fun t7 =>
     bindO (fieldAddrA E 57 t7 1) fun t8 =>
     bindO (loadA E 3 t8 h) fun t9 =>
     bindO (binA E 3 .add t9 (.int .i64 (1))) fun t10 =>
     bindO (nilA s0) fun t11 =>
     bindO (fieldAddrA E 57 t11 1) fun t12 =>
     bindR (skipR (storeA E 3 t12 t10 h)) (fun v h => some (.panic v, h)) fun _ h =>
     F3 s0 s1 h
    )
   )
  )
 ) (
  p98_1 cf lf s1 h
 )
theorem p98_4_ok (cf : CallF) (lf : Nat) (F3 : Value → Value → Heap → Ans) (T : Tmps) (h : Heap) : execK E cf lf 34 k98_4 T h (seqK (fun T h => F3 (T 0) (T 1) h) (blockK 0 (seqK (fun T h => p98_1 cf lf (T 1) h) (finK E [])))) = p98_4 cf lf F3 (T 0) (T 1) h := by kernel_rfl
def l98_3 (cf : CallF) (lf : Nat) : Nat → Value → Value → Heap → Ans
 | 0, _, _, _ => none
 | n + 1, s0, s1, h => p98_4 cf lf (l98_3 cf lf n) s0 s1 h
theorem l98_3_ok (cf : CallF) (lf : Nat) (n : Nat) : ∀ (T : Tmps) (h : Heap), iterK (fun T h K => execK E cf lf 34 k98_4 T h K) (blockK 0 (seqK (fun T h => p98_1 cf lf (T 1) h) (finK E []))) n T h = l98_3 cf lf n (T 0) (T 1) h := by
 induction n with
 | zero => intro T h; rfl
 | succ n ih =>
  intro T h
  rw [iterK_succ, show iterK (fun T h K => execK E cf lf 34 k98_4 T h K) (blockK 0 (seqK (fun T h => p98_1 cf lf (T 1) h) (finK E []))) n = (fun T h => l98_3 cf lf n (T 0) (T 1) h) from funext fun T => funext fun h => ih T h]
  exact p98_4_ok cf lf (l98_3 cf lf n) T h
def p98_0 (cf : CallF) (lf : Nat) (s0 : Value) (s1 : Value) (h : Heap) : Ans :=
 l98_3 cf lf lf s0 s1 h
theorem p98_0_ok (cf : CallF) (lf : Nat) (T : Tmps) (h : Heap) : execK E cf lf 34 k98_0 T h (finK E []) = p98_0 cf lf (T 0) (T 1) h := by simp only [k98_0, k98_2, k98_3, execK_all, l98_3_ok, p98_1_ok]; delta p98_0; generalize l98_3 = G0; generalize p98_1 = G1; as_aux_lemma => kernel_rfl
def f98 (cf : CallF) (lf : Nat) (a0 : Value) (a1 : Value) (h : Heap) : Ans := p98_0 cf lf a0 a1 h
theorem f98_ok (cf : CallF) (lf : Nat) (a0 a1 : Value) (h : Heap) : stepN E cf lf 98 [a0, a1] h = f98 cf lf a0 a1 h := (show stepN E cf lf 98 [a0, a1] h = execK E cf lf 34 k98_0 (T0 [a0, a1]) h (finK E []) by kernel_rfl).trans ((p98_0_ok cf lf (T0 [a0, a1]) h).trans (by kernel_rfl))
def f99 (cf : CallF) (lf : Nat) (h : Heap) : Ans :=
 bindR (valR (buildSliceA E 40 12 [(0, (.string (mkS [58, 45]))), (1, (.string (mkS [58, 61]))), (2, (.string (mkS [58, 43]))), (3, (.string (mkS [58, 63]))), (4, (.string (mkS [35, 35]))), (5, (.string (mkS [37, 37]))), (6, (.string (mkS [45]))), (7, (.string (mkS [61]))), (8, (.string (mkS [43]))), (9, (.string (mkS [63]))), (10, (.string (mkS [35]))), (11, (.string (mkS [37])))] h)) (fun v h => some (.panic v, h)) fun t1 h =>
 some (.ret t1, h)
theorem f99_ok (cf : CallF) (lf : Nat) (h : Heap) : stepN E cf lf 99 [] h = f99 cf lf  h := by kernel_rfl
def f100 (cf : CallF) (lf : Nat) (a0 : Value) (h : Heap) : Ans :=
 bindO (binA E 5 .geq a0 (.int .u8 (97))) fun t4 =>
 bindO (gO (boolIs true t4) (some a0)) fun t6 =>
 bindO (gO (boolIs true t4) (binA E 5 .leq t6 (.int .u8 (122)))) fun t7 =>
 bindO (pickA t4 t7 (.bool false)) fun t8 =>
 bindO (gO (boolIs false t8) (some a0)) fun t10 =>
 bindO (gO (boolIs false t8) (binA E 5 .geq t10 (.int .u8 (65)))) fun t11 =>
 bindO (gO (boolIs false t8) (some t11)) fun t12 =>
 bindO (gO (boolIs true t12) (some a0)) fun t13 =>
 bindO (gO (boolIs true t12) (binA E 5 .leq t13 (.int .u8 (90)))) fun t14 =>
 bindO (gO (boolIs false t8) (pickA t12 t14 (.bool false))) fun t15 =>
 bindO (pickA t8 (.bool true) t15) fun t16 =>
 bindO (gO (boolIs false t16) (some a0)) fun t18 =>
 bindO (gO (boolIs false t16) (binA E 5 .eql t18 (.int .u8 (95)))) fun t19 =>
 bindO (pickA t16 (.bool true) t19) fun t20 =>
 some (.ret t20, h)
theorem f100_ok (cf : CallF) (lf : Nat) (a0 : Value) (h : Heap) : stepN E cf lf 100 [a0] h = f100 cf lf a0 h := by kernel_rfl
def f101 (cf : CallF) (lf : Nat) (a0 : Value) (h : Heap) : Ans :=
 bindO (binA E 5 .geq a0 (.int .u8 (48))) fun t4 =>
 bindO (gO (boolIs true t4) (some a0)) fun t6 =>
 bindO (gO (boolIs true t4) (binA E 5 .leq t6 (.int .u8 (57)))) fun t7 =>
 bindO (pickA t4 t7 (.bool false)) fun t8 =>
 some (.ret t8, h)
theorem f101_ok (cf : CallF) (lf : Nat) (a0 : Value) (h : Heap) : stepN E cf lf 101 [a0] h = f101 cf lf a0 h := by kernel_rfl
def f102 (cf : CallF) (lf : Nat) (a0 : Value) (h : Heap) : Ans :=
 bindO (binA E 5 .geq a0 (.int .u8 (97))) fun t4 =>
 bindO (gO (boolIs true t4) (some a0)) fun t6 =>
 bindO (gO (boolIs true t4) (binA E 5 .leq t6 (.int .u8 (122)))) fun t7 =>
 bindO (pickA t4 t7 (.bool false)) fun t8 =>
 bindO (gO (boolIs false t8) (some a0)) fun t10 =>
 bindO (gO (boolIs false t8) (binA E 5 .geq t10 (.int .u8 (65)))) fun t11 =>
 bindO (gO (boolIs false t8) (some t11)) fun t12 =>
 bindO (gO (boolIs true t12) (some a0)) fun t13 =>
 bindO (gO (boolIs true t12) (binA E 5 .leq t13 (.int .u8 (90)))) fun t14 =>
 bindO (gO (boolIs false t8) (pickA t12 t14 (.bool false))) fun t15 =>
 bindO (pickA t8 (.bool true) t15) fun t16 =>
 bindO (gO (boolIs false t16) (some a0)) fun t18 =>
 bindO (gO (boolIs false t16) (binA E 5 .eql t18 (.int .u8 (95)))) fun t19 =>
 bindO (pickA t16 (.bool true) t19) fun t20 =>
 some (.ret t20, h)
theorem f102_ok (cf : CallF) (lf : Nat) (a0 : Value) (h : Heap) : stepN E cf lf 102 [a0] h = f102 cf lf a0 h := by kernel_rfl
noncomputable def kc103 := codeOf Tryd.f103
def k103_42 := cp kc103 [1, 1, 1, 1, 0, 1, 0, 0, 1, 0, 0, 0, 1, 0]
def k103_43 := cp kc103 [1, 1, 1, 1, 0, 1, 0, 0, 1, 0, 0, 0, 1, 1]
def k103_41 := cp kc103 [1, 1, 1, 1, 0, 1, 0, 0, 1, 0, 0, 0, 0]
def k103_19 : Code := .cond (.tmp 30) k103_42 k103_43
def k103_18 : Code := .seq k103_41 k103_19
def k103_17 := cp kc103 [1, 1, 1, 1, 0, 1, 0, 0, 1, 0, 0, 1]
def k103_39 := cp kc103 [1, 1, 1, 1, 0, 1, 0, 0, 0, 1, 0]
def k103_40 := cp kc103 [1, 1, 1, 1, 0, 1, 0, 0, 0, 1, 1]
def k103_16 : Code := .seq k103_18 k103_17
def k103_38 := cp kc103 [1, 1, 1, 1, 0, 1, 0, 0, 0, 0]
def k103_13 : Code := .cond (.tmp 25) k103_39 k103_40
def k103_15 : Code := .block 3 k103_16
def k103_14 := cp kc103 [1, 1, 1, 1, 0, 1, 0, 0, 1, 1]
def k103_33 := cp kc103 [1, 1, 0, 1, 0, 0, 0, 1, 0]
def k103_34 := cp kc103 [1, 1, 0, 1, 0, 0, 0, 1, 1]
def k103_35 := cp kc103 [1, 1, 0, 1, 0, 0, 1, 0, 0]
def k103_12 : Code := .seq k103_38 k103_13
def k103_11 : Code := .seq k103_15 k103_14
def k103_32 := cp kc103 [1, 1, 0, 1, 0, 0, 0, 0]
def k103_26 : Code := .cond (.tmp 12) k103_33 k103_34
def k103_28 : Code := .block 1 k103_35
def k103_27 := cp kc103 [1, 1, 0, 1, 0, 0, 1, 1]
def k103_10 : Code := .seq k103_12 k103_11
def k103_25 : Code := .seq k103_32 k103_26
def k103_24 : Code := .seq k103_28 k103_27
def k103_9 : Code := .loop k103_10
def k103_23 : Code := .seq k103_25 k103_24
def k103_37 := cp kc103 [1, 1, 1, 1, 0, 0]
def k103_8 : Code := .block 2 k103_9
def k103_44 := cp kc103 [1, 1, 1, 1, 1, 0]
def k103_6 := cp kc103 [1, 1, 1, 1, 1, 1]
def k103_22 : Code := .loop k103_23
def k103_7 : Code := .seq k103_37 k103_8
def k103_5 : Code := .seq k103_44 k103_6
def k103_31 := cp kc103 [1, 1, 0, 0]
def k103_21 : Code := .block 0 k103_22
def k103_36 := cp kc103 [1, 1, 1, 0]
def k103_4 : Code := .seq k103_7 k103_5
def k103_20 : Code := .seq k103_31 k103_21
def k103_3 : Code := .seq k103_36 k103_4
def k103_30 := cp kc103 [1, 0]
def k103_2 : Code := .seq k103_20 k103_3
def k103_29 := cp kc103 [0]
def k103_1 : Code := .seq k103_30 k103_2
def k103_0 : Code := .seq k103_29 k103_1
def p103_5 (cf : CallF) (lf : Nat) (s4 : Value) (s6 : Value) (h : Heap) : Ans :=
 some (.ret (.tuple ⟨[s4, s6]⟩), h)
theorem p103_5_ok (cf : CallF) (lf : Nat) (T : Tmps) (h : Heap) : execK E cf lf 39 k103_5 T h (finK E [.tmp 2, .tmp 3]) = p103_5 cf lf (T 4) (T 6) h := by kernel_rfl
def p103_14 (cf : CallF) (lf : Nat) (F9 : Value → Value → Value → Value → Heap → Ans) (s4 : Value) (s6 : Value) (s7 : Value) (s8 : Value) (h : Heap) : Ans :=
 bindO (binA E 3 .shr s8 (.int .u64 (1))) fun t27 =>
 F9 s4 s6 s7 t27 h
theorem p103_14_ok (cf : CallF) (lf : Nat) (F9 : Value → Value → Value → Value → Heap → Ans) (T : Tmps) (h : Heap) : execK E cf lf 39 k103_14 T h (seqK (fun T h => F9 (T 4) (T 6) (T 7) (T 8) h) (blockK 2 (seqK (fun T h => p103_5 cf lf (T 4) (T 6) h) (finK E [.tmp 2, .tmp 3])))) = p103_14 cf lf F9 (T 4) (T 6) (T 7) (T 8) h := by kernel_rfl
def p103_17 (cf : CallF) (lf : Nat) (F9 : Value → Value → Value → Value → Heap → Ans) (s4 : Value) (s6 : Value) (s7 : Value) (s8 : Value) (h : Heap) : Ans :=
 bindO (binB E 115 .mul s7 s7) fun t36 =>
 p103_14 cf lf F9 s4 s6 t36 s8 h
theorem p103_17_ok (cf : CallF) (lf : Nat) (F9 : Value → Value → Value → Value → Heap → Ans) (T : Tmps) (h : Heap) : execK E cf lf 39 k103_17 T h (blockK 3 (seqK (fun T h => p103_14 cf lf F9 (T 4) (T 6) (T 7) (T 8) h) (seqK (fun T h => F9 (T 4) (T 6) (T 7) (T 8) h) (blockK 2 (seqK (fun T h => p103_5 cf lf (T 4) (T 6) h) (finK E [.tmp 2, .tmp 3])))))) = p103_17 cf lf F9 (T 4) (T 6) (T 7) (T 8) h := by kernel_rfl
def p103_10 (cf : CallF) (lf : Nat) (F9 : Value → Value → Value → Value → Heap → Ans) (s4 : Value) (s6 : Value) (s7 : Value) (s8 : Value) (h : Heap) : Ans :=
 bindO (binA E 3 .gtr s8 (.int .i64 (0))) fun t25 =>
 condV t25 (
  bindO (binA E 3 .and s8 (.int .i64 (1))) fun t29 =>
  bindO (binA E 3 .neq t29 (.int .i64 (0))) fun t30 =>
  condV t30 (
   bindO (binB E 115 .mul s6 s7) fun t33 =>
   p103_17 cf lf F9 s4 t33 s7 s8 h
  ) (
   p103_17 cf lf F9 s4 s6 s7 s8 h
  )
 ) (
  p103_5 cf lf s4 s6 h
 )
theorem p103_10_ok (cf : CallF) (lf : Nat) (F9 : Value → Value → Value → Value → Heap → Ans) (T : Tmps) (h : Heap) : execK E cf lf 39 k103_10 T h (seqK (fun T h => F9 (T 4) (T 6) (T 7) (T 8) h) (blockK 2 (seqK (fun T h => p103_5 cf lf (T 4) (T 6) h) (finK E [.tmp 2, .tmp 3])))) = p103_10 cf lf F9 (T 4) (T 6) (T 7) (T 8) h := by simp only [k103_10, k103_11, k103_12, k103_13, k103_15, k103_16, k103_18, k103_19, execK_all, p103_14_ok, p103_17_ok]; delta p103_10; generalize p103_14 = G0; generalize p103_17 = G1; as_aux_lemma => kernel_rfl
def l103_9 (cf : CallF) (lf : Nat) : Nat → Value → Value → Value → Value → Heap → Ans
 | 0, _, _, _, _, _ => none
 | n + 1, s4, s6, s7, s8, h => p103_10 cf lf (l103_9 cf lf n) s4 s6 s7 s8 h
theorem l103_9_ok (cf : CallF) (lf : Nat) (n : Nat) : ∀ (T : Tmps) (h : Heap), iterK (fun T h K => execK E cf lf 39 k103_10 T h K) (blockK 2 (seqK (fun T h => p103_5 cf lf (T 4) (T 6) h) (finK E [.tmp 2, .tmp 3]))) n T h = l103_9 cf lf n (T 4) (T 6) (T 7) (T 8) h := by
 induction n with
 | zero => intro T h; rfl
 | succ n ih =>
  intro T h
  rw [iterK_succ, show iterK (fun T h K => execK E cf lf 39 k103_10 T h K) (blockK 2 (seqK (fun T h => p103_5 cf lf (T 4) (T 6) h) (finK E [.tmp 2, .tmp 3]))) n = (fun T h => l103_9 cf lf n (T 4) (T 6) (T 7) (T 8) h) from funext fun T => funext fun h => ih T h]
  exact p103_10_ok cf lf (l103_9 cf lf n) T h
def p103_3 (cf : CallF) (lf : Nat) (s0 : Value) (s4 : Value) (h : Heap) : Ans :=
 bindO (lenA E 9 s0) fun t23 =>
 l103_9 cf lf lf s4 (.int .u32 (1)) (.int .u32 (16777619)) t23 h
theorem p103_3_ok (cf : CallF) (lf : Nat) (T : Tmps) (h : Heap) : execK E cf lf 39 k103_3 T h (finK E [.tmp 2, .tmp 3]) = p103_3 cf lf (T 0) (T 4) h := by simp only [k103_3, k103_4, k103_7, k103_8, k103_9, execK_all, l103_9_ok, p103_5_ok]; delta p103_3; generalize l103_9 = G0; generalize p103_5 = G1; as_aux_lemma => kernel_rfl
def p103_23 (cf : CallF) (lf : Nat) (F22 : Value → Value → Value → Heap → Ans) (s0 : Value) (s4 : Value) (s5 : Value) (h : Heap) : Ans :=
 bindO (lenA E 9 s0) fun t11 =>
 bindO (binB E 3 .lss s5 t11) fun t12 =>
 condV t12 (
  bindO (binA E 115 .mul s4 (.int .u32 (16777619))) fun t16 =>
  bindO (indexA E 9 s0 s5) fun t19 =>
  bindR (valR (convA E 5 115 t19 h)) (fun v h => some (.panic v, h)) fun t20 h =>
  bindO (binB E 115 .add t16 t20) fun t21 =>
  bindO (binA E 3 .add s5 (.int .i64 (1))) fun t14 =>
  F22 s0 t21 t14 h
 ) (
  p103_3 cf lf s0 s4 h
 )
theorem p103_23_ok (cf : CallF) (lf : Nat) (F22 : Value → Value → Value → Heap → Ans) (T : Tmps) (h : Heap) : execK E cf lf 39 k103_23 T h (seqK (fun T h => F22 (T 0) (T 4) (T 5) h) (blockK 0 (seqK (fun T h => p103_3 cf lf (T 0) (T 4) h) (finK E [.tmp 2, .tmp 3])))) = p103_23 cf lf F22 (T 0) (T 4) (T 5) h := by kernel_rfl
def l103_22 (cf : CallF) (lf : Nat) : Nat → Value → Value → Value → Heap → Ans
 | 0, _, _, _, _ => none
 | n + 1, s0, s4, s5, h => p103_23 cf lf (l103_22 cf lf n) s0 s4 s5 h
theorem l103_22_ok (cf : CallF) (lf : Nat) (n : Nat) : ∀ (T : Tmps) (h : Heap), iterK (fun T h K => execK E cf lf 39 k103_23 T h K) (blockK 0 (seqK (fun T h => p103_3 cf lf (T 0) (T 4) h) (finK E [.tmp 2, .tmp 3]))) n T h = l103_22 cf lf n (T 0) (T 4) (T 5) h := by
 induction n with
 | zero => intro T h; rfl
 | succ n ih =>
  intro T h
  rw [iterK_succ, show iterK (fun T h K => execK E cf lf 39 k103_23 T h K) (blockK 0 (seqK (fun T h => p103_3 cf lf (T 0) (T 4) h) (finK E [.tmp 2, .tmp 3]))) n = (fun T h => l103_22 cf lf n (T 0) (T 4) (T 5) h) from funext fun T => funext fun h => ih T h]
  exact p103_23_ok cf lf (l103_22 cf lf n) T h
def p103_0 (cf : CallF) (lf : Nat) (s0 : Value) (h : Heap) : Ans :=
 l103_22 cf lf lf s0 (.int .u32 (0)) (.int .i64 (0)) h
theorem p103_0_ok (cf : CallF) (lf : Nat) (T : Tmps) (h : Heap) : execK E cf lf 39 k103_0 T h (finK E [.tmp 2, .tmp 3]) = p103_0 cf lf (T 0) h := by simp only [k103_0, k103_1, k103_2, k103_20, k103_21, k103_22, execK_all, l103_22_ok, p103_3_ok]; delta p103_0; generalize l103_22 = G0; generalize p103_3 = G1; as_aux_lemma => kernel_rfl
def f103 (cf : CallF) (lf : Nat) (a0 : Value) (h : Heap) : Ans := p103_0 cf lf a0 h
theorem f103_ok (cf : CallF) (lf : Nat) (a0 : Value) (h : Heap) : stepN E cf lf 103 [a0] h = f103 cf lf a0 h := (show stepN E cf lf 103 [a0] h = execK E cf lf 39 k103_0 (T0 [a0]) h (finK E [.tmp 2, .tmp 3]) by kernel_rfl).trans ((p103_0_ok cf lf (T0 [a0]) h).trans (by kernel_rfl))
end
end Go.Proofs.YteekjekckgpbfaaDoor.Abs
end
section
set_option maxRecDepth 100000
namespace Go.Proofs.YteekjekckgpbfaaDoor.Abs
noncomputable def g3 (cf : CallF) (lf : Nat) (l : List Value) (h : Heap) : Ans := match l with | [a0] => f3 cf lf a0 h | _ => none
theorem g3_ok (cf : CallF) (lf : Nat) (l : List Value) (h : Heap) (r : Res × Heap) (e : g3 cf lf l h = some r) : stepN E cf lf 3 l h = some r := by
 unfold g3 at e
 split at e
 ·rw [f3_ok]; exact e
 ·cases e
noncomputable def g8 (cf : CallF) (lf : Nat) (l : List Value) (h : Heap) : Ans := match l with | [a0] => f8 cf lf a0 h | _ => none
theorem g8_ok (cf : CallF) (lf : Nat) (l : List Value) (h : Heap) (r : Res × Heap) (e : g8 cf lf l h = some r) : stepN E cf lf 8 l h = some r := by
 unfold g8 at e
 split at e
 ·rw [f8_ok]; exact e
 ·cases e
noncomputable def g9 (cf : CallF) (lf : Nat) (l : List Value) (h : Heap) : Ans := match l with | [a0] => f9 cf lf a0 h | _ => none
theorem g9_ok (cf : CallF) (lf : Nat) (l : List Value) (h : Heap) (r : Res × Heap) (e : g9 cf lf l h = some r) : stepN E cf lf 9 l h = some r := by
 unfold g9 at e
 split at e
 ·rw [f9_ok]; exact e
 ·cases e
noncomputable def g10 (cf : CallF) (lf : Nat) (l : List Value) (h : Heap) : Ans := match l with | [a0, a1] => f10 cf lf a0 a1 h | _ => none
theorem g10_ok (cf : CallF) (lf : Nat) (l : List Value) (h : Heap) (r : Res × Heap) (e : g10 cf lf l h = some r) : stepN E cf lf 10 l h = some r := by
 unfold g10 at e
 split at e
 ·rw [f10_ok]; exact e
 ·cases e
noncomputable def g11 (cf : CallF) (lf : Nat) (l : List Value) (h : Heap) : Ans := match l with | [a0, a1] => f11 cf lf a0 a1 h | _ => none
theorem g11_ok (cf : CallF) (lf : Nat) (l : List Value) (h : Heap) (r : Res × Heap) (e : g11 cf lf l h = some r) : stepN E cf lf 11 l h = some r := by
 unfold g11 at e
 split at e
 ·rw [f11_ok]; exact e
 ·cases e
noncomputable def g12 (cf : CallF) (lf : Nat) (l : List Value) (h : Heap) : Ans := match l with | [] => f12 cf lf  h | _ => none
theorem g12_ok (cf : CallF) (lf : Nat) (l : List Value) (h : Heap) (r : Res × Heap) (e : g12 cf lf l h = some r) : stepN E cf lf 12 l h = some r := by
 unfold g12 at e
 split at e
 ·rw [f12_ok]; exact e
 ·cases e
noncomputable def g13 (cf : CallF) (lf : Nat) (l : List Value) (h : Heap) : Ans := match l with | [a0, a1] => f13 cf lf a0 a1 h | _ => none
theorem g13_ok (cf : CallF) (lf : Nat) (l : List Value) (h : Heap) (r : Res × Heap) (e : g13 cf lf l h = some r) : stepN E cf lf 13 l h = some r := by
 unfold g13 at e
 split at e
 ·rw [f13_ok]; exact e
 ·cases e
noncomputable def g14 (cf : CallF) (lf : Nat) (l : List Value) (h : Heap) : Ans := match l with | [a0] => f14 cf lf a0 h | _ => none
theorem g14_ok (cf : CallF) (lf : Nat) (l : List Value) (h : Heap) (r : Res × Heap) (e : g14 cf lf l h = some r) : stepN E cf lf 14 l h = some r := by
 unfold g14 at e
 split at e
 ·rw [f14_ok]; exact e
 ·cases e
noncomputable def g15 (cf : CallF) (lf : Nat) (l : List Value) (h : Heap) : Ans := match l with | [a0, a1, a2] => f15 cf lf a0 a1 a2 h | _ => none
theorem g15_ok (cf : CallF) (lf : Nat) (l : List Value) (h : Heap) (r : Res × Heap) (e : g15 cf lf l h = some r) : stepN E cf lf 15 l h = some r := by
 unfold g15 at e
 split at e
 ·rw [f15_ok]; exact e
 ·cases e
noncomputable def g19 (cf : CallF) (lf : Nat) (l : List Value) (h : Heap) : Ans := match l with | [a0] => f19 cf lf a0 h | _ => none
theorem g19_ok (cf : CallF) (lf : Nat) (l : List Value) (h : Heap) (r : Res × Heap) (e : g19 cf lf l h = some r) : stepN E cf lf 19 l h = some r := by
 unfold g19 at e
 split at e
 ·rw [f19_ok]; exact e
 ·cases e
noncomputable def g20 (cf : CallF) (lf : Nat) (l : List Value) (h : Heap) : Ans := match l with | [a0] => f20 cf lf a0 h | _ => none
theorem g20_ok (cf : CallF) (lf : Nat) (l : List Value) (h : Heap) (r : Res × Heap) (e : g20 cf lf l h = some r) : stepN E cf lf 20 l h = some r := by
 unfold g20 at e
 split at e
 ·rw [f20_ok]; exact e
 ·cases e
noncomputable def g21 (cf : CallF) (lf : Nat) (l : List Value) (h : Heap) : Ans := match l with | [a0] => f21 cf lf a0 h | _ => none
theorem g21_ok (cf : CallF) (lf : Nat) (l : List Value) (h : Heap) (r : Res × Heap) (e : g21 cf lf l h = some r) : stepN E cf lf 21 l h = some r := by
 unfold g21 at e
 split at e
 ·rw [f21_ok]; exact e
 ·cases e
noncomputable def g22 (cf : CallF) (lf : Nat) (l : List Value) (h : Heap) : Ans := match l with | [a0] => f22 cf lf a0 h | _ => none
theorem g22_ok (cf : CallF) (lf : Nat) (l : List Value) (h : Heap) (r : Res × Heap) (e : g22 cf lf l h = some r) : stepN E cf lf 22 l h = some r := by
 unfold g22 at e
 split at e
 ·rw [f22_ok]; exact e
 ·cases e
noncomputable def g23 (cf : CallF) (lf : Nat) (l : List Value) (h : Heap) : Ans := match l with | [a0, a1] => f23 cf lf a0 a1 h | _ => none
theorem g23_ok (cf : CallF) (lf : Nat) (l : List Value) (h : Heap) (r : Res × Heap) (e : g23 cf lf l h = some r) : stepN E cf lf 23 l h = some r := by
 unfold g23 at e
 split at e
 ·rw [f23_ok]; exact e
 ·cases e
noncomputable def g24 (cf : CallF) (lf : Nat) (l : List Value) (h : Heap) : Ans := match l with | [a0] => f24 cf lf a0 h | _ => none
theorem g24_ok (cf : CallF) (lf : Nat) (l : List Value) (h : Heap) (r : Res × Heap) (e : g24 cf lf l h = some r) : stepN E cf lf 24 l h = some r := by
 unfold g24 at e
 split at e
 ·rw [f24_ok]; exact e
 ·cases e
noncomputable def g25 (cf : CallF) (lf : Nat) (l : List Value) (h : Heap) : Ans := match l with | [a0, a1] => f25 cf lf a0 a1 h | _ => none
theorem g25_ok (cf : CallF) (lf : Nat) (l : List Value) (h : Heap) (r : Res × Heap) (e : g25 cf lf l h = some r) : stepN E cf lf 25 l h = some r := by
 unfold g25 at e
 split at e
 ·rw [f25_ok]; exact e
 ·cases e
noncomputable def g26 (cf : CallF) (lf : Nat) (l : List Value) (h : Heap) : Ans := match l with | [a0, a1, a2] => f26 cf lf a0 a1 a2 h | _ => none
theorem g26_ok (cf : CallF) (lf : Nat) (l : List Value) (h : Heap) (r : Res × Heap) (e : g26 cf lf l h = some r) : stepN E cf lf 26 l h = some r := by
 unfold g26 at e
 split at e
 ·rw [f26_ok]; exact e
 ·cases e
noncomputable def g27 (cf : CallF) (lf : Nat) (l : List Value) (h : Heap) : Ans := match l with | [a0, a1, a2] => f27 cf lf a0 a1 a2 h | _ => none
theorem g27_ok (cf : CallF) (lf : Nat) (l : List Value) (h : Heap) (r : Res × Heap) (e : g27 cf lf l h = some r) : stepN E cf lf 27 l h = some r := by
 unfold g27 at e
 split at e
 ·rw [f27_ok]; exact e
 ·cases e
noncomputable def g28 (cf : CallF) (lf : Nat) (l : List Value) (h : Heap) : Ans := match l with | [a0] => f28 cf lf a0 h | _ => none
theorem g28_ok (cf : CallF) (lf : Nat) (l : List Value) (h : Heap) (r : Res × Heap) (e : g28 cf lf l h = some r) : stepN E cf lf 28 l h = some r := by
 unfold g28 at e
 split at e
 ·rw [f28_ok]; exact e
 ·cases e
noncomputable def g29 (cf : CallF) (lf : Nat) (l : List Value) (h : Heap) : Ans := match l with | [a0, a1, a2, a3] => f29 cf lf a0 a1 a2 a3 h | _ => none
theorem g29_ok (cf : CallF) (lf : Nat) (l : List Value) (h : Heap) (r : Res × Heap) (e : g29 cf lf l h = some r) : stepN E cf lf 29 l h = some r := by
 unfold g29 at e
 split at e
 ·rw [f29_ok]; exact e
 ·cases e
noncomputable def g30 (cf : CallF) (lf : Nat) (l : List Value) (h : Heap) : Ans := match l with | [a0, a1] => f30 cf lf a0 a1 h | _ => none
theorem g30_ok (cf : CallF) (lf : Nat) (l : List Value) (h : Heap) (r : Res × Heap) (e : g30 cf lf l h = some r) : stepN E cf lf 30 l h = some r := by
 unfold g30 at e
 split at e
 ·rw [f30_ok]; exact e
 ·cases e
noncomputable def g31 (cf : CallF) (lf : Nat) (l : List Value) (h : Heap) : Ans := match l with | [a0] => f31 cf lf a0 h | _ => none
theorem g31_ok (cf : CallF) (lf : Nat) (l : List Value) (h : Heap) (r : Res × Heap) (e : g31 cf lf l h = some r) : stepN E cf lf 31 l h = some r := by
 unfold g31 at e
 split at e
 ·rw [f31_ok]; exact e
 ·cases e
noncomputable def g34 (cf : CallF) (lf : Nat) (l : List Value) (h : Heap) : Ans := match l with | [a0, a1] => f34 cf lf a0 a1 h | _ => none
theorem g34_ok (cf : CallF) (lf : Nat) (l : List Value) (h : Heap) (r : Res × Heap) (e : g34 cf lf l h = some r) : stepN E cf lf 34 l h = some r := by
 unfold g34 at e
 split at e
 ·rw [f34_ok]; exact e
 ·cases e
noncomputable def g35 (cf : CallF) (lf : Nat) (l : List Value) (h : Heap) : Ans := match l with | [a0, a1] => f35 cf lf a0 a1 h | _ => none
theorem g35_ok (cf : CallF) (lf : Nat) (l : List Value) (h : Heap) (r : Res × Heap) (e : g35 cf lf l h = some r) : stepN E cf lf 35 l h = some r := by
 unfold g35 at e
 split at e
 ·rw [f35_ok]; exact e
 ·cases e
noncomputable def g36 (cf : CallF) (lf : Nat) (l : List Value) (h : Heap) : Ans := match l with | [a0] => f36 cf lf a0 h | _ => none
theorem g36_ok (cf : CallF) (lf : Nat) (l : List Value) (h : Heap) (r : Res × Heap) (e : g36 cf lf l h = some r) : stepN E cf lf 36 l h = some r := by
 unfold g36 at e
 split at e
 ·rw [f36_ok]; exact e
 ·cases e
noncomputable def g38 (cf : CallF) (lf : Nat) (l : List Value) (h : Heap) : Ans := match l with | [a0, a1] => f38 cf lf a0 a1 h | _ => none
theorem g38_ok (cf : CallF) (lf : Nat) (l : List Value) (h : Heap) (r : Res × Heap) (e : g38 cf lf l h = some r) : stepN E cf lf 38 l h = some r := by
 unfold g38 at e
 split at e
 ·rw [f38_ok]; exact e
 ·cases e
noncomputable def g44 (cf : CallF) (lf : Nat) (l : List Value) (h : Heap) : Ans := match l with | [a0, a1] => f44 cf lf a0 a1 h | _ => none
theorem g44_ok (cf : CallF) (lf : Nat) (l : List Value) (h : Heap) (r : Res × Heap) (e : g44 cf lf l h = some r) : stepN E cf lf 44 l h = some r := by
 unfold g44 at e
 split at e
 ·rw [f44_ok]; exact e
 ·cases e
noncomputable def g45 (cf : CallF) (lf : Nat) (l : List Value) (h : Heap) : Ans := match l with | [a0, a1] => f45 cf lf a0 a1 h | _ => none
theorem g45_ok (cf : CallF) (lf : Nat) (l : List Value) (h : Heap) (r : Res × Heap) (e : g45 cf lf l h = some r) : stepN E cf lf 45 l h = some r := by
 unfold g45 at e
 split at e
 ·rw [f45_ok]; exact e
 ·cases e
noncomputable def g46 (cf : CallF) (lf : Nat) (l : List Value) (h : Heap) : Ans := match l with | [a0, a1] => f46 cf lf a0 a1 h | _ => none
theorem g46_ok (cf : CallF) (lf : Nat) (l : List Value) (h : Heap) (r : Res × Heap) (e : g46 cf lf l h = some r) : stepN E cf lf 46 l h = some r := by
 unfold g46 at e
 split at e
 ·rw [f46_ok]; exact e
 ·cases e
noncomputable def g47 (cf : CallF) (lf : Nat) (l : List Value) (h : Heap) : Ans := match l with | [a0, a1] => f47 cf lf a0 a1 h | _ => none
theorem g47_ok (cf : CallF) (lf : Nat) (l : List Value) (h : Heap) (r : Res × Heap) (e : g47 cf lf l h = some r) : stepN E cf lf 47 l h = some r := by
 unfold g47 at e
 split at e
 ·rw [f47_ok]; exact e
 ·cases e
noncomputable def g48 (cf : CallF) (lf : Nat) (l : List Value) (h : Heap) : Ans := match l with | [] => f48 cf lf  h | _ => none
theorem g48_ok (cf : CallF) (lf : Nat) (l : List Value) (h : Heap) (r : Res × Heap) (e : g48 cf lf l h = some r) : stepN E cf lf 48 l h = some r := by
 unfold g48 at e
 split at e
 ·rw [f48_ok]; exact e
 ·cases e
noncomputable def g49 (cf : CallF) (lf : Nat) (l : List Value) (h : Heap) : Ans := match l with | [a0, a1, a2] => f49 cf lf a0 a1 a2 h | _ => none
theorem g49_ok (cf : CallF) (lf : Nat) (l : List Value) (h : Heap) (r : Res × Heap) (e : g49 cf lf l h = some r) : stepN E cf lf 49 l h = some r := by
 unfold g49 at e
 split at e
 ·rw [f49_ok]; exact e
 ·cases e
noncomputable def g50 (cf : CallF) (lf : Nat) (l : List Value) (h : Heap) : Ans := match l with | [a0, a1] => f50 cf lf a0 a1 h | _ => none
theorem g50_ok (cf : CallF) (lf : Nat) (l : List Value) (h : Heap) (r : Res × Heap) (e : g50 cf lf l h = some r) : stepN E cf lf 50 l h = some r := by
 unfold g50 at e
 split at e
 ·rw [f50_ok]; exact e
 ·cases e
noncomputable def g51 (cf : CallF) (lf : Nat) (l : List Value) (h : Heap) : Ans := match l with | [a0, a1, a2, a3] => f51 cf lf a0 a1 a2 a3 h | _ => none
theorem g51_ok (cf : CallF) (lf : Nat) (l : List Value) (h : Heap) (r : Res × Heap) (e : g51 cf lf l h = some r) : stepN E cf lf 51 l h = some r := by
 unfold g51 at e
 split at e
 ·rw [f51_ok]; exact e
 ·cases e
noncomputable def g60 (cf : CallF) (lf : Nat) (l : List Value) (h : Heap) : Ans := match l with | [a0, a1] => f60 cf lf a0 a1 h | _ => none
theorem g60_ok (cf : CallF) (lf : Nat) (l : List Value) (h : Heap) (r : Res × Heap) (e : g60 cf lf l h = some r) : stepN E cf lf 60 l h = some r := by
 unfold g60 at e
 split at e
 ·rw [f60_ok]; exact e
 ·cases e
noncomputable def g66 (cf : CallF) (lf : Nat) (l : List Value) (h : Heap) : Ans := match l with | [a0, a1] => f66 cf lf a0 a1 h | _ => none
theorem g66_ok (cf : CallF) (lf : Nat) (l : List Value) (h : Heap) (r : Res × Heap) (e : g66 cf lf l h = some r) : stepN E cf lf 66 l h = some r := by
 unfold g66 at e
 split at e
 ·rw [f66_ok]; exact e
 ·cases e
noncomputable def g67 (cf : CallF) (lf : Nat) (l : List Value) (h : Heap) : Ans := match l with | [a0, a1] => f67 cf lf a0 a1 h | _ => none
theorem g67_ok (cf : CallF) (lf : Nat) (l : List Value) (h : Heap) (r : Res × Heap) (e : g67 cf lf l h = some r) : stepN E cf lf 67 l h = some r := by
 unfold g67 at e
 split at e
 ·rw [f67_ok]; exact e
 ·cases e
noncomputable def g68 (cf : CallF) (lf : Nat) (l : List Value) (h : Heap) : Ans := match l with | [a0] => f68 cf lf a0 h | _ => none
theorem g68_ok (cf : CallF) (lf : Nat) (l : List Value) (h : Heap) (r : Res × Heap) (e : g68 cf lf l h = some r) : stepN E cf lf 68 l h = some r := by
 unfold g68 at e
 split at e
 ·rw [f68_ok]; exact e
 ·cases e
noncomputable def g69 (cf : CallF) (lf : Nat) (l : List Value) (h : Heap) : Ans := match l with | [a0, a1, a2] => f69 cf lf a0 a1 a2 h | _ => none
theorem g69_ok (cf : CallF) (lf : Nat) (l : List Value) (h : Heap) (r : Res × Heap) (e : g69 cf lf l h = some r) : stepN E cf lf 69 l h = some r := by
 unfold g69 at e
 split at e
 ·rw [f69_ok]; exact e
 ·cases e
noncomputable def g70 (cf : CallF) (lf : Nat) (l : List Value) (h : Heap) : Ans := match l with | [a0, a1, a2] => f70 cf lf a0 a1 a2 h | _ => none
theorem g70_ok (cf : CallF) (lf : Nat) (l : List Value) (h : Heap) (r : Res × Heap) (e : g70 cf lf l h = some r) : stepN E cf lf 70 l h = some r := by
 unfold g70 at e
 split at e
 ·rw [f70_ok]; exact e
 ·cases e
noncomputable def g71 (cf : CallF) (lf : Nat) (l : List Value) (h : Heap) : Ans := match l with | [a0, a1] => f71 cf lf a0 a1 h | _ => none
theorem g71_ok (cf : CallF) (lf : Nat) (l : List Value) (h : Heap) (r : Res × Heap) (e : g71 cf lf l h = some r) : stepN E cf lf 71 l h = some r := by
 unfold g71 at e
 split at e
 ·rw [f71_ok]; exact e
 ·cases e
noncomputable def g72 (cf : CallF) (lf : Nat) (l : List Value) (h : Heap) : Ans := match l with | [a0] => f72 cf lf a0 h | _ => none
theorem g72_ok (cf : CallF) (lf : Nat) (l : List Value) (h : Heap) (r : Res × Heap) (e : g72 cf lf l h = some r) : stepN E cf lf 72 l h = some r := by
 unfold g72 at e
 split at e
 ·rw [f72_ok]; exact e
 ·cases e
noncomputable def g73 (cf : CallF) (lf : Nat) (l : List Value) (h : Heap) : Ans := match l with | [a0, a1] => f73 cf lf a0 a1 h | _ => none
theorem g73_ok (cf : CallF) (lf : Nat) (l : List Value) (h : Heap) (r : Res × Heap) (e : g73 cf lf l h = some r) : stepN E cf lf 73 l h = some r := by
 unfold g73 at e
 split at e
 ·rw [f73_ok]; exact e
 ·cases e
noncomputable def g74 (cf : CallF) (lf : Nat) (l : List Value) (h : Heap) : Ans := match l with | [a0, a1, a2] => f74 cf lf a0 a1 a2 h | _ => none
theorem g74_ok (cf : CallF) (lf : Nat) (l : List Value) (h : Heap) (r : Res × Heap) (e : g74 cf lf l h = some r) : stepN E cf lf 74 l h = some r := by
 unfold g74 at e
 split at e
 ·rw [f74_ok]; exact e
 ·cases e
noncomputable def g75 (cf : CallF) (lf : Nat) (l : List Value) (h : Heap) : Ans := match l with | [a0, a1] => f75 cf lf a0 a1 h | _ => none
theorem g75_ok (cf : CallF) (lf : Nat) (l : List Value) (h : Heap) (r : Res × Heap) (e : g75 cf lf l h = some r) : stepN E cf lf 75 l h = some r := by
 unfold g75 at e
 split at e
 ·rw [f75_ok]; exact e
 ·cases e
noncomputable def g76 (cf : CallF) (lf : Nat) (l : List Value) (h : Heap) : Ans := match l with | [a0, a1] => f76 cf lf a0 a1 h | _ => none
theorem g76_ok (cf : CallF) (lf : Nat) (l : List Value) (h : Heap) (r : Res × Heap) (e : g76 cf lf l h = some r) : stepN E cf lf 76 l h = some r := by
 unfold g76 at e
 split at e
 ·rw [f76_ok]; exact e
 ·cases e
noncomputable def g77 (cf : CallF) (lf : Nat) (l : List Value) (h : Heap) : Ans := match l with | [a0, a1, a2] => f77 cf lf a0 a1 a2 h | _ => none
theorem g77_ok (cf : CallF) (lf : Nat) (l : List Value) (h : Heap) (r : Res × Heap) (e : g77 cf lf l h = some r) : stepN E cf lf 77 l h = some r := by
 unfold g77 at e
 split at e
 ·rw [f77_ok]; exact e
 ·cases e
noncomputable def g78 (cf : CallF) (lf : Nat) (l : List Value) (h : Heap) : Ans := match l with | [] => f78 cf lf  h | _ => none
theorem g78_ok (cf : CallF) (lf : Nat) (l : List Value) (h : Heap) (r : Res × Heap) (e : g78 cf lf l h = some r) : stepN E cf lf 78 l h = some r := by
 unfold g78 at e
 split at e
 ·rw [f78_ok]; exact e
 ·cases e
noncomputable def g85 (cf : CallF) (lf : Nat) (l : List Value) (h : Heap) : Ans := match l with | [a0, a1] => f85 cf lf a0 a1 h | _ => none
theorem g85_ok (cf : CallF) (lf : Nat) (l : List Value) (h : Heap) (r : Res × Heap) (e : g85 cf lf l h = some r) : stepN E cf lf 85 l h = some r := by
 unfold g85 at e
 split at e
 ·rw [f85_ok]; exact e
 ·cases e
noncomputable def g87 (cf : CallF) (lf : Nat) (l : List Value) (h : Heap) : Ans := match l with | [a0, a1] => f87 cf lf a0 a1 h | _ => none
theorem g87_ok (cf : CallF) (lf : Nat) (l : List Value) (h : Heap) (r : Res × Heap) (e : g87 cf lf l h = some r) : stepN E cf lf 87 l h = some r := by
 unfold g87 at e
 split at e
 ·rw [f87_ok]; exact e
 ·cases e
noncomputable def g88 (cf : CallF) (lf : Nat) (l : List Value) (h : Heap) : Ans := match l with | [a0, a1] => f88 cf lf a0 a1 h | _ => none
theorem g88_ok (cf : CallF) (lf : Nat) (l : List Value) (h : Heap) (r : Res × Heap) (e : g88 cf lf l h = some r) : stepN E cf lf 88 l h = some r := by
 unfold g88 at e
 split at e
 ·rw [f88_ok]; exact e
 ·cases e
noncomputable def g89 (cf : CallF) (lf : Nat) (l : List Value) (h : Heap) : Ans := match l with | [a0, a1, a2, a3] => f89 cf lf a0 a1 a2 a3 h | _ => none
theorem g89_ok (cf : CallF) (lf : Nat) (l : List Value) (h : Heap) (r : Res × Heap) (e : g89 cf lf l h = some r) : stepN E cf lf 89 l h = some r := by
 unfold g89 at e
 split at e
 ·rw [f89_ok]; exact e
 ·cases e
noncomputable def g90 (cf : CallF) (lf : Nat) (l : List Value) (h : Heap) : Ans := match l with | [a0, a1] => f90 cf lf a0 a1 h | _ => none
theorem g90_ok (cf : CallF) (lf : Nat) (l : List Value) (h : Heap) (r : Res × Heap) (e : g90 cf lf l h = some r) : stepN E cf lf 90 l h = some r := by
 unfold g90 at e
 split at e
 ·rw [f90_ok]; exact e
 ·cases e
noncomputable def g91 (cf : CallF) (lf : Nat) (l : List Value) (h : Heap) : Ans := match l with | [a0, a1] => f91 cf lf a0 a1 h | _ => none
theorem g91_ok (cf : CallF) (lf : Nat) (l : List Value) (h : Heap) (r : Res × Heap) (e : g91 cf lf l h = some r) : stepN E cf lf 91 l h = some r := by
 unfold g91 at e
 split at e
 ·rw [f91_ok]; exact e
 ·cases e
noncomputable def g92 (cf : CallF) (lf : Nat) (l : List Value) (h : Heap) : Ans := match l with | [a0, a1] => f92 cf lf a0 a1 h | _ => none
theorem g92_ok (cf : CallF) (lf : Nat) (l : List Value) (h : Heap) (r : Res × Heap) (e : g92 cf lf l h = some r) : stepN E cf lf 92 l h = some r := by
 unfold g92 at e
 split at e
 ·rw [f92_ok]; exact e
 ·cases e
noncomputable def g93 (cf : CallF) (lf : Nat) (l : List Value) (h : Heap) : Ans := match l with | [a0] => f93 cf lf a0 h | _ => none
theorem g93_ok (cf : CallF) (lf : Nat) (l : List Value) (h : Heap) (r : Res × Heap) (e : g93 cf lf l h = some r) : stepN E cf lf 93 l h = some r := by
 unfold g93 at e
 split at e
 ·rw [f93_ok]; exact e
 ·cases e
noncomputable def g95 (cf : CallF) (lf : Nat) (l : List Value) (h : Heap) : Ans := match l with | [a0] => f95 cf lf a0 h | _ => none
theorem g95_ok (cf : CallF) (lf : Nat) (l : List Value) (h : Heap) (r : Res × Heap) (e : g95 cf lf l h = some r) : stepN E cf lf 95 l h = some r := by
 unfold g95 at e
 split at e
 ·rw [f95_ok]; exact e
 ·cases e
noncomputable def g96 (cf : CallF) (lf : Nat) (l : List Value) (h : Heap) : Ans := match l with | [a0, a1] => f96 cf lf a0 a1 h | _ => none
theorem g96_ok (cf : CallF) (lf : Nat) (l : List Value) (h : Heap) (r : Res × Heap) (e : g96 cf lf l h = some r) : stepN E cf lf 96 l h = some r := by
 unfold g96 at e
 split at e
 ·rw [f96_ok]; exact e
 ·cases e
noncomputable def g98 (cf : CallF) (lf : Nat) (l : List Value) (h : Heap) : Ans := match l with | [a0, a1] => f98 cf lf a0 a1 h | _ => none
theorem g98_ok (cf : CallF) (lf : Nat) (l : List Value) (h : Heap) (r : Res × Heap) (e : g98 cf lf l h = some r) : stepN E cf lf 98 l h = some r := by
 unfold g98 at e
 split at e
 ·rw [f98_ok]; exact e
 ·cases e
noncomputable def g99 (cf : CallF) (lf : Nat) (l : List Value) (h : Heap) : Ans := match l with | [] => f99 cf lf  h | _ => none
theorem g99_ok (cf : CallF) (lf : Nat) (l : List Value) (h : Heap) (r : Res × Heap) (e : g99 cf lf l h = some r) : stepN E cf lf 99 l h = some r := by
 unfold g99 at e
 split at e
 ·rw [f99_ok]; exact e
 ·cases e
noncomputable def g100 (cf : CallF) (lf : Nat) (l : List Value) (h : Heap) : Ans := match l with | [a0] => f100 cf lf a0 h | _ => none
theorem g100_ok (cf : CallF) (lf : Nat) (l : List Value) (h : Heap) (r : Res × Heap) (e : g100 cf lf l h = some r) : stepN E cf lf 100 l h = some r := by
 unfold g100 at e
 split at e
 ·rw [f100_ok]; exact e
 ·cases e
noncomputable def g101 (cf : CallF) (lf : Nat) (l : List Value) (h : Heap) : Ans := match l with | [a0] => f101 cf lf a0 h | _ => none
theorem g101_ok (cf : CallF) (lf : Nat) (l : List Value) (h : Heap) (r : Res × Heap) (e : g101 cf lf l h = some r) : stepN E cf lf 101 l h = some r := by
 unfold g101 at e
 split at e
 ·rw [f101_ok]; exact e
 ·cases e
noncomputable def g102 (cf : CallF) (lf : Nat) (l : List Value) (h : Heap) : Ans := match l with | [a0] => f102 cf lf a0 h | _ => none
theorem g102_ok (cf : CallF) (lf : Nat) (l : List Value) (h : Heap) (r : Res × Heap) (e : g102 cf lf l h = some r) : stepN E cf lf 102 l h = some r := by
 unfold g102 at e
 split at e
 ·rw [f102_ok]; exact e
 ·cases e
noncomputable def g103 (cf : CallF) (lf : Nat) (l : List Value) (h : Heap) : Ans := match l with | [a0] => f103 cf lf a0 h | _ => none
theorem g103_ok (cf : CallF) (lf : Nat) (l : List Value) (h : Heap) (r : Res × Heap) (e : g103 cf lf l h = some r) : stepN E cf lf 103 l h = some r := by
 unfold g103 at e
 split at e
 ·rw [f103_ok]; exact e
 ·cases e
noncomputable def shT : Tr Step := (.node (.node (.node (.node (.node (.node .nil (some g31) (.node .nil (some g95) .nil)) (some g15) (.node .nil (some g47) .nil)) none (.node (.node (.node .nil (some g71) .nil) none (.node .nil (some g103) .nil)) (some g23) (.node (.node .nil (some g87) .nil) none .nil))) (some g3) (.node (.node (.node (.node .nil (some g67) .nil) (some g35) (.node .nil (some g99) .nil)) (some g19) (.node .nil (some g51) .nil)) (some g11) (.node (.node (.node .nil (some g75) .nil) none .nil) (some g27) (.node (.node .nil (some g91) .nil) none .nil)))) none (.node (.node (.node .nil none (.node .nil (some g49) .nil)) (some g9) (.node (.node (.node .nil (some g73) .nil) none .nil) (some g25) (.node (.node .nil (some g89) .nil) none .nil))) none (.node (.node (.node (.node .nil (some g69) .nil) none (.node .nil (some g101) .nil)) (some g21) (.node (.node .nil (some g85) .nil) none .nil)) (some g13) (.node (.node (.node .nil (some g77) .nil) (some g45) .nil) (some g29) (.node (.node .nil (some g93) .nil) none .nil))))) none (.node (.node (.node (.node (.node .nil none (.node .nil (some g96) .nil)) none (.node .nil (some g48) .nil)) (some g8) (.node (.node (.node .nil (some g72) .nil) none .nil) (some g24) (.node (.node .nil (some g88) .nil) none .nil))) none (.node (.node (.node (.node .nil (some g68) .nil) (some g36) (.node .nil (some g100) .nil)) (some g20) .nil) (some g12) (.node (.node (.node .nil (some g76) .nil) (some g44) .nil) (some g28) (.node (.node .nil (some g92) .nil) (some g60) .nil)))) none (.node (.node (.node (.node (.node .nil (some g66) .nil) (some g34) (.node .nil (some g98) .nil)) none (.node .nil (some g50) .nil)) (some g10) (.node (.node (.node .nil (some g74) .nil) none .nil) (some g26) (.node (.node .nil (some g90) .nil) none .nil))) none (.node (.node (.node (.node .nil (some g70) .nil) (some g38) (.node .nil (some g102) .nil)) (some g22) .nil) (some g14) (.node (.node (.node .nil (some g78) .nil) (some g46) .nil) (some g30) .nil)))))
noncomputable def shN : Nat → CallF := shG E shT
theorem shT_ok : Tr.All (fun f s => ∀ cf lf l h r, s cf lf l h = some r → stepN E cf lf f l h = some r) shT := by unfold shT; exact (Tr.all_none (Tr.all_none (Tr.all_some g3_ok (Tr.all_none (Tr.all_some g15_ok (Tr.all_some g31_ok Tr.all_nil (Tr.all_some g95_ok Tr.all_nil Tr.all_nil)) (Tr.all_some g47_ok Tr.all_nil Tr.all_nil)) (Tr.all_some g23_ok (Tr.all_none (Tr.all_some g71_ok Tr.all_nil Tr.all_nil) (Tr.all_some g103_ok Tr.all_nil Tr.all_nil)) (Tr.all_none (Tr.all_some g87_ok Tr.all_nil Tr.all_nil) Tr.all_nil))) (Tr.all_some g11_ok (Tr.all_some g19_ok (Tr.all_some g35_ok (Tr.all_some g67_ok Tr.all_nil Tr.all_nil) (Tr.all_some g99_ok Tr.all_nil Tr.all_nil)) (Tr.all_some g51_ok Tr.all_nil Tr.all_nil)) (Tr.all_some g27_ok (Tr.all_none (Tr.all_some g75_ok Tr.all_nil Tr.all_nil) Tr.all_nil) (Tr.all_none (Tr.all_some g91_ok Tr.all_nil Tr.all_nil) Tr.all_nil)))) (Tr.all_none (Tr.all_some g9_ok (Tr.all_none Tr.all_nil (Tr.all_some g49_ok Tr.all_nil Tr.all_nil)) (Tr.all_some g25_ok (Tr.all_none (Tr.all_some g73_ok Tr.all_nil Tr.all_nil) Tr.all_nil) (Tr.all_none (Tr.all_some g89_ok Tr.all_nil Tr.all_nil) Tr.all_nil))) (Tr.all_some g13_ok (Tr.all_some g21_ok (Tr.all_none (Tr.all_some g69_ok Tr.all_nil Tr.all_nil) (Tr.all_some g101_ok Tr.all_nil Tr.all_nil)) (Tr.all_none (Tr.all_some g85_ok Tr.all_nil Tr.all_nil) Tr.all_nil)) (Tr.all_some g29_ok (Tr.all_some g45_ok (Tr.all_some g77_ok Tr.all_nil Tr.all_nil) Tr.all_nil) (Tr.all_none (Tr.all_some g93_ok Tr.all_nil Tr.all_nil) Tr.all_nil))))) (Tr.all_none (Tr.all_none (Tr.all_some g8_ok (Tr.all_none (Tr.all_none Tr.all_nil (Tr.all_some g96_ok Tr.all_nil Tr.all_nil)) (Tr.all_some g48_ok Tr.all_nil Tr.all_nil)) (Tr.all_some g24_ok (Tr.all_none (Tr.all_some g72_ok Tr.all_nil Tr.all_nil) Tr.all_nil) (Tr.all_none (Tr.all_some g88_ok Tr.all_nil Tr.all_nil) Tr.all_nil))) (Tr.all_some g12_ok (Tr.all_some g20_ok (Tr.all_some g36_ok (Tr.all_some g68_ok Tr.all_nil Tr.all_nil) (Tr.all_some g100_ok Tr.all_nil Tr.all_nil)) Tr.all_nil) (Tr.all_some g28_ok (Tr.all_some g44_ok (Tr.all_some g76_ok Tr.all_nil Tr.all_nil) Tr.all_nil) (Tr.all_some g60_ok (Tr.all_some g92_ok Tr.all_nil Tr.all_nil) Tr.all_nil)))) (Tr.all_none (Tr.all_some g10_ok (Tr.all_none (Tr.all_some g34_ok (Tr.all_some g66_ok Tr.all_nil Tr.all_nil) (Tr.all_some g98_ok Tr.all_nil Tr.all_nil)) (Tr.all_some g50_ok Tr.all_nil Tr.all_nil)) (Tr.all_some g26_ok (Tr.all_none (Tr.all_some g74_ok Tr.all_nil Tr.all_nil) Tr.all_nil) (Tr.all_none (Tr.all_some g90_ok Tr.all_nil Tr.all_nil) Tr.all_nil))) (Tr.all_some g14_ok (Tr.all_some g22_ok (Tr.all_some g38_ok (Tr.all_some g70_ok Tr.all_nil Tr.all_nil) (Tr.all_some g102_ok Tr.all_nil Tr.all_nil)) Tr.all_nil) (Tr.all_some g30_ok (Tr.all_some g46_ok (Tr.all_some g78_ok Tr.all_nil Tr.all_nil) Tr.all_nil) Tr.all_nil)))))
end Go.Proofs.YteekjekckgpbfaaDoor.Abs
end
section
namespace Go.Proofs.YteekjekckgpbfaaDoor.Abs
open Go.RowKit (Below)
theorem nglobals : Tryd.prog.globals.size = 4 := by kernel_rfl
theorem lexEnv {B : Nat} {w0 : World} (h0 : TypeCell w0) (hB : 0 < B) : EnvOk Tryd.prog B w0 4 okDraw E := env_ok tyT_ok fnT_ok prim_ok (ext_ok h0 hB)
theorem lexCF {B : Nat} {w0 : World} (h0 : TypeCell w0) (hB : 0 < B) (n : Nat) : CFOk Tryd.prog B w0 (shN n) :=
 shG_ok (by kernel_rfl) (lexEnv h0 hB) (by rw [nglobals]; exact Nat.le_refl _) (defer_ok fnT_ok) (ext_ok h0 hB) shT_ok n
theorem works_run : isT (shN 1000 12 [] (h0 4)) = true := by kernel_rfl
theorem works {W : World} (h : TypeCell W) (hs : 4 ≤ W.heap.size) : Calls Tryd.prog 12 ⟨[]⟩ W fun e w' => e = .returned (.bool true) ∧ Below W.heap.size W w' := by
 obtain ⟨h', e⟩ := isT_some works_run
 rw [← nglobals] at e
 exact call_true (by rw [nglobals]; exact hs) (lexCF h (by omega) 1000) .nil e
end Go.Proofs.YteekjekckgpbfaaDoor.Abs
end
section
namespace Go.Proofs.YteekjekckgpbfaaDoor.Abs
/-! ### A run that answers -/
def wp (x : Ans) (Q : Res → Heap → Prop) : Prop := ∃ r h, x = some (r, h) ∧ Q r h
theorem wp_some {r : Res} {h : Heap} {Q : Res → Heap → Prop} : wp (some (r, h)) Q ↔ Q r h :=
 ⟨fun ⟨_, _, e, q⟩ => by injection e with e; injection e with e1 e2; subst e1; subst e2; exact q, fun q => ⟨_, _, rfl, q⟩⟩
theorem wp_mono {x : Ans} {Q R : Res → Heap → Prop} (h : wp x Q) (k : ∀ r h', Q r h' → R r h') : wp x R := let ⟨r, h', e, q⟩ := h; ⟨r, h', e, k r h' q⟩
theorem wp_bindR {x : Ans} {G F : Value → Heap → Ans} {Q R : Res → Heap → Prop} (hx : wp x Q) (hr : ∀ v h, Q (.ret v) h → wp (F v h) R) (hp : ∀ v h, Q (.panic v) h → wp (G v h) R) : wp (bindR x G F) R := by
 obtain ⟨r, h, rfl, q⟩ := hx
 cases r with
 | ret v => exact hr v h q
 | panic v => exact hp v h q
theorem wp_eq {x y : Ans} {Q : Res → Heap → Prop} (e : x = y) (h : wp y Q) : wp x Q := e ▸ h
theorem wp_cond {b : Bool} {x y : Ans} {Q : Res → Heap → Prop} (ht : b = true → wp x Q) (hf : b = false → wp y Q) : wp (condV (.bool b) x y) Q := by
 cases b with
 | true => exact ht rfl
 | false => exact hf rfl
theorem bindO_some (v : Value) (F : Value → Ans) : bindO (some v) F = F v := rfl
theorem bindR_ret (v : Value) (h : Heap) (G F : Value → Heap → Ans) : bindR (some (.ret v, h)) G F = F v h := rfl
theorem bindR_panic (v : Value) (h : Heap) (G F : Value → Heap → Ans) : bindR (some (.panic v, h)) G F = G v h := rfl
theorem bindO_congr {x y : Option Value} {F : Value → Ans} (e : x = y) : bindO x F = bindO y F := by rw [e]
theorem bindR_congr {x y : Ans} {G F : Value → Heap → Ans} (e : x = y) : bindR x G F = bindR y G F := by rw [e]
theorem condV_congr {v u : Value} {x y : Ans} (e : v = u) : condV v x y = condV u x y := by rw [e]
theorem wp_congr {x y : Ans} {Q : Res → Heap → Prop} (e : x = y) : wp x Q = wp y Q := by rw [e]
theorem gO_true (x : Option Value) : gO true x = x := rfl
theorem gO_false (x : Option Value) : gO false x = some undef := rfl
theorem gR_true (x : Ans) (h : Heap) : gR true x h = x := rfl
theorem gR_false (x : Ans) (h : Heap) : gR false x h = some (.ret undef, h) := rfl
theorem boolIs_bool (w b : Bool) : boolIs w (.bool b) = (b == w) := rfl
theorem condV_true (x y : Ans) : condV (.bool true) x y = x := rfl
theorem condV_false (x y : Ans) : condV (.bool false) x y = y := rfl
theorem pickA_true (x y : Value) : pickA (.bool true) x y = some x := rfl
theorem pickA_false (x y : Value) : pickA (.bool false) x y = some y := rfl
theorem nilA_ptr (a : Addr) : nilA (.pointer (some a)) = some (.pointer (some a)) := rfl
theorem unA_not (b : Bool) : unA .not (.bool b) = some (.bool (!b)) := rfl
theorem valR_some (v : Value) (h : Heap) : valR (some (v, h)) = some (.ret v, h) := rfl
theorem skipR_some (h : Heap) : skipR (some h) = some (.ret undef, h) := rfl
theorem extractA_0 (a b : Value) : extractA (.tuple ⟨[a, b]⟩) 0 = some a := rfl
theorem extractA_1 (a b : Value) : extractA (.tuple ⟨[a, b]⟩) 1 = some b := rfl
theorem callA_func (E : Env) (cf : CallF) (g : Nat) (a c : List Value) (args : List Value) (h : Heap) (hp : E.prim g (a ++ args ++ c) h = none) : callA E cf (.func (.func g) ⟨a⟩ ⟨c⟩) args h = cf g (a ++ args ++ c) h := by
 show (match E.prim g (a ++ args ++ c) h with | some (v, h') => some (Res.ret v, h') | none => cf g (a ++ args ++ c) h) = _
 rw [hp]
/-! ### Numbers -/
theorem wrap_id (n : Int) (a : -9223372036854775808 ≤ n) (b : n < 9223372036854775808) : wrapA .i64 n = n := by
 have h1 : decide (0 ≤ n + two63) = true := decide_eq_true (by unfold two63; omega)
 have h2 : decide (n + two63 < two64) = true := decide_eq_true (by unfold two63 two64; omega)
 simp [wrapA, h1, h2]
section
variable (E : Env) (t : Nat)
theorem bin_add (a b : Int) : binA E t .add (.int .i64 a) (.int .i64 b) = some (.int .i64 (wrapA .i64 (a + b))) := rfl
theorem bin_sub (a b : Int) : binA E t .sub (.int .i64 a) (.int .i64 b) = some (.int .i64 (wrapA .i64 (a - b))) := rfl
theorem bin_mul (a b : Int) : binA E t .mul (.int .i64 a) (.int .i64 b) = some (.int .i64 (wrapA .i64 (a * b))) := rfl
theorem bin_eql (k : IntKind) (a b : Int) : binA E t .eql (.int k a) (.int k b) = some (.bool (a == b)) := by cases k <;> rfl
theorem bin_neq (k : IntKind) (a b : Int) : binA E t .neq (.int k a) (.int k b) = some (.bool (a != b)) := by cases k <;> rfl
theorem bin_lss (k : IntKind) (a b : Int) : binA E t .lss (.int k a) (.int k b) = some (.bool (decide (a < b))) := by cases k <;> rfl
theorem bin_leq (k : IntKind) (a b : Int) : binA E t .leq (.int k a) (.int k b) = some (.bool (decide (a ≤ b))) := by cases k <;> rfl
theorem bin_gtr (k : IntKind) (a b : Int) : binA E t .gtr (.int k a) (.int k b) = some (.bool (decide (b < a))) := by cases k <;> rfl
theorem bin_geq (k : IntKind) (a b : Int) : binA E t .geq (.int k a) (.int k b) = some (.bool (decide (b ≤ a))) := by cases k <;> rfl
theorem bin_sadd (a b : List UInt8) (h : a.length + b.length ≤ most) : binA E t .add (.string (mkS a)) (.string (mkS b)) = some (.string (mkS (a ++ b))) := by
 have : decide (slen (mkS a) + slen (mkS b) ≤ most) = true := decide_eq_true h
 show (bif decide (slen (mkS a) + slen (mkS b) ≤ most) then some (Value.string (mkS (sl (mkS a) ++ sl (mkS b)))) else none) = _
 rw [this]; rfl
theorem bin_seql (a b : List UInt8) : binA E t .eql (.string (mkS a)) (.string (mkS b)) = some (.bool (a == b)) := rfl
theorem bin_sneq (a b : List UInt8) : binA E t .neq (.string (mkS a)) (.string (mkS b)) = some (.bool (!(a == b))) := rfl
theorem binB_int (op : BinOp) (k : IntKind) (a : Int) (y : Value) : binB E t op (.int k a) y = binA E t op (.int k a) y := rfl
theorem binB_str (op : BinOp) (s : ByteArray) (y : Value) : binB E t op (.string s) y = binA E t op (.string s) y := rfl
theorem binB_bool (op : BinOp) (b : Bool) (y : Value) : binB E t op (.bool b) y = binA E t op (.bool b) y := rfl
end
theorem u8_eq (a b : UInt8) : ((a.toNat : Int) == (b.toNat : Int)) = (a == b) := by
 rw [Bool.eq_iff_iff, beq_iff_eq, beq_iff_eq, ← UInt8.toNat_inj]; omega
theorem u8_eqn (a : UInt8) (n : Nat) (hn : n < 256) : ((a.toNat : Int) == (n : Int)) = (a == UInt8.ofNat n) := by
 have := u8_eq a (UInt8.ofNat n)
 rwa [show (UInt8.ofNat n).toNat = n from by simp; omega] at this
theorem u8_nen (a : UInt8) (n : Nat) (hn : n < 256) : ((a.toNat : Int) != (n : Int)) = (a != UInt8.ofNat n) := by
 simp only [bne, u8_eqn a n hn]
theorem u8_of (a : UInt8) : UInt8.ofNat ((a.toNat : Int).toNat) = a := by simp
/-! ### Strings -/
theorem sl_mkS (l : List UInt8) : sl (mkS l) = l := rfl
theorem slen_mkS (l : List UInt8) : slen (mkS l) = l.length := rfl
theorem mkS_sl (s : ByteArray) : mkS (sl s) = s := rfl
/-! ### The heap -/
theorem blk_set_eq {h : Heap} {b : Nat} {k : Blk} (hb : b < h.next) : (h.set b (.cells k)).blk b = some k :=
 Heap.blk_of (by rw [Heap.get_set, if_pos rfl]) hb
theorem blk_set_ne {h : Heap} {b c : Nat} {o : AObj} (hn : c ≠ b) : (h.set b o).blk c = h.blk c := by
 simp [Heap.blk, Heap.get_set, hn]; rfl
theorem blk_kill_ne {h : Heap} {b c : Nat} (hn : c ≠ b) : (h.kill b).blk c = h.blk c := by
 simp [Heap.blk, Heap.get_kill, hn]; rfl
theorem blk_alloc_eq {h : Heap} {k : Blk} : (h.alloc (.cells k)).blk h.next = some k :=
 Heap.blk_of (by rw [Heap.get_alloc, if_pos rfl]) (by show h.next < h.next + 1; omega)
theorem blk_alloc_eq' {h : Heap} {k : Blk} {b : Nat} (e : b = h.next) : (h.alloc (.cells k)).blk b = some k := e ▸ blk_alloc_eq
theorem blk_alloc_lt {h : Heap} {c : Nat} {o : AObj} (hn : c < h.next) : (h.alloc o).blk c = h.blk c := by
 have h1 : c ≠ h.next := by omega
 have h2 : Nat.blt c (h.alloc o).next = Nat.blt c h.next := by
  rw [Bool.eq_iff_iff, Nat.blt_eq, Nat.blt_eq]; show c < h.next + 1 ↔ c < h.next; omega
 simp only [Heap.blk, Heap.get_alloc, h1, if_false, h2]
theorem next_set (h : Heap) (b : Nat) (o : AObj) : (h.set b o).next = h.next := rfl
theorem next_kill (h : Heap) (b : Nat) : (h.kill b).next = h.next := rfl
theorem next_alloc (h : Heap) (o : AObj) : (h.alloc o).next = h.next + 1 := rfl
theorem blk_lt' {h : Heap} {b : Nat} {k : Blk} (e : h.blk b = some k) : b < h.next := Heap.blk_lt e
/-! ### Loads and stores, at a type that is known -/
section
variable {E : Env} {t : Nat} {i : TI} (ht : E.ty t = some i)
include ht
theorem load_one (ha : isAggD i.desc = false) (b off : Nat) (h : Heap) : loadA E t (.pointer (some ⟨b, off, none⟩)) h = (h.blk b).bind fun k => k.cells[off]? := by
 show (match h.blk b with | none => none | some k => match E.ty t with | none => none | some i => partA (isAggD i.desc) k.cells off i.size) = _
 cases h.blk b with
 | none => rfl
 | some k => simp [ht, partA, ha]
theorem load_agg (ha : isAggD i.desc = true) (b off : Nat) (h : Heap) : loadA E t (.pointer (some ⟨b, off, none⟩)) h = (h.blk b).bind fun k => bif decide (off + i.size ≤ k.cells.length) then some (.agg ⟨(k.cells.drop off).take i.size⟩) else none := by
 show (match h.blk b with | none => none | some k => match E.ty t with | none => none | some i => partA (isAggD i.desc) k.cells off i.size) = _
 cases h.blk b with
 | none => rfl
 | some k => simp [ht, partA, ha]
theorem store_at (b off : Nat) (x : Value) (h : Heap) : storeA E t (.pointer (some ⟨b, off, none⟩)) x h = (h.blk b).bind fun k =>
  bif k.own && (vcells x).length == i.size && (vcells x).all oneC && decide (off + (vcells x).length ≤ k.cells.length) then some (h.set b (.cells ⟨k.elem, putL k.cells off (vcells x), true⟩)) else none := by
 show (match h.blk b with | none => none | some k => match E.ty t with | none => none | some i => bif k.own && (vcells x).length == i.size && (vcells x).all oneC && decide (off + (vcells x).length ≤ k.cells.length) then some (h.set b (.cells ⟨k.elem, putL k.cells off (vcells x), true⟩)) else none) = _
 cases h.blk b with
 | none => rfl
 | some k => simp [ht]
end
end Go.Proofs.YteekjekckgpbfaaDoor.Abs
end
section
namespace Go.Proofs.YteekjekckgpbfaaDoor.Abs
section
variable {E : Env} {t e : Nat} {i ie : TI} (ht : E.ty t = some i)
theorem natOf_nat (k : IntKind) (n : Nat) : natOf (.int k (n : Int)) = some n := by
 simp [natOf]
theorem idx_slice (ht : E.ty t = some i) (hd : i.desc = .slice e) (he : E.ty e = some ie) {sz : Nat} (hs : ie.size = sz) (b off n c j : Nat) (hj : j < n) :
  indexAddrA E t (.slice (some ⟨b, off, none⟩) n c) (.int .i64 (j : Int)) = some (.pointer (some ⟨b, off + j * sz, none⟩)) := by
 obtain ⟨d, s1, b1, z1⟩ := i
 simp only at hd
 subst hd
 subst hs
 simp [indexAddrA, ht, he, natOf_nat, hj]
theorem idx_str (ht : E.ty t = some i) (hd : i.desc = .string) (l : List UInt8) (j : Nat) (c : UInt8) (hc : l[j]? = some c) : indexA E t (.string (mkS l)) (.int .i64 (j : Int)) = some (.int .u8 (c.toNat : Int)) := by
 obtain ⟨d, s1, b1, z1⟩ := i
 simp only at hd
 subst hd
 simp [indexA, ht, natOf_nat, sl_mkS, hc, byteV]
theorem sls_lh (ht : E.ty t = some i) (hd : i.desc = .string) (l : List UInt8) (a b : Nat) (h : Heap) (hab : a ≤ b) (hb : b ≤ l.length) : sliceA E t (.string (mkS l)) (some (.int .i64 (a : Int))) (some (.int .i64 (b : Int))) h = some (.string (mkS ((l.drop a).take (b - a)))) := by
 obtain ⟨d, s1, b1, z1⟩ := i
 simp only at hd
 subst hd
 simp [sliceA, ht, natOf_nat, sl_mkS, slen_mkS, boundA, hab, hb]
theorem sls_lo (ht : E.ty t = some i) (hd : i.desc = .string) (l : List UInt8) (a : Nat) (h : Heap) (ha : a ≤ l.length) : sliceA E t (.string (mkS l)) (some (.int .i64 (a : Int))) none h = some (.string (mkS (l.drop a))) := by
 obtain ⟨d, s1, b1, z1⟩ := i
 simp only at hd
 subst hd
 have : (l.drop a).take (l.length - a) = l.drop a := List.take_of_length_le (by simp)
 simp [sliceA, ht, natOf_nat, sl_mkS, slen_mkS, boundA, ha, this]
theorem sls_hi (ht : E.ty t = some i) (hd : i.desc = .string) (l : List UInt8) (b : Nat) (h : Heap) (hb : b ≤ l.length) : sliceA E t (.string (mkS l)) none (some (.int .i64 (b : Int))) h = some (.string (mkS (l.take b))) := by
 obtain ⟨d, s1, b1, z1⟩ := i
 simp only at hd
 subst hd
 simp [sliceA, ht, natOf_nat, sl_mkS, slen_mkS, boundA, hb]
theorem bsl_one (ht : E.ty t = some i) (hd : i.desc = .slice e) (he : E.ty e = some ie) {sz : Nat} (hs : ie.size = sz) (hz : ie.zero.length = sz) (hsz : 0 < sz ∧ sz ≤ 1000) (x : Value) (h : Heap) (hx : (vcells x).length = sz) :
  buildSliceA E t 1 [(0, x)] h = some (.slice (some ⟨h.next, 0, none⟩) 1 1, h.alloc (.cells ⟨e, vcells x, true⟩)) := by
 obtain ⟨d, s1, b1, z1⟩ := i
 simp only at hd
 subst hd
 subst hs
 have h1 : ¬ ie.size > 1000 := by omega
 have hp : putL ie.zero 0 (vcells x) = vcells x := by
  simp [putL, hx, List.drop_of_length_le (show ie.zero.length ≤ ie.size from by omega)]
 simp [buildSliceA, sliceOf, ht, he, h1, fillL, repL, hx, hz, hp]
theorem row_some (h : Heap) (b off m c sz : Nat) (k : Blk) (hk : h.blk b = some k) (hm : 0 < m) (hl : off + m * sz ≤ k.cells.length) : readRow h (.slice (some ⟨b, off, none⟩) m c) sz = some ((k.cells.drop off).take (m * sz)) := by
 have h1 : (m == 0) = false := by simp; omega
 simp [readRow, h1, hk, hl]
theorem app_zero (ht : E.ty t = some i) (hd : i.desc = .slice e) (he : E.ty e = some ie) (h0 : (ie.size == 0 || ie.bytes == 0) = false) (s : Value) (a : Option Addr) (c : Nat) (h : Heap) (hv : s = .slice none 0 0 ∨ ∃ b n c, s = .slice (some b) n c) :
  appendA E t s (.slice a 0 c) h = some (s, h) := by
 obtain ⟨d, s1, b1, z1⟩ := i
 simp only at hd
 subst hd
 have hr : readRow h (.slice a 0 c) ie.size = some [] := by cases a <;> rfl
 rcases hv with rfl | ⟨b, n, c', rfl⟩ <;> simp only [appendA, ht, he, h0, lenV, hr] <;> simp
theorem app_nil (ht : E.ty t = some i) (hd : i.desc = .slice e) (he : E.ty e = some ie) (h0 : (ie.size == 0 || ie.bytes == 0) = false) {sz bt : Nat} (hs : ie.size = sz) (hbt : ie.bytes = bt) (b off m c : Nat) (k : Blk) (h : Heap) (hk : h.blk b = some k) (hm : 0 < m)
  (hl : off + m * sz ≤ k.cells.length) (ho : ((k.cells.drop off).take (m * sz)).all oneC = true) (hb : m * bt ≤ most) :
  appendA E t (.slice none 0 0) (.slice (some ⟨b, off, none⟩) m c) h = some (.slice (some ⟨h.next, 0, none⟩) m m, h.alloc (.cells ⟨e, (k.cells.drop off).take (m * sz), true⟩)) := by
 obtain ⟨d, s1, b1, z1⟩ := i
 simp only at hd
 subst hd
 subst hs
 subst hbt
 have hr := row_some h b off m c ie.size k hk hm hl
 have h1 : (m == 0) = false := by simp; omega
 have h2 : ((k.cells.drop off).take (m * ie.size)).length = m * ie.size := by simp; omega
 simp only [appendA, ht, he, h0, lenV, hr, h2, ho, h1]
 simp [hb]
theorem app_some (ht : E.ty t = some i) (hd : i.desc = .slice e) (he : E.ty e = some ie) (h0 : (ie.size == 0 || ie.bytes == 0) = false) {sz bt : Nat} (hs : ie.size = sz) (hbt : ie.bytes = bt) (a n c0 b off m c : Nat) (cs : List Value) (k : Blk) (h : Heap)
  (ha : h.blk a = some ⟨e, cs, true⟩) (hn : cs.length = n * sz) (hk : h.blk b = some k) (hm : 0 < m) (hl : off + m * sz ≤ k.cells.length) (ho : ((k.cells.drop off).take (m * sz)).all oneC = true) (hb : (n + m) * bt ≤ most) :
  appendA E t (.slice (some ⟨a, 0, none⟩) n c0) (.slice (some ⟨b, off, none⟩) m c) h = some (.slice (some ⟨h.next, 0, none⟩) (n + m) (n + m), (h.kill a).alloc (.cells ⟨e, cs ++ (k.cells.drop off).take (m * sz), true⟩)) := by
 obtain ⟨d, s1, b1, z1⟩ := i
 simp only at hd
 subst hd
 subst hs
 subst hbt
 have hr := row_some h b off m c ie.size k hk hm hl
 have h1 : (m == 0) = false := by simp; omega
 have h2 : ((k.cells.drop off).take (m * ie.size)).length = m * ie.size := by simp; omega
 simp only [appendA, ht, he, h0, lenV, hr, h2, ho, h1, ha]
 simp [hb, hn]
end
end Go.Proofs.YteekjekckgpbfaaDoor.Abs
end
