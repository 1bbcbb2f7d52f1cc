/- A part of the proof: the abstract machine, the printed functions, what they compute. -/
import Derived.Test.YteekjekckgpbfaaDoorM2
import Derived.Test.YteekjekckgpbfaaDoorM0
import Derived.Test.YteekjekckgpbfaaDoorM1
import Derived.KernelRfl
set_option linter.unusedVariables false
set_option linter.unusedSimpArgs false
set_option linter.defProp false
set_option linter.unnecessarySimpa false
section
set_option maxRecDepth 100000
namespace Go.Proofs.YteekjekckgpbfaaDoor.Abs
noncomputable def g8 (cf : CallF) (lf : Nat) (l : List Value) (h : Heap) : Ans := match l with | [a0] => f8 cf lf a0 h | _ => none
theorem g8_ok (cf : CallF) (lf : Nat) (l : List Value) (h : Heap) (r : Res × Heap) (e : g8 cf lf l h = some r) : stepN E cf lf 8 l h = some r := by
 unfold g8 at e
 split at e
 ·rw [f8_ok]; exact e
 ·cases e
noncomputable def g10 (cf : CallF) (lf : Nat) (l : List Value) (h : Heap) : Ans := match l with | [a0, a1] => f10 cf lf a0 a1 h | _ => none
theorem g10_ok (cf : CallF) (lf : Nat) (l : List Value) (h : Heap) (r : Res × Heap) (e : g10 cf lf l h = some r) : stepN E cf lf 10 l h = some r := by
 unfold g10 at e
 split at e
 ·rw [f10_ok]; exact e
 ·cases e
noncomputable def g11 (cf : CallF) (lf : Nat) (l : List Value) (h : Heap) : Ans := match l with | [a0, a1] => f11 cf lf a0 a1 h | _ => none
theorem g11_ok (cf : CallF) (lf : Nat) (l : List Value) (h : Heap) (r : Res × Heap) (e : g11 cf lf l h = some r) : stepN E cf lf 11 l h = some r := by
 unfold g11 at e
 split at e
 ·rw [f11_ok]; exact e
 ·cases e
noncomputable def g12 (cf : CallF) (lf : Nat) (l : List Value) (h : Heap) : Ans := match l with | [] => f12 cf lf  h | _ => none
theorem g12_ok (cf : CallF) (lf : Nat) (l : List Value) (h : Heap) (r : Res × Heap) (e : g12 cf lf l h = some r) : stepN E cf lf 12 l h = some r := by
 unfold g12 at e
 split at e
 ·rw [f12_ok]; exact e
 ·cases e
noncomputable def g13 (cf : CallF) (lf : Nat) (l : List Value) (h : Heap) : Ans := match l with | [a0, a1] => f13 cf lf a0 a1 h | _ => none
theorem g13_ok (cf : CallF) (lf : Nat) (l : List Value) (h : Heap) (r : Res × Heap) (e : g13 cf lf l h = some r) : stepN E cf lf 13 l h = some r := by
 unfold g13 at e
 split at e
 ·rw [f13_ok]; exact e
 ·cases e
noncomputable def g14 (cf : CallF) (lf : Nat) (l : List Value) (h : Heap) : Ans := match l with | [a0] => f14 cf lf a0 h | _ => none
theorem g14_ok (cf : CallF) (lf : Nat) (l : List Value) (h : Heap) (r : Res × Heap) (e : g14 cf lf l h = some r) : stepN E cf lf 14 l h = some r := by
 unfold g14 at e
 split at e
 ·rw [f14_ok]; exact e
 ·cases e
noncomputable def g15 (cf : CallF) (lf : Nat) (l : List Value) (h : Heap) : Ans := match l with | [a0, a1, a2] => f15 cf lf a0 a1 a2 h | _ => none
theorem g15_ok (cf : CallF) (lf : Nat) (l : List Value) (h : Heap) (r : Res × Heap) (e : g15 cf lf l h = some r) : stepN E cf lf 15 l h = some r := by
 unfold g15 at e
 split at e
 ·rw [f15_ok]; exact e
 ·cases e
noncomputable def g19 (cf : CallF) (lf : Nat) (l : List Value) (h : Heap) : Ans := match l with | [a0] => f19 cf lf a0 h | _ => none
theorem g19_ok (cf : CallF) (lf : Nat) (l : List Value) (h : Heap) (r : Res × Heap) (e : g19 cf lf l h = some r) : stepN E cf lf 19 l h = some r := by
 unfold g19 at e
 split at e
 ·rw [f19_ok]; exact e
 ·cases e
noncomputable def g20 (cf : CallF) (lf : Nat) (l : List Value) (h : Heap) : Ans := match l with | [a0] => f20 cf lf a0 h | _ => none
theorem g20_ok (cf : CallF) (lf : Nat) (l : List Value) (h : Heap) (r : Res × Heap) (e : g20 cf lf l h = some r) : stepN E cf lf 20 l h = some r := by
 unfold g20 at e
 split at e
 ·rw [f20_ok]; exact e
 ·cases e
noncomputable def g21 (cf : CallF) (lf : Nat) (l : List Value) (h : Heap) : Ans := match l with | [a0] => f21 cf lf a0 h | _ => none
theorem g21_ok (cf : CallF) (lf : Nat) (l : List Value) (h : Heap) (r : Res × Heap) (e : g21 cf lf l h = some r) : stepN E cf lf 21 l h = some r := by
 unfold g21 at e
 split at e
 ·rw [f21_ok]; exact e
 ·cases e
noncomputable def g22 (cf : CallF) (lf : Nat) (l : List Value) (h : Heap) : Ans := match l with | [a0] => f22 cf lf a0 h | _ => none
theorem g22_ok (cf : CallF) (lf : Nat) (l : List Value) (h : Heap) (r : Res × Heap) (e : g22 cf lf l h = some r) : stepN E cf lf 22 l h = some r := by
 unfold g22 at e
 split at e
 ·rw [f22_ok]; exact e
 ·cases e
noncomputable def g23 (cf : CallF) (lf : Nat) (l : List Value) (h : Heap) : Ans := match l with | [a0, a1] => f23 cf lf a0 a1 h | _ => none
theorem g23_ok (cf : CallF) (lf : Nat) (l : List Value) (h : Heap) (r : Res × Heap) (e : g23 cf lf l h = some r) : stepN E cf lf 23 l h = some r := by
 unfold g23 at e
 split at e
 ·rw [f23_ok]; exact e
 ·cases e
noncomputable def g24 (cf : CallF) (lf : Nat) (l : List Value) (h : Heap) : Ans := match l with | [a0] => f24 cf lf a0 h | _ => none
theorem g24_ok (cf : CallF) (lf : Nat) (l : List Value) (h : Heap) (r : Res × Heap) (e : g24 cf lf l h = some r) : stepN E cf lf 24 l h = some r := by
 unfold g24 at e
 split at e
 ·rw [f24_ok]; exact e
 ·cases e
noncomputable def g25 (cf : CallF) (lf : Nat) (l : List Value) (h : Heap) : Ans := match l with | [a0, a1] => f25 cf lf a0 a1 h | _ => none
theorem g25_ok (cf : CallF) (lf : Nat) (l : List Value) (h : Heap) (r : Res × Heap) (e : g25 cf lf l h = some r) : stepN E cf lf 25 l h = some r := by
 unfold g25 at e
 split at e
 ·rw [f25_ok]; exact e
 ·cases e
noncomputable def g34 (cf : CallF) (lf : Nat) (l : List Value) (h : Heap) : Ans := match l with | [a0, a1] => f34 cf lf a0 a1 h | _ => none
theorem g34_ok (cf : CallF) (lf : Nat) (l : List Value) (h : Heap) (r : Res × Heap) (e : g34 cf lf l h = some r) : stepN E cf lf 34 l h = some r := by
 unfold g34 at e
 split at e
 ·rw [f34_ok]; exact e
 ·cases e
noncomputable def g35 (cf : CallF) (lf : Nat) (l : List Value) (h : Heap) : Ans := match l with | [a0, a1] => f35 cf lf a0 a1 h | _ => none
theorem g35_ok (cf : CallF) (lf : Nat) (l : List Value) (h : Heap) (r : Res × Heap) (e : g35 cf lf l h = some r) : stepN E cf lf 35 l h = some r := by
 unfold g35 at e
 split at e
 ·rw [f35_ok]; exact e
 ·cases e
noncomputable def g36 (cf : CallF) (lf : Nat) (l : List Value) (h : Heap) : Ans := match l with | [a0] => f36 cf lf a0 h | _ => none
theorem g36_ok (cf : CallF) (lf : Nat) (l : List Value) (h : Heap) (r : Res × Heap) (e : g36 cf lf l h = some r) : stepN E cf lf 36 l h = some r := by
 unfold g36 at e
 split at e
 ·rw [f36_ok]; exact e
 ·cases e
noncomputable def g38 (cf : CallF) (lf : Nat) (l : List Value) (h : Heap) : Ans := match l with | [a0, a1] => f38 cf lf a0 a1 h | _ => none
theorem g38_ok (cf : CallF) (lf : Nat) (l : List Value) (h : Heap) (r : Res × Heap) (e : g38 cf lf l h = some r) : stepN E cf lf 38 l h = some r := by
 unfold g38 at e
 split at e
 ·rw [f38_ok]; exact e
 ·cases e
noncomputable def g44 (cf : CallF) (lf : Nat) (l : List Value) (h : Heap) : Ans := match l with | [a0, a1] => f44 cf lf a0 a1 h | _ => none
theorem g44_ok (cf : CallF) (lf : Nat) (l : List Value) (h : Heap) (r : Res × Heap) (e : g44 cf lf l h = some r) : stepN E cf lf 44 l h = some r := by
 unfold g44 at e
 split at e
 ·rw [f44_ok]; exact e
 ·cases e
noncomputable def g45 (cf : CallF) (lf : Nat) (l : List Value) (h : Heap) : Ans := match l with | [a0, a1] => f45 cf lf a0 a1 h | _ => none
theorem g45_ok (cf : CallF) (lf : Nat) (l : List Value) (h : Heap) (r : Res × Heap) (e : g45 cf lf l h = some r) : stepN E cf lf 45 l h = some r := by
 unfold g45 at e
 split at e
 ·rw [f45_ok]; exact e
 ·cases e
noncomputable def g46 (cf : CallF) (lf : Nat) (l : List Value) (h : Heap) : Ans := match l with | [a0, a1] => f46 cf lf a0 a1 h | _ => none
theorem g46_ok (cf : CallF) (lf : Nat) (l : List Value) (h : Heap) (r : Res × Heap) (e : g46 cf lf l h = some r) : stepN E cf lf 46 l h = some r := by
 unfold g46 at e
 split at e
 ·rw [f46_ok]; exact e
 ·cases e
noncomputable def g47 (cf : CallF) (lf : Nat) (l : List Value) (h : Heap) : Ans := match l with | [a0, a1] => f47 cf lf a0 a1 h | _ => none
theorem g47_ok (cf : CallF) (lf : Nat) (l : List Value) (h : Heap) (r : Res × Heap) (e : g47 cf lf l h = some r) : stepN E cf lf 47 l h = some r := by
 unfold g47 at e
 split at e
 ·rw [f47_ok]; exact e
 ·cases e
noncomputable def g48 (cf : CallF) (lf : Nat) (l : List Value) (h : Heap) : Ans := match l with | [] => f48 cf lf  h | _ => none
theorem g48_ok (cf : CallF) (lf : Nat) (l : List Value) (h : Heap) (r : Res × Heap) (e : g48 cf lf l h = some r) : stepN E cf lf 48 l h = some r := by
 unfold g48 at e
 split at e
 ·rw [f48_ok]; exact e
 ·cases e
noncomputable def g49 (cf : CallF) (lf : Nat) (l : List Value) (h : Heap) : Ans := match l with | [a0, a1, a2] => f49 cf lf a0 a1 a2 h | _ => none
theorem g49_ok (cf : CallF) (lf : Nat) (l : List Value) (h : Heap) (r : Res × Heap) (e : g49 cf lf l h = some r) : stepN E cf lf 49 l h = some r := by
 unfold g49 at e
 split at e
 ·rw [f49_ok]; exact e
 ·cases e
noncomputable def g60 (cf : CallF) (lf : Nat) (l : List Value) (h : Heap) : Ans := match l with | [a0, a1] => f60 cf lf a0 a1 h | _ => none
theorem g60_ok (cf : CallF) (lf : Nat) (l : List Value) (h : Heap) (r : Res × Heap) (e : g60 cf lf l h = some r) : stepN E cf lf 60 l h = some r := by
 unfold g60 at e
 split at e
 ·rw [f60_ok]; exact e
 ·cases e
noncomputable def g66 (cf : CallF) (lf : Nat) (l : List Value) (h : Heap) : Ans := match l with | [a0, a1] => f66 cf lf a0 a1 h | _ => none
theorem g66_ok (cf : CallF) (lf : Nat) (l : List Value) (h : Heap) (r : Res × Heap) (e : g66 cf lf l h = some r) : stepN E cf lf 66 l h = some r := by
 unfold g66 at e
 split at e
 ·rw [f66_ok]; exact e
 ·cases e
noncomputable def g67 (cf : CallF) (lf : Nat) (l : List Value) (h : Heap) : Ans := match l with | [a0, a1] => f67 cf lf a0 a1 h | _ => none
theorem g67_ok (cf : CallF) (lf : Nat) (l : List Value) (h : Heap) (r : Res × Heap) (e : g67 cf lf l h = some r) : stepN E cf lf 67 l h = some r := by
 unfold g67 at e
 split at e
 ·rw [f67_ok]; exact e
 ·cases e
noncomputable def g68 (cf : CallF) (lf : Nat) (l : List Value) (h : Heap) : Ans := match l with | [a0] => f68 cf lf a0 h | _ => none
theorem g68_ok (cf : CallF) (lf : Nat) (l : List Value) (h : Heap) (r : Res × Heap) (e : g68 cf lf l h = some r) : stepN E cf lf 68 l h = some r := by
 unfold g68 at e
 split at e
 ·rw [f68_ok]; exact e
 ·cases e
noncomputable def g69 (cf : CallF) (lf : Nat) (l : List Value) (h : Heap) : Ans := match l with | [a0, a1, a2] => f69 cf lf a0 a1 a2 h | _ => none
theorem g69_ok (cf : CallF) (lf : Nat) (l : List Value) (h : Heap) (r : Res × Heap) (e : g69 cf lf l h = some r) : stepN E cf lf 69 l h = some r := by
 unfold g69 at e
 split at e
 ·rw [f69_ok]; exact e
 ·cases e
noncomputable def g70 (cf : CallF) (lf : Nat) (l : List Value) (h : Heap) : Ans := match l with | [a0, a1, a2] => f70 cf lf a0 a1 a2 h | _ => none
theorem g70_ok (cf : CallF) (lf : Nat) (l : List Value) (h : Heap) (r : Res × Heap) (e : g70 cf lf l h = some r) : stepN E cf lf 70 l h = some r := by
 unfold g70 at e
 split at e
 ·rw [f70_ok]; exact e
 ·cases e
noncomputable def g71 (cf : CallF) (lf : Nat) (l : List Value) (h : Heap) : Ans := match l with | [a0, a1] => f71 cf lf a0 a1 h | _ => none
theorem g71_ok (cf : CallF) (lf : Nat) (l : List Value) (h : Heap) (r : Res × Heap) (e : g71 cf lf l h = some r) : stepN E cf lf 71 l h = some r := by
 unfold g71 at e
 split at e
 ·rw [f71_ok]; exact e
 ·cases e
noncomputable def g72 (cf : CallF) (lf : Nat) (l : List Value) (h : Heap) : Ans := match l with | [a0] => f72 cf lf a0 h | _ => none
theorem g72_ok (cf : CallF) (lf : Nat) (l : List Value) (h : Heap) (r : Res × Heap) (e : g72 cf lf l h = some r) : stepN E cf lf 72 l h = some r := by
 unfold g72 at e
 split at e
 ·rw [f72_ok]; exact e
 ·cases e
noncomputable def g73 (cf : CallF) (lf : Nat) (l : List Value) (h : Heap) : Ans := match l with | [a0, a1] => f73 cf lf a0 a1 h | _ => none
theorem g73_ok (cf : CallF) (lf : Nat) (l : List Value) (h : Heap) (r : Res × Heap) (e : g73 cf lf l h = some r) : stepN E cf lf 73 l h = some r := by
 unfold g73 at e
 split at e
 ·rw [f73_ok]; exact e
 ·cases e
noncomputable def g74 (cf : CallF) (lf : Nat) (l : List Value) (h : Heap) : Ans := match l with | [a0, a1, a2] => f74 cf lf a0 a1 a2 h | _ => none
theorem g74_ok (cf : CallF) (lf : Nat) (l : List Value) (h : Heap) (r : Res × Heap) (e : g74 cf lf l h = some r) : stepN E cf lf 74 l h = some r := by
 unfold g74 at e
 split at e
 ·rw [f74_ok]; exact e
 ·cases e
noncomputable def g85 (cf : CallF) (lf : Nat) (l : List Value) (h : Heap) : Ans := match l with | [a0, a1] => f85 cf lf a0 a1 h | _ => none
theorem g85_ok (cf : CallF) (lf : Nat) (l : List Value) (h : Heap) (r : Res × Heap) (e : g85 cf lf l h = some r) : stepN E cf lf 85 l h = some r := by
 unfold g85 at e
 split at e
 ·rw [f85_ok]; exact e
 ·cases e
noncomputable def g87 (cf : CallF) (lf : Nat) (l : List Value) (h : Heap) : Ans := match l with | [a0, a1] => f87 cf lf a0 a1 h | _ => none
theorem g87_ok (cf : CallF) (lf : Nat) (l : List Value) (h : Heap) (r : Res × Heap) (e : g87 cf lf l h = some r) : stepN E cf lf 87 l h = some r := by
 unfold g87 at e
 split at e
 ·rw [f87_ok]; exact e
 ·cases e
noncomputable def g88 (cf : CallF) (lf : Nat) (l : List Value) (h : Heap) : Ans := match l with | [a0, a1] => f88 cf lf a0 a1 h | _ => none
theorem g88_ok (cf : CallF) (lf : Nat) (l : List Value) (h : Heap) (r : Res × Heap) (e : g88 cf lf l h = some r) : stepN E cf lf 88 l h = some r := by
 unfold g88 at e
 split at e
 ·rw [f88_ok]; exact e
 ·cases e
noncomputable def g89 (cf : CallF) (lf : Nat) (l : List Value) (h : Heap) : Ans := match l with | [a0, a1, a2, a3] => f89 cf lf a0 a1 a2 a3 h | _ => none
theorem g89_ok (cf : CallF) (lf : Nat) (l : List Value) (h : Heap) (r : Res × Heap) (e : g89 cf lf l h = some r) : stepN E cf lf 89 l h = some r := by
 unfold g89 at e
 split at e
 ·rw [f89_ok]; exact e
 ·cases e
noncomputable def g90 (cf : CallF) (lf : Nat) (l : List Value) (h : Heap) : Ans := match l with | [a0, a1] => f90 cf lf a0 a1 h | _ => none
theorem g90_ok (cf : CallF) (lf : Nat) (l : List Value) (h : Heap) (r : Res × Heap) (e : g90 cf lf l h = some r) : stepN E cf lf 90 l h = some r := by
 unfold g90 at e
 split at e
 ·rw [f90_ok]; exact e
 ·cases e
noncomputable def g95 (cf : CallF) (lf : Nat) (l : List Value) (h : Heap) : Ans := match l with | [a0] => f95 cf lf a0 h | _ => none
theorem g95_ok (cf : CallF) (lf : Nat) (l : List Value) (h : Heap) (r : Res × Heap) (e : g95 cf lf l h = some r) : stepN E cf lf 95 l h = some r := by
 unfold g95 at e
 split at e
 ·rw [f95_ok]; exact e
 ·cases e
noncomputable def g96 (cf : CallF) (lf : Nat) (l : List Value) (h : Heap) : Ans := match l with | [a0, a1] => f96 cf lf a0 a1 h | _ => none
theorem g96_ok (cf : CallF) (lf : Nat) (l : List Value) (h : Heap) (r : Res × Heap) (e : g96 cf lf l h = some r) : stepN E cf lf 96 l h = some r := by
 unfold g96 at e
 split at e
 ·rw [f96_ok]; exact e
 ·cases e
noncomputable def g98 (cf : CallF) (lf : Nat) (l : List Value) (h : Heap) : Ans := match l with | [a0, a1] => f98 cf lf a0 a1 h | _ => none
theorem g98_ok (cf : CallF) (lf : Nat) (l : List Value) (h : Heap) (r : Res × Heap) (e : g98 cf lf l h = some r) : stepN E cf lf 98 l h = some r := by
 unfold g98 at e
 split at e
 ·rw [f98_ok]; exact e
 ·cases e
noncomputable def g99 (cf : CallF) (lf : Nat) (l : List Value) (h : Heap) : Ans := match l with | [] => f99 cf lf  h | _ => none
theorem g99_ok (cf : CallF) (lf : Nat) (l : List Value) (h : Heap) (r : Res × Heap) (e : g99 cf lf l h = some r) : stepN E cf lf 99 l h = some r := by
 unfold g99 at e
 split at e
 ·rw [f99_ok]; exact e
 ·cases e
noncomputable def g100 (cf : CallF) (lf : Nat) (l : List Value) (h : Heap) : Ans := match l with | [a0] => f100 cf lf a0 h | _ => none
theorem g100_ok (cf : CallF) (lf : Nat) (l : List Value) (h : Heap) (r : Res × Heap) (e : g100 cf lf l h = some r) : stepN E cf lf 100 l h = some r := by
 unfold g100 at e
 split at e
 ·rw [f100_ok]; exact e
 ·cases e
noncomputable def g101 (cf : CallF) (lf : Nat) (l : List Value) (h : Heap) : Ans := match l with | [a0] => f101 cf lf a0 h | _ => none
theorem g101_ok (cf : CallF) (lf : Nat) (l : List Value) (h : Heap) (r : Res × Heap) (e : g101 cf lf l h = some r) : stepN E cf lf 101 l h = some r := by
 unfold g101 at e
 split at e
 ·rw [f101_ok]; exact e
 ·cases e
noncomputable def g103 (cf : CallF) (lf : Nat) (l : List Value) (h : Heap) : Ans := match l with | [a0] => f103 cf lf a0 h | _ => none
theorem g103_ok (cf : CallF) (lf : Nat) (l : List Value) (h : Heap) (r : Res × Heap) (e : g103 cf lf l h = some r) : stepN E cf lf 103 l h = some r := by
 unfold g103 at e
 split at e
 ·rw [f103_ok]; exact e
 ·cases e
noncomputable def g6 (cf : CallF) (lf : Nat) (l : List Value) (h : Heap) : Ans := match l with | [a0] => f6 cf lf a0 h | _ => none
theorem g6_ok (cf : CallF) (lf : Nat) (l : List Value) (h : Heap) (r : Res × Heap) (e : g6 cf lf l h = some r) : stepN E cf lf 6 l h = some r := by
 unfold g6 at e
 split at e
 ·rw [f6_ok]; exact e
 ·cases e
noncomputable def g7 (cf : CallF) (lf : Nat) (l : List Value) (h : Heap) : Ans := match l with | [a0, a1] => f7 cf lf a0 a1 h | _ => none
theorem g7_ok (cf : CallF) (lf : Nat) (l : List Value) (h : Heap) (r : Res × Heap) (e : g7 cf lf l h = some r) : stepN E cf lf 7 l h = some r := by
 unfold g7 at e
 split at e
 ·rw [f7_ok]; exact e
 ·cases e
noncomputable def shT : Tr Step := (.node (.node (.node (.node (.node (.node .nil none (.node .nil (some g95) .nil)) (some g15) (.node .nil (some g47) .nil)) (some g7) (.node (.node (.node .nil (some g71) .nil) none (.node .nil (some g103) .nil)) (some g23) (.node (.node .nil (some g87) .nil) none .nil))) none (.node (.node (.node (.node .nil (some g67) .nil) (some g35) (.node .nil (some g99) .nil)) (some g19) .nil) (some g11) .nil)) none (.node (.node (.node .nil none (.node .nil (some g49) .nil)) none (.node (.node (.node .nil (some g73) .nil) none .nil) (some g25) (.node (.node .nil (some g89) .nil) none .nil))) none (.node (.node (.node (.node .nil (some g69) .nil) none (.node .nil (some g101) .nil)) (some g21) (.node (.node .nil (some g85) .nil) none .nil)) (some g13) (.node (.node .nil (some g45) .nil) none .nil)))) none (.node (.node (.node (.node (.node .nil none (.node .nil (some g96) .nil)) none (.node .nil (some g48) .nil)) (some g8) (.node (.node (.node .nil (some g72) .nil) none .nil) (some g24) (.node (.node .nil (some g88) .nil) none .nil))) none (.node (.node (.node (.node .nil (some g68) .nil) (some g36) (.node .nil (some g100) .nil)) (some g20) .nil) (some g12) (.node (.node .nil (some g44) .nil) none (.node .nil (some g60) .nil)))) none (.node (.node (.node (.node (.node .nil (some g66) .nil) (some g34) (.node .nil (some g98) .nil)) none .nil) (some g10) (.node (.node (.node .nil (some g74) .nil) none .nil) none (.node (.node .nil (some g90) .nil) none .nil))) (some g6) (.node (.node (.node (.node .nil (some g70) .nil) (some g38) .nil) (some g22) .nil) (some g14) (.node (.node .nil (some g46) .nil) none .nil)))))
noncomputable def shN : Nat → CallF := shG E shT
theorem shT_ok : Tr.All (fun f s => ∀ cf lf l h r, s cf lf l h = some r → stepN E cf lf f l h = some r) shT := by unfold shT; exact (Tr.all_none (Tr.all_none (Tr.all_none (Tr.all_some g7_ok (Tr.all_some g15_ok (Tr.all_none Tr.all_nil (Tr.all_some g95_ok Tr.all_nil Tr.all_nil)) (Tr.all_some g47_ok Tr.all_nil Tr.all_nil)) (Tr.all_some g23_ok (Tr.all_none (Tr.all_some g71_ok Tr.all_nil Tr.all_nil) (Tr.all_some g103_ok Tr.all_nil Tr.all_nil)) (Tr.all_none (Tr.all_some g87_ok Tr.all_nil Tr.all_nil) Tr.all_nil))) (Tr.all_some g11_ok (Tr.all_some g19_ok (Tr.all_some g35_ok (Tr.all_some g67_ok Tr.all_nil Tr.all_nil) (Tr.all_some g99_ok Tr.all_nil Tr.all_nil)) Tr.all_nil) Tr.all_nil)) (Tr.all_none (Tr.all_none (Tr.all_none Tr.all_nil (Tr.all_some g49_ok Tr.all_nil Tr.all_nil)) (Tr.all_some g25_ok (Tr.all_none (Tr.all_some g73_ok Tr.all_nil Tr.all_nil) Tr.all_nil) (Tr.all_none (Tr.all_some g89_ok Tr.all_nil Tr.all_nil) Tr.all_nil))) (Tr.all_some g13_ok (Tr.all_some g21_ok (Tr.all_none (Tr.all_some g69_ok Tr.all_nil Tr.all_nil) (Tr.all_some g101_ok Tr.all_nil Tr.all_nil)) (Tr.all_none (Tr.all_some g85_ok Tr.all_nil Tr.all_nil) Tr.all_nil)) (Tr.all_none (Tr.all_some g45_ok Tr.all_nil Tr.all_nil) Tr.all_nil)))) (Tr.all_none (Tr.all_none (Tr.all_some g8_ok (Tr.all_none (Tr.all_none Tr.all_nil (Tr.all_some g96_ok Tr.all_nil Tr.all_nil)) (Tr.all_some g48_ok Tr.all_nil Tr.all_nil)) (Tr.all_some g24_ok (Tr.all_none (Tr.all_some g72_ok Tr.all_nil Tr.all_nil) Tr.all_nil) (Tr.all_none (Tr.all_some g88_ok Tr.all_nil Tr.all_nil) Tr.all_nil))) (Tr.all_some g12_ok (Tr.all_some g20_ok (Tr.all_some g36_ok (Tr.all_some g68_ok Tr.all_nil Tr.all_nil) (Tr.all_some g100_ok Tr.all_nil Tr.all_nil)) Tr.all_nil) (Tr.all_none (Tr.all_some g44_ok Tr.all_nil Tr.all_nil) (Tr.all_some g60_ok Tr.all_nil Tr.all_nil)))) (Tr.all_some g6_ok (Tr.all_some g10_ok (Tr.all_none (Tr.all_some g34_ok (Tr.all_some g66_ok Tr.all_nil Tr.all_nil) (Tr.all_some g98_ok Tr.all_nil Tr.all_nil)) Tr.all_nil) (Tr.all_none (Tr.all_none (Tr.all_some g74_ok Tr.all_nil Tr.all_nil) Tr.all_nil) (Tr.all_none (Tr.all_some g90_ok Tr.all_nil Tr.all_nil) Tr.all_nil))) (Tr.all_some g14_ok (Tr.all_some g22_ok (Tr.all_some g38_ok (Tr.all_some g70_ok Tr.all_nil Tr.all_nil) Tr.all_nil) Tr.all_nil) (Tr.all_none (Tr.all_some g46_ok Tr.all_nil Tr.all_nil) Tr.all_nil)))))
end Go.Proofs.YteekjekckgpbfaaDoor.Abs
end
section
namespace Go.Proofs.YteekjekckgpbfaaDoor.Abs
open Go.RowKit (Below)
theorem nglobals : Tryd.prog.globals.size = 4 := by kernel_rfl
theorem lexEnv {B : Nat} {w0 : World} (h0 : TypeCell w0) (hB : 1 < B) : EnvOk Tryd.prog B w0 4 okDraw E := env_ok tyT_ok fnT_ok prim_ok (ext_ok h0 hB)
theorem lexCF {B : Nat} {w0 : World} (h0 : TypeCell w0) (hB : 1 < B) (n : Nat) : CFOk Tryd.prog B w0 (shN n) :=
 shG_ok (by kernel_rfl) (lexEnv h0 hB) (by rw [nglobals]; exact Nat.le_refl _) (defer_ok fnT_ok) (ext_ok h0 hB) shT_ok n
theorem works_run : isT (shN 1000 12 [] (h0 4)) = true := by kernel_rfl
theorem works {W : World} (h : TypeCell W) (hs : 4 ≤ W.heap.size) : Calls Tryd.prog 12 ⟨[]⟩ W fun e w' => e = .returned (.bool true) ∧ Below W.heap.size W w' := by
 obtain ⟨h', e⟩ := isT_some works_run
 rw [← nglobals] at e
 exact call_true (by rw [nglobals]; exact hs) (lexCF h (by omega) 1000) .nil e
end Go.Proofs.YteekjekckgpbfaaDoor.Abs
end
section
namespace Go.Proofs.YteekjekckgpbfaaDoor.Abs
/-! ### A run that answers -/
def wp (x : Ans) (Q : Res → Heap → Prop) : Prop := ∃ r h, x = some (r, h) ∧ Q r h
theorem wp_some {r : Res} {h : Heap} {Q : Res → Heap → Prop} : wp (some (r, h)) Q ↔ Q r h :=
 ⟨fun ⟨_, _, e, q⟩ => by injection e with e; injection e with e1 e2; subst e1; subst e2; exact q, fun q => ⟨_, _, rfl, q⟩⟩
theorem wp_mono {x : Ans} {Q R : Res → Heap → Prop} (h : wp x Q) (k : ∀ r h', Q r h' → R r h') : wp x R := let ⟨r, h', e, q⟩ := h; ⟨r, h', e, k r h' q⟩
theorem wp_bindR {x : Ans} {G F : Value → Heap → Ans} {Q R : Res → Heap → Prop} (hx : wp x Q) (hr : ∀ v h, Q (.ret v) h → wp (F v h) R) (hp : ∀ v h, Q (.panic v) h → wp (G v h) R) : wp (bindR x G F) R := by
 obtain ⟨r, h, rfl, q⟩ := hx
 cases r with
 | ret v => exact hr v h q
 | panic v => exact hp v h q
theorem wp_eq {x y : Ans} {Q : Res → Heap → Prop} (e : x = y) (h : wp y Q) : wp x Q := e ▸ h
theorem wp_cond {b : Bool} {x y : Ans} {Q : Res → Heap → Prop} (ht : b = true → wp x Q) (hf : b = false → wp y Q) : wp (condV (.bool b) x y) Q := by
 cases b with
 | true => exact ht rfl
 | false => exact hf rfl
theorem bindO_some (v : Value) (F : Value → Ans) : bindO (some v) F = F v := rfl
theorem bindR_ret (v : Value) (h : Heap) (G F : Value → Heap → Ans) : bindR (some (.ret v, h)) G F = F v h := rfl
theorem bindR_panic (v : Value) (h : Heap) (G F : Value → Heap → Ans) : bindR (some (.panic v, h)) G F = G v h := rfl
theorem bindO_congr {x y : Option Value} {F : Value → Ans} (e : x = y) : bindO x F = bindO y F := by rw [e]
theorem bindR_congr {x y : Ans} {G F : Value → Heap → Ans} (e : x = y) : bindR x G F = bindR y G F := by rw [e]
theorem condV_congr {v u : Value} {x y : Ans} (e : v = u) : condV v x y = condV u x y := by rw [e]
theorem wp_congr {x y : Ans} {Q : Res → Heap → Prop} (e : x = y) : wp x Q = wp y Q := by rw [e]
theorem gO_true (x : Option Value) : gO true x = x := rfl
theorem gO_false (x : Option Value) : gO false x = some undef := rfl
theorem gR_true (x : Ans) (h : Heap) : gR true x h = x := rfl
theorem gR_false (x : Ans) (h : Heap) : gR false x h = some (.ret undef, h) := rfl
theorem boolIs_bool (w b : Bool) : boolIs w (.bool b) = (b == w) := rfl
theorem condV_true (x y : Ans) : condV (.bool true) x y = x := rfl
theorem condV_false (x y : Ans) : condV (.bool false) x y = y := rfl
theorem pickA_true (x y : Value) : pickA (.bool true) x y = some x := rfl
theorem pickA_false (x y : Value) : pickA (.bool false) x y = some y := rfl
theorem nilA_ptr (a : Addr) : nilA (.pointer (some a)) = some (.pointer (some a)) := rfl
theorem unA_not (b : Bool) : unA .not (.bool b) = some (.bool (!b)) := rfl
theorem valR_some (v : Value) (h : Heap) : valR (some (v, h)) = some (.ret v, h) := rfl
theorem skipR_some (h : Heap) : skipR (some h) = some (.ret undef, h) := rfl
theorem extractA_0 (a b : Value) : extractA (.tuple ⟨[a, b]⟩) 0 = some a := rfl
theorem extractA_1 (a b : Value) : extractA (.tuple ⟨[a, b]⟩) 1 = some b := rfl
theorem callA_func (E : Env) (cf : CallF) (g : Nat) (a c : List Value) (args : List Value) (h : Heap) (hp : E.prim g (a ++ args ++ c) h = none) : callA E cf (.func (.func g) ⟨a⟩ ⟨c⟩) args h = cf g (a ++ args ++ c) h := by
 show (match E.prim g (a ++ args ++ c) h with | some (v, h') => some (Res.ret v, h') | none => cf g (a ++ args ++ c) h) = _
 rw [hp]
/-! ### Numbers -/
theorem wrap_id (n : Int) (a : -9223372036854775808 ≤ n) (b : n < 9223372036854775808) : wrapA .i64 n = n := by
 have h1 : decide (0 ≤ n + two63) = true := decide_eq_true (by unfold two63; omega)
 have h2 : decide (n + two63 < two64) = true := decide_eq_true (by unfold two63 two64; omega)
 simp [wrapA, h1, h2]
section
variable (E : Env) (t : Nat)
theorem bin_add (a b : Int) : binA E t .add (.int .i64 a) (.int .i64 b) = some (.int .i64 (wrapA .i64 (a + b))) := rfl
theorem bin_sub (a b : Int) : binA E t .sub (.int .i64 a) (.int .i64 b) = some (.int .i64 (wrapA .i64 (a - b))) := rfl
theorem bin_mul (a b : Int) : binA E t .mul (.int .i64 a) (.int .i64 b) = some (.int .i64 (wrapA .i64 (a * b))) := rfl
theorem bin_eql (k : IntKind) (a b : Int) : binA E t .eql (.int k a) (.int k b) = some (.bool (a == b)) := by cases k <;> rfl
theorem bin_neq (k : IntKind) (a b : Int) : binA E t .neq (.int k a) (.int k b) = some (.bool (a != b)) := by cases k <;> rfl
theorem bin_lss (k : IntKind) (a b : Int) : binA E t .lss (.int k a) (.int k b) = some (.bool (decide (a < b))) := by cases k <;> rfl
theorem bin_leq (k : IntKind) (a b : Int) : binA E t .leq (.int k a) (.int k b) = some (.bool (decide (a ≤ b))) := by cases k <;> rfl
theorem bin_gtr (k : IntKind) (a b : Int) : binA E t .gtr (.int k a) (.int k b) = some (.bool (decide (b < a))) := by cases k <;> rfl
theorem bin_geq (k : IntKind) (a b : Int) : binA E t .geq (.int k a) (.int k b) = some (.bool (decide (b ≤ a))) := by cases k <;> rfl
theorem bin_sadd (a b : List UInt8) (h : a.length + b.length ≤ most) : binA E t .add (.string (mkS a)) (.string (mkS b)) = some (.string (mkS (a ++ b))) := by
 have : decide (slen (mkS a) + slen (mkS b) ≤ most) = true := decide_eq_true h
 show (bif decide (slen (mkS a) + slen (mkS b) ≤ most) then some (Value.string (mkS (sl (mkS a) ++ sl (mkS b)))) else none) = _
 rw [this]; rfl
theorem bin_seql (a b : List UInt8) : binA E t .eql (.string (mkS a)) (.string (mkS b)) = some (.bool (a == b)) := rfl
theorem bin_sneq (a b : List UInt8) : binA E t .neq (.string (mkS a)) (.string (mkS b)) = some (.bool (!(a == b))) := rfl
theorem binB_int (op : BinOp) (k : IntKind) (a : Int) (y : Value) : binB E t op (.int k a) y = binA E t op (.int k a) y := rfl
theorem binB_str (op : BinOp) (s : ByteArray) (y : Value) : binB E t op (.string s) y = binA E t op (.string s) y := rfl
theorem binB_bool (op : BinOp) (b : Bool) (y : Value) : binB E t op (.bool b) y = binA E t op (.bool b) y := rfl
end
theorem u8_eq (a b : UInt8) : ((a.toNat : Int) == (b.toNat : Int)) = (a == b) := by
 rw [Bool.eq_iff_iff, beq_iff_eq, beq_iff_eq, ← UInt8.toNat_inj]; omega
theorem u8_eqn (a : UInt8) (n : Nat) (hn : n < 256) : ((a.toNat : Int) == (n : Int)) = (a == UInt8.ofNat n) := by
 have := u8_eq a (UInt8.ofNat n)
 rwa [show (UInt8.ofNat n).toNat = n from by simp; omega] at this
theorem u8_nen (a : UInt8) (n : Nat) (hn : n < 256) : ((a.toNat : Int) != (n : Int)) = (a != UInt8.ofNat n) := by
 simp only [bne, u8_eqn a n hn]
theorem u8_of (a : UInt8) : UInt8.ofNat ((a.toNat : Int).toNat) = a := by simp
/-! ### Strings -/
theorem sl_mkS (l : List UInt8) : sl (mkS l) = l := rfl
theorem slen_mkS (l : List UInt8) : slen (mkS l) = l.length := rfl
theorem mkS_sl (s : ByteArray) : mkS (sl s) = s := rfl
/-! ### The heap -/
theorem blk_set_eq {h : Heap} {b : Nat} {k : Blk} (hb : b < h.next) : (h.set b (.cells k)).blk b = some k :=
 Heap.blk_of (by rw [Heap.get_set, if_pos rfl]) hb
theorem blk_set_ne {h : Heap} {b c : Nat} {o : AObj} (hn : c ≠ b) : (h.set b o).blk c = h.blk c := by
 simp [Heap.blk, Heap.get_set, hn]; rfl
theorem blk_kill_ne {h : Heap} {b c : Nat} (hn : c ≠ b) : (h.kill b).blk c = h.blk c := by
 simp [Heap.blk, Heap.get_kill, hn]; rfl
theorem blk_alloc_eq {h : Heap} {k : Blk} : (h.alloc (.cells k)).blk h.next = some k :=
 Heap.blk_of (by rw [Heap.get_alloc, if_pos rfl]) (by show h.next < h.next + 1; omega)
theorem blk_alloc_eq' {h : Heap} {k : Blk} {b : Nat} (e : b = h.next) : (h.alloc (.cells k)).blk b = some k := e ▸ blk_alloc_eq
theorem blk_alloc_lt {h : Heap} {c : Nat} {o : AObj} (hn : c < h.next) : (h.alloc o).blk c = h.blk c := by
 have h1 : c ≠ h.next := by omega
 have h2 : Nat.blt c (h.alloc o).next = Nat.blt c h.next := by
  rw [Bool.eq_iff_iff, Nat.blt_eq, Nat.blt_eq]; show c < h.next + 1 ↔ c < h.next; omega
 simp only [Heap.blk, Heap.get_alloc, h1, if_false, h2]
theorem next_set (h : Heap) (b : Nat) (o : AObj) : (h.set b o).next = h.next := rfl
theorem next_kill (h : Heap) (b : Nat) : (h.kill b).next = h.next := rfl
theorem next_alloc (h : Heap) (o : AObj) : (h.alloc o).next = h.next + 1 := rfl
theorem blk_lt' {h : Heap} {b : Nat} {k : Blk} (e : h.blk b = some k) : b < h.next := Heap.blk_lt e
/-! ### Loads and stores, at a type that is known -/
section
variable {E : Env} {t : Nat} {i : TI} (ht : E.ty t = some i)
include ht
theorem load_one (ha : isAggD i.desc = false) (b off : Nat) (h : Heap) : loadA E t (.pointer (some ⟨b, off, none⟩)) h = (h.blk b).bind fun k => k.cells[off]? := by
 show (match h.blk b with | none => none | some k => match E.ty t with | none => none | some i => partA (isAggD i.desc) k.cells off i.size) = _
 cases h.blk b with
 | none => rfl
 | some k => simp [ht, partA, ha]
theorem load_agg (ha : isAggD i.desc = true) (b off : Nat) (h : Heap) : loadA E t (.pointer (some ⟨b, off, none⟩)) h = (h.blk b).bind fun k => bif decide (off + i.size ≤ k.cells.length) then some (.agg ⟨(k.cells.drop off).take i.size⟩) else none := by
 show (match h.blk b with | none => none | some k => match E.ty t with | none => none | some i => partA (isAggD i.desc) k.cells off i.size) = _
 cases h.blk b with
 | none => rfl
 | some k => simp [ht, partA, ha]
theorem store_at (b off : Nat) (x : Value) (h : Heap) : storeA E t (.pointer (some ⟨b, off, none⟩)) x h = (h.blk b).bind fun k =>
  bif k.own && (vcells x).length == i.size && (vcells x).all oneC && decide (off + (vcells x).length ≤ k.cells.length) then some (h.set b (.cells ⟨k.elem, putL k.cells off (vcells x), true⟩)) else none := by
 show (match h.blk b with | none => none | some k => match E.ty t with | none => none | some i => bif k.own && (vcells x).length == i.size && (vcells x).all oneC && decide (off + (vcells x).length ≤ k.cells.length) then some (h.set b (.cells ⟨k.elem, putL k.cells off (vcells x), true⟩)) else none) = _
 cases h.blk b with
 | none => rfl
 | some k => simp [ht]
end
end Go.Proofs.YteekjekckgpbfaaDoor.Abs
end
section
namespace Go.Proofs.YteekjekckgpbfaaDoor.Abs
section
variable {E : Env} {t e : Nat} {i ie : TI} (ht : E.ty t = some i)
theorem natOf_nat (k : IntKind) (n : Nat) : natOf (.int k (n : Int)) = some n := by
 simp [natOf]
theorem idx_slice (ht : E.ty t = some i) (hd : i.desc = .slice e) (he : E.ty e = some ie) {sz : Nat} (hs : ie.size = sz) (b off n c j : Nat) (hj : j < n) :
  indexAddrA E t (.slice (some ⟨b, off, none⟩) n c) (.int .i64 (j : Int)) = some (.pointer (some ⟨b, off + j * sz, none⟩)) := by
 obtain ⟨d, s1, b1, z1⟩ := i
 simp only at hd
 subst hd
 subst hs
 simp [indexAddrA, ht, he, natOf_nat, hj]
theorem idx_str (ht : E.ty t = some i) (hd : i.desc = .string) (l : List UInt8) (j : Nat) (c : UInt8) (hc : l[j]? = some c) : indexA E t (.string (mkS l)) (.int .i64 (j : Int)) = some (.int .u8 (c.toNat : Int)) := by
 obtain ⟨d, s1, b1, z1⟩ := i
 simp only at hd
 subst hd
 simp [indexA, ht, natOf_nat, sl_mkS, hc, byteV]
theorem sls_lh (ht : E.ty t = some i) (hd : i.desc = .string) (l : List UInt8) (a b : Nat) (h : Heap) (hab : a ≤ b) (hb : b ≤ l.length) : sliceA E t (.string (mkS l)) (some (.int .i64 (a : Int))) (some (.int .i64 (b : Int))) h = some (.string (mkS ((l.drop a).take (b - a)))) := by
 obtain ⟨d, s1, b1, z1⟩ := i
 simp only at hd
 subst hd
 simp [sliceA, ht, natOf_nat, sl_mkS, slen_mkS, boundA, hab, hb]
theorem sls_lo (ht : E.ty t = some i) (hd : i.desc = .string) (l : List UInt8) (a : Nat) (h : Heap) (ha : a ≤ l.length) : sliceA E t (.string (mkS l)) (some (.int .i64 (a : Int))) none h = some (.string (mkS (l.drop a))) := by
 obtain ⟨d, s1, b1, z1⟩ := i
 simp only at hd
 subst hd
 have : (l.drop a).take (l.length - a) = l.drop a := List.take_of_length_le (by simp)
 simp [sliceA, ht, natOf_nat, sl_mkS, slen_mkS, boundA, ha, this]
theorem sls_hi (ht : E.ty t = some i) (hd : i.desc = .string) (l : List UInt8) (b : Nat) (h : Heap) (hb : b ≤ l.length) : sliceA E t (.string (mkS l)) none (some (.int .i64 (b : Int))) h = some (.string (mkS (l.take b))) := by
 obtain ⟨d, s1, b1, z1⟩ := i
 simp only at hd
 subst hd
 simp [sliceA, ht, natOf_nat, sl_mkS, slen_mkS, boundA, hb]
theorem bsl_one (ht : E.ty t = some i) (hd : i.desc = .slice e) (he : E.ty e = some ie) {sz : Nat} (hs : ie.size = sz) (hz : ie.zero.length = sz) (hsz : 0 < sz ∧ sz ≤ 1000) (x : Value) (h : Heap) (hx : (vcells x).length = sz) :
  buildSliceA E t 1 [(0, x)] h = some (.slice (some ⟨h.next, 0, none⟩) 1 1, h.alloc (.cells ⟨e, vcells x, true⟩)) := by
 obtain ⟨d, s1, b1, z1⟩ := i
 simp only at hd
 subst hd
 subst hs
 have h1 : ¬ ie.size > 1000 := by omega
 have hp : putL ie.zero 0 (vcells x) = vcells x := by
  simp [putL, hx, List.drop_of_length_le (show ie.zero.length ≤ ie.size from by omega)]
 simp [buildSliceA, sliceOf, ht, he, h1, fillL, repL, hx, hz, hp]
theorem row_some (h : Heap) (b off m c sz : Nat) (k : Blk) (hk : h.blk b = some k) (hm : 0 < m) (hl : off + m * sz ≤ k.cells.length) : readRow h (.slice (some ⟨b, off, none⟩) m c) sz = some ((k.cells.drop off).take (m * sz)) := by
 have h1 : (m == 0) = false := by simp; omega
 simp [readRow, h1, hk, hl]
theorem app_zero (ht : E.ty t = some i) (hd : i.desc = .slice e) (he : E.ty e = some ie) (h0 : (ie.size == 0 || ie.bytes == 0) = false) (s : Value) (a : Option Addr) (c : Nat) (h : Heap) (hv : s = .slice none 0 0 ∨ ∃ b n c, s = .slice (some b) n c) :
  appendA E t s (.slice a 0 c) h = some (s, h) := by
 obtain ⟨d, s1, b1, z1⟩ := i
 simp only at hd
 subst hd
 have hr : readRow h (.slice a 0 c) ie.size = some [] := by cases a <;> rfl
 rcases hv with rfl | ⟨b, n, c', rfl⟩ <;> simp only [appendA, ht, he, h0, lenV, hr] <;> simp
theorem app_nil (ht : E.ty t = some i) (hd : i.desc = .slice e) (he : E.ty e = some ie) (h0 : (ie.size == 0 || ie.bytes == 0) = false) {sz bt : Nat} (hs : ie.size = sz) (hbt : ie.bytes = bt) (b off m c : Nat) (k : Blk) (h : Heap) (hk : h.blk b = some k) (hm : 0 < m)
  (hl : off + m * sz ≤ k.cells.length) (ho : ((k.cells.drop off).take (m * sz)).all oneC = true) (hb : m * bt ≤ most) :
  appendA E t (.slice none 0 0) (.slice (some ⟨b, off, none⟩) m c) h = some (.slice (some ⟨h.next, 0, none⟩) m m, h.alloc (.cells ⟨e, (k.cells.drop off).take (m * sz), true⟩)) := by
 obtain ⟨d, s1, b1, z1⟩ := i
 simp only at hd
 subst hd
 subst hs
 subst hbt
 have hr := row_some h b off m c ie.size k hk hm hl
 have h1 : (m == 0) = false := by simp; omega
 have h2 : ((k.cells.drop off).take (m * ie.size)).length = m * ie.size := by simp; omega
 simp only [appendA, ht, he, h0, lenV, hr, h2, ho, h1]
 simp [hb]
theorem app_some (ht : E.ty t = some i) (hd : i.desc = .slice e) (he : E.ty e = some ie) (h0 : (ie.size == 0 || ie.bytes == 0) = false) {sz bt : Nat} (hs : ie.size = sz) (hbt : ie.bytes = bt) (a n c0 b off m c : Nat) (cs : List Value) (k : Blk) (h : Heap)
  (ha : h.blk a = some ⟨e, cs, true⟩) (hn : cs.length = n * sz) (hk : h.blk b = some k) (hm : 0 < m) (hl : off + m * sz ≤ k.cells.length) (ho : ((k.cells.drop off).take (m * sz)).all oneC = true) (hb : (n + m) * bt ≤ most) :
  appendA E t (.slice (some ⟨a, 0, none⟩) n c0) (.slice (some ⟨b, off, none⟩) m c) h = some (.slice (some ⟨h.next, 0, none⟩) (n + m) (n + m), (h.kill a).alloc (.cells ⟨e, cs ++ (k.cells.drop off).take (m * sz), true⟩)) := by
 obtain ⟨d, s1, b1, z1⟩ := i
 simp only at hd
 subst hd
 subst hs
 subst hbt
 have hr := row_some h b off m c ie.size k hk hm hl
 have h1 : (m == 0) = false := by simp; omega
 have h2 : ((k.cells.drop off).take (m * ie.size)).length = m * ie.size := by simp; omega
 simp only [appendA, ht, he, h0, lenV, hr, h2, ho, h1, ha]
 simp [hb, hn]
end
end Go.Proofs.YteekjekckgpbfaaDoor.Abs
end
section
namespace Go.Proofs.YteekjekckgpbfaaDoor.Abs
/-! ### Values -/
theorem vc_int (k : IntKind) (n : Int) : vcells (.int k n) = [.int k n] := rfl
theorem vc_str (s : ByteArray) : vcells (.string s) = [.string s] := rfl
theorem vc_bool (b : Bool) : vcells (.bool b) = [.bool b] := rfl
theorem vc_slice (a : Option Addr) (n c : Nat) : vcells (.slice a n c) = [.slice a n c] := rfl
theorem vc_ptr (a : Option Addr) : vcells (.pointer a) = [.pointer a] := rfl
theorem vc_func (g : Nat) (a c : Array Value) : vcells (.func (.func g) a c) = [.func (.func g) a c] := rfl
theorem vc_iface (t : Nat) (v : Value) : vcells (.iface t v) = [.iface t v] := rfl
theorem vc_niface : vcells .nilIface = [.nilIface] := rfl
theorem vc_agg (l : List Value) : vcells (.agg ⟨l⟩) = l := rfl
theorem oc_int (k : IntKind) (n : Int) : oneC (.int k n) = true := rfl
theorem oc_str (s : ByteArray) : oneC (.string s) = true := rfl
theorem oc_bool (b : Bool) : oneC (.bool b) = true := rfl
theorem oc_slice (a : Option Addr) (n c : Nat) : oneC (.slice a n c) = true := rfl
theorem oc_ptr (a : Option Addr) : oneC (.pointer a) = true := rfl
theorem oc_func (g : Nat) (a c : Array Value) : oneC (.func (.func g) a c) = true := rfl
theorem oc_iface (t : Nat) (v : Value) : oneC (.iface t v) = true := rfl
theorem oc_niface : oneC .nilIface = true := rfl
/-! ### Numbers that are lengths and places -/
theorem pull_add (a b : Nat) : (a : Int) + (b : Int) = ((a + b : Nat) : Int) := rfl
theorem pull_one (a : Nat) : (a : Int) + 1 = ((a + 1 : Nat) : Int) := rfl
theorem pull_two (a : Nat) : (a : Int) + 2 = ((a + 2 : Nat) : Int) := rfl
theorem pull_sub1 (a : Nat) (h : 1 ≤ a) : (a : Int) - 1 = ((a - 1 : Nat) : Int) := by omega
theorem pull_sub (a b : Nat) (h : b ≤ a) : (a : Int) - (b : Int) = ((a - b : Nat) : Int) := by omega
theorem wrap_nat (n : Nat) (h : n < 9223372036854775808) : wrapA .i64 (n : Int) = (n : Int) := wrap_id _ (by omega) (by omega)
theorem n_lt (a b : Nat) : decide ((a : Int) < (b : Int)) = decide (a < b) := by simp
theorem n_le (a b : Nat) : decide ((a : Int) ≤ (b : Int)) = decide (a ≤ b) := by simp
theorem n_eq (a b : Nat) : ((a : Int) == (b : Int)) = (a == b) := by rw [Bool.eq_iff_iff, beq_iff_eq, beq_iff_eq]; omega
theorem n_ne (a b : Nat) : ((a : Int) != (b : Int)) = (a != b) := by simp only [bne, n_eq]
theorem n_lt0 (a : Nat) : decide ((a : Int) < 0) = false := by simp
theorem n_0lt (a : Nat) : decide (0 < (a : Int)) = decide (0 < a) := by simp
theorem n_0le (a : Nat) : decide (0 ≤ (a : Int)) = true := by simp
theorem n_eq0 (a : Nat) : ((a : Int) == 0) = (a == 0) := n_eq a 0
theorem n_ne0 (a : Nat) : ((a : Int) != 0) = (a != 0) := n_ne a 0
/-! ### Loads and stores in blocks of a few cells -/
theorem bindo_some {α β : Type} (a : α) (f : α → Option β) : (some a).bind f = f a := rfl
section
variable (a b c d e f v : Value)
theorem g1_0 : [a][0]? = some a := rfl
theorem put1 : putL [a] 0 [v] = [v] := rfl
theorem put2_0 : putL [a, b] 0 [v] = [v, b] := rfl
theorem put2_1 : putL [a, b] 1 [v] = [a, v] := rfl
theorem put4_0 : putL [a, b, c, d] 0 [v] = [v, b, c, d] := rfl
theorem put4_1 : putL [a, b, c, d] 1 [v] = [a, v, c, d] := rfl
theorem put4_2 : putL [a, b, c, d] 2 [v] = [a, b, v, d] := rfl
theorem put4_3 : putL [a, b, c, d] 3 [v] = [a, b, c, v] := rfl
theorem put5_0 : putL [a, b, c, d, e] 0 [v] = [v, b, c, d, e] := rfl
theorem put5_1 : putL [a, b, c, d, e] 1 [v] = [a, v, c, d, e] := rfl
theorem put5_2 : putL [a, b, c, d, e] 2 [v] = [a, b, v, d, e] := rfl
theorem put5_3 : putL [a, b, c, d, e] 3 [v] = [a, b, c, v, e] := rfl
theorem put5_4 : putL [a, b, c, d, e] 4 [v] = [a, b, c, d, v] := rfl
theorem put6_0 : putL [a, b, c, d, e, f] 0 [v] = [v, b, c, d, e, f] := rfl
theorem put6_1 : putL [a, b, c, d, e, f] 1 [v] = [a, v, c, d, e, f] := rfl
theorem put6_2 : putL [a, b, c, d, e, f] 2 [v] = [a, b, v, d, e, f] := rfl
theorem put6_3 : putL [a, b, c, d, e, f] 3 [v] = [a, b, c, v, e, f] := rfl
theorem put6_4 : putL [a, b, c, d, e, f] 4 [v] = [a, b, c, d, v, f] := rfl
theorem put6_5 : putL [a, b, c, d, e, f] 5 [v] = [a, b, c, d, e, v] := rfl
variable (a' b' c' d' e' f' : Value)
theorem put2_a : putL [a, b] 0 [a', b'] = [a', b'] := rfl
theorem put5_a : putL [a, b, c, d, e] 0 [a', b', c', d', e'] = [a', b', c', d', e'] := rfl
theorem put6_a : putL [a, b, c, d, e, f] 0 [a', b', c', d', e', f'] = [a', b', c', d', e', f'] := rfl
theorem get2_1 : [a, b][1]? = some b := rfl
theorem get4_1 : [a, b, c, d][1]? = some b := rfl
theorem get4_2 : [a, b, c, d][2]? = some c := rfl
theorem get4_3 : [a, b, c, d][3]? = some d := rfl
theorem get5_1 : [a, b, c, d, e][1]? = some b := rfl
theorem get5_2 : [a, b, c, d, e][2]? = some c := rfl
theorem get5_3 : [a, b, c, d, e][3]? = some d := rfl
theorem get5_4 : [a, b, c, d, e][4]? = some e := rfl
theorem get6_1 : [a, b, c, d, e, f][1]? = some b := rfl
theorem get6_2 : [a, b, c, d, e, f][2]? = some c := rfl
theorem get6_3 : [a, b, c, d, e, f][3]? = some d := rfl
theorem get6_4 : [a, b, c, d, e, f][4]? = some e := rfl
theorem get6_5 : [a, b, c, d, e, f][5]? = some f := rfl
theorem get_0 (l : List Value) : (a :: l)[0]? = some a := rfl
theorem td2 : ([a, b].drop 0).take 2 = [a, b] := rfl
theorem td5 : ([a, b, c, d, e].drop 0).take 5 = [a, b, c, d, e] := rfl
theorem td6 : ([a, b, c, d, e, f].drop 0).take 6 = [a, b, c, d, e, f] := rfl
theorem len1 : [a].length = 1 := rfl
theorem len2 : [a, b].length = 2 := rfl
theorem len4 : [a, b, c, d].length = 4 := rfl
theorem len5 : [a, b, c, d, e].length = 5 := rfl
theorem len6 : [a, b, c, d, e, f].length = 6 := rfl
theorem all_cons' (l : List Value) : (a :: l).all oneC = (oneC a && l.all oneC) := rfl
theorem all_nil' : ([] : List Value).all oneC = true := rfl
end
theorem ext3_0 (a b c : Value) : extractA (.tuple ⟨[a, b, c]⟩) 0 = some a := rfl
theorem ext3_1 (a b c : Value) : extractA (.tuple ⟨[a, b, c]⟩) 1 = some b := rfl
theorem ext3_2 (a b c : Value) : extractA (.tuple ⟨[a, b, c]⟩) 2 = some c := rfl
theorem le_ok (a b : Nat) (h : Nat.ble a b = true) : decide (a ≤ b) = true := decide_eq_true (Nat.le_of_ble_eq_true h)
theorem beqT (b : Bool) : (b == true) = b := by cases b <;> rfl
theorem beqF (b : Bool) : (b == false) = !b := by cases b <;> rfl
theorem boolIs_undef (w : Bool) : boolIs w undef = false := by cases w <;> rfl
theorem beq_self (n : Nat) : (n == n) = true := by simp
end Go.Proofs.YteekjekckgpbfaaDoor.Abs
end
section
set_option maxRecDepth 100000
namespace Go.Proofs.YteekjekckgpbfaaDoor.Abs
theorem ty1 : E.ty 1 = some ti1 := by kernel_rfl
theorem ty3 : E.ty 3 = some ti3 := by kernel_rfl
theorem ty4 : E.ty 4 = some ti4 := by kernel_rfl
theorem ty5 : E.ty 5 = some ti5 := by kernel_rfl
theorem ty9 : E.ty 9 = some ti9 := by kernel_rfl
theorem ty22 : E.ty 22 = some ti22 := by kernel_rfl
theorem ty24 : E.ty 24 = some ti24 := by kernel_rfl
theorem ty27 : E.ty 27 = some ti27 := by kernel_rfl
theorem ty29 : E.ty 29 = some ti29 := by kernel_rfl
theorem ty34 : E.ty 34 = some ti34 := by kernel_rfl
theorem ty37 : E.ty 37 = some ti37 := by kernel_rfl
theorem ty39 : E.ty 39 = some ti39 := by kernel_rfl
theorem ty40 : E.ty 40 = some ti40 := by kernel_rfl
theorem ty47 : E.ty 47 = some ti47 := by kernel_rfl
theorem ty49 : E.ty 49 = some ti49 := by kernel_rfl
theorem ty51 : E.ty 51 = some ti51 := by kernel_rfl
theorem ty52 : E.ty 52 = some ti52 := by kernel_rfl
theorem ty55 : E.ty 55 = some ti55 := by kernel_rfl
theorem ty57 : E.ty 57 = some ti57 := by kernel_rfl
theorem ty58 : E.ty 58 = some ti58 := by kernel_rfl
theorem ty71 : E.ty 71 = some ti71 := by kernel_rfl
theorem ty79 : E.ty 79 = some ti79 := by kernel_rfl
theorem ty89 : E.ty 89 = some ti89 := by kernel_rfl
theorem ld1 (b off : Nat) (h : Heap) : loadA E 1 (.pointer (some ⟨b, off, none⟩)) h = (h.blk b).bind fun k => k.cells[off]? := load_one ty1 rfl b off h
theorem ld3 (b off : Nat) (h : Heap) : loadA E 3 (.pointer (some ⟨b, off, none⟩)) h = (h.blk b).bind fun k => k.cells[off]? := load_one ty3 rfl b off h
theorem ld4 (b off : Nat) (h : Heap) : loadA E 4 (.pointer (some ⟨b, off, none⟩)) h = (h.blk b).bind fun k => k.cells[off]? := load_one ty4 rfl b off h
theorem ld9 (b off : Nat) (h : Heap) : loadA E 9 (.pointer (some ⟨b, off, none⟩)) h = (h.blk b).bind fun k => k.cells[off]? := load_one ty9 rfl b off h
theorem ld22 (b off : Nat) (h : Heap) : loadA E 22 (.pointer (some ⟨b, off, none⟩)) h = (h.blk b).bind fun k => k.cells[off]? := load_one ty22 rfl b off h
theorem ld24 (b off : Nat) (h : Heap) : loadA E 24 (.pointer (some ⟨b, off, none⟩)) h = (h.blk b).bind fun k => k.cells[off]? := load_one ty24 rfl b off h
theorem ld27 (b off : Nat) (h : Heap) : loadA E 27 (.pointer (some ⟨b, off, none⟩)) h = (h.blk b).bind fun k => k.cells[off]? := load_one ty27 rfl b off h
theorem ld34 (b off : Nat) (h : Heap) : loadA E 34 (.pointer (some ⟨b, off, none⟩)) h = (h.blk b).bind fun k => k.cells[off]? := load_one ty34 rfl b off h
theorem ld37 (b off : Nat) (h : Heap) : loadA E 37 (.pointer (some ⟨b, off, none⟩)) h = (h.blk b).bind fun k => k.cells[off]? := load_one ty37 rfl b off h
theorem ld39 (b off : Nat) (h : Heap) : loadA E 39 (.pointer (some ⟨b, off, none⟩)) h = (h.blk b).bind fun k => bif decide (off + 5 ≤ k.cells.length) then some (.agg ⟨(k.cells.drop off).take 5⟩) else none := load_agg ty39 rfl b off h
theorem ld49 (b off : Nat) (h : Heap) : loadA E 49 (.pointer (some ⟨b, off, none⟩)) h = (h.blk b).bind fun k => bif decide (off + 6 ≤ k.cells.length) then some (.agg ⟨(k.cells.drop off).take 6⟩) else none := load_agg ty49 rfl b off h
theorem ld51 (b off : Nat) (h : Heap) : loadA E 51 (.pointer (some ⟨b, off, none⟩)) h = (h.blk b).bind fun k => k.cells[off]? := load_one ty51 rfl b off h
theorem ld55 (b off : Nat) (h : Heap) : loadA E 55 (.pointer (some ⟨b, off, none⟩)) h = (h.blk b).bind fun k => k.cells[off]? := load_one ty55 rfl b off h
theorem ld79 (b off : Nat) (h : Heap) : loadA E 79 (.pointer (some ⟨b, off, none⟩)) h = (h.blk b).bind fun k => k.cells[off]? := load_one ty79 rfl b off h
theorem ld89 (b off : Nat) (h : Heap) : loadA E 89 (.pointer (some ⟨b, off, none⟩)) h = (h.blk b).bind fun k => bif decide (off + 2 ≤ k.cells.length) then some (.agg ⟨(k.cells.drop off).take 2⟩) else none := load_agg ty89 rfl b off h
theorem st1 (b off : Nat) (x : Value) (h : Heap) : storeA E 1 (.pointer (some ⟨b, off, none⟩)) x h = (h.blk b).bind fun k => bif k.own && (vcells x).length == 1 && (vcells x).all oneC && decide (off + (vcells x).length ≤ k.cells.length) then some (h.set b (.cells ⟨k.elem, putL k.cells off (vcells x), true⟩)) else none := store_at ty1 b off x h
theorem st3 (b off : Nat) (x : Value) (h : Heap) : storeA E 3 (.pointer (some ⟨b, off, none⟩)) x h = (h.blk b).bind fun k => bif k.own && (vcells x).length == 1 && (vcells x).all oneC && decide (off + (vcells x).length ≤ k.cells.length) then some (h.set b (.cells ⟨k.elem, putL k.cells off (vcells x), true⟩)) else none := store_at ty3 b off x h
theorem st4 (b off : Nat) (x : Value) (h : Heap) : storeA E 4 (.pointer (some ⟨b, off, none⟩)) x h = (h.blk b).bind fun k => bif k.own && (vcells x).length == 1 && (vcells x).all oneC && decide (off + (vcells x).length ≤ k.cells.length) then some (h.set b (.cells ⟨k.elem, putL k.cells off (vcells x), true⟩)) else none := store_at ty4 b off x h
theorem st9 (b off : Nat) (x : Value) (h : Heap) : storeA E 9 (.pointer (some ⟨b, off, none⟩)) x h = (h.blk b).bind fun k => bif k.own && (vcells x).length == 1 && (vcells x).all oneC && decide (off + (vcells x).length ≤ k.cells.length) then some (h.set b (.cells ⟨k.elem, putL k.cells off (vcells x), true⟩)) else none := store_at ty9 b off x h
theorem st22 (b off : Nat) (x : Value) (h : Heap) : storeA E 22 (.pointer (some ⟨b, off, none⟩)) x h = (h.blk b).bind fun k => bif k.own && (vcells x).length == 1 && (vcells x).all oneC && decide (off + (vcells x).length ≤ k.cells.length) then some (h.set b (.cells ⟨k.elem, putL k.cells off (vcells x), true⟩)) else none := store_at ty22 b off x h
theorem st24 (b off : Nat) (x : Value) (h : Heap) : storeA E 24 (.pointer (some ⟨b, off, none⟩)) x h = (h.blk b).bind fun k => bif k.own && (vcells x).length == 1 && (vcells x).all oneC && decide (off + (vcells x).length ≤ k.cells.length) then some (h.set b (.cells ⟨k.elem, putL k.cells off (vcells x), true⟩)) else none := store_at ty24 b off x h
theorem st37 (b off : Nat) (x : Value) (h : Heap) : storeA E 37 (.pointer (some ⟨b, off, none⟩)) x h = (h.blk b).bind fun k => bif k.own && (vcells x).length == 1 && (vcells x).all oneC && decide (off + (vcells x).length ≤ k.cells.length) then some (h.set b (.cells ⟨k.elem, putL k.cells off (vcells x), true⟩)) else none := store_at ty37 b off x h
theorem st39 (b off : Nat) (x : Value) (h : Heap) : storeA E 39 (.pointer (some ⟨b, off, none⟩)) x h = (h.blk b).bind fun k => bif k.own && (vcells x).length == 5 && (vcells x).all oneC && decide (off + (vcells x).length ≤ k.cells.length) then some (h.set b (.cells ⟨k.elem, putL k.cells off (vcells x), true⟩)) else none := store_at ty39 b off x h
theorem st49 (b off : Nat) (x : Value) (h : Heap) : storeA E 49 (.pointer (some ⟨b, off, none⟩)) x h = (h.blk b).bind fun k => bif k.own && (vcells x).length == 6 && (vcells x).all oneC && decide (off + (vcells x).length ≤ k.cells.length) then some (h.set b (.cells ⟨k.elem, putL k.cells off (vcells x), true⟩)) else none := store_at ty49 b off x h
theorem st55 (b off : Nat) (x : Value) (h : Heap) : storeA E 55 (.pointer (some ⟨b, off, none⟩)) x h = (h.blk b).bind fun k => bif k.own && (vcells x).length == 1 && (vcells x).all oneC && decide (off + (vcells x).length ≤ k.cells.length) then some (h.set b (.cells ⟨k.elem, putL k.cells off (vcells x), true⟩)) else none := store_at ty55 b off x h
theorem st79 (b off : Nat) (x : Value) (h : Heap) : storeA E 79 (.pointer (some ⟨b, off, none⟩)) x h = (h.blk b).bind fun k => bif k.own && (vcells x).length == 1 && (vcells x).all oneC && decide (off + (vcells x).length ≤ k.cells.length) then some (h.set b (.cells ⟨k.elem, putL k.cells off (vcells x), true⟩)) else none := store_at ty79 b off x h
theorem st89 (b off : Nat) (x : Value) (h : Heap) : storeA E 89 (.pointer (some ⟨b, off, none⟩)) x h = (h.blk b).bind fun k => bif k.own && (vcells x).length == 2 && (vcells x).all oneC && decide (off + (vcells x).length ≤ k.cells.length) then some (h.set b (.cells ⟨k.elem, putL k.cells off (vcells x), true⟩)) else none := store_at ty89 b off x h
theorem fa29_0 (b off : Nat) : fieldAddrA E 29 (.pointer (some ⟨b, off, none⟩)) 0 = some (.pointer (some ⟨b, off + 0, none⟩)) := by kernel_rfl
theorem fa29_1 (b off : Nat) : fieldAddrA E 29 (.pointer (some ⟨b, off, none⟩)) 1 = some (.pointer (some ⟨b, off + 1, none⟩)) := by kernel_rfl
theorem fa39_0 (b off : Nat) : fieldAddrA E 39 (.pointer (some ⟨b, off, none⟩)) 0 = some (.pointer (some ⟨b, off + 0, none⟩)) := by kernel_rfl
theorem fa39_1 (b off : Nat) : fieldAddrA E 39 (.pointer (some ⟨b, off, none⟩)) 1 = some (.pointer (some ⟨b, off + 1, none⟩)) := by kernel_rfl
theorem fa39_2 (b off : Nat) : fieldAddrA E 39 (.pointer (some ⟨b, off, none⟩)) 2 = some (.pointer (some ⟨b, off + 2, none⟩)) := by kernel_rfl
theorem fa39_3 (b off : Nat) : fieldAddrA E 39 (.pointer (some ⟨b, off, none⟩)) 3 = some (.pointer (some ⟨b, off + 3, none⟩)) := by kernel_rfl
theorem fa39_4 (b off : Nat) : fieldAddrA E 39 (.pointer (some ⟨b, off, none⟩)) 4 = some (.pointer (some ⟨b, off + 4, none⟩)) := by kernel_rfl
theorem fa49_0 (b off : Nat) : fieldAddrA E 49 (.pointer (some ⟨b, off, none⟩)) 0 = some (.pointer (some ⟨b, off + 0, none⟩)) := by kernel_rfl
theorem fa49_1 (b off : Nat) : fieldAddrA E 49 (.pointer (some ⟨b, off, none⟩)) 1 = some (.pointer (some ⟨b, off + 1, none⟩)) := by kernel_rfl
theorem fa49_2 (b off : Nat) : fieldAddrA E 49 (.pointer (some ⟨b, off, none⟩)) 2 = some (.pointer (some ⟨b, off + 2, none⟩)) := by kernel_rfl
theorem fa49_3 (b off : Nat) : fieldAddrA E 49 (.pointer (some ⟨b, off, none⟩)) 3 = some (.pointer (some ⟨b, off + 3, none⟩)) := by kernel_rfl
theorem fa49_4 (b off : Nat) : fieldAddrA E 49 (.pointer (some ⟨b, off, none⟩)) 4 = some (.pointer (some ⟨b, off + 4, none⟩)) := by kernel_rfl
theorem fa52_0 (b off : Nat) : fieldAddrA E 52 (.pointer (some ⟨b, off, none⟩)) 0 = some (.pointer (some ⟨b, off + 0, none⟩)) := by kernel_rfl
theorem fa52_1 (b off : Nat) : fieldAddrA E 52 (.pointer (some ⟨b, off, none⟩)) 1 = some (.pointer (some ⟨b, off + 1, none⟩)) := by kernel_rfl
theorem fa57_0 (b off : Nat) : fieldAddrA E 57 (.pointer (some ⟨b, off, none⟩)) 0 = some (.pointer (some ⟨b, off + 0, none⟩)) := by kernel_rfl
theorem fa57_1 (b off : Nat) : fieldAddrA E 57 (.pointer (some ⟨b, off, none⟩)) 1 = some (.pointer (some ⟨b, off + 1, none⟩)) := by kernel_rfl
theorem fa57_2 (b off : Nat) : fieldAddrA E 57 (.pointer (some ⟨b, off, none⟩)) 2 = some (.pointer (some ⟨b, off + 2, none⟩)) := by kernel_rfl
theorem fa57_3 (b off : Nat) : fieldAddrA E 57 (.pointer (some ⟨b, off, none⟩)) 3 = some (.pointer (some ⟨b, off + 3, none⟩)) := by kernel_rfl
theorem fa89_0 (b off : Nat) : fieldAddrA E 89 (.pointer (some ⟨b, off, none⟩)) 0 = some (.pointer (some ⟨b, off + 0, none⟩)) := by kernel_rfl
theorem fa89_1 (b off : Nat) : fieldAddrA E 89 (.pointer (some ⟨b, off, none⟩)) 1 = some (.pointer (some ⟨b, off + 1, none⟩)) := by kernel_rfl
theorem ia22 (b off n c i : Nat) (hi : i < n) : indexAddrA E 22 (.slice (some ⟨b, off, none⟩) n c) (.int .i64 (i : Int)) = some (.pointer (some ⟨b, off + i * 5, none⟩)) := idx_slice ty22 rfl ty39 rfl b off n c i hi
theorem ia37 (b off n c i : Nat) (hi : i < n) : indexAddrA E 37 (.slice (some ⟨b, off, none⟩) n c) (.int .i64 (i : Int)) = some (.pointer (some ⟨b, off + i * 6, none⟩)) := idx_slice ty37 rfl ty49 rfl b off n c i hi
theorem ia40 (b off n c i : Nat) (hi : i < n) : indexAddrA E 40 (.slice (some ⟨b, off, none⟩) n c) (.int .i64 (i : Int)) = some (.pointer (some ⟨b, off + i * 1, none⟩)) := idx_slice ty40 rfl ty9 rfl b off n c i hi
theorem ia55 (b off n c i : Nat) (hi : i < n) : indexAddrA E 55 (.slice (some ⟨b, off, none⟩) n c) (.int .i64 (i : Int)) = some (.pointer (some ⟨b, off + i * 2, none⟩)) := idx_slice ty55 rfl ty89 rfl b off n c i hi
theorem ia58 (b off n c i : Nat) (hi : i < n) : indexAddrA E 58 (.slice (some ⟨b, off, none⟩) n c) (.int .i64 (i : Int)) = some (.pointer (some ⟨b, off + i * 1, none⟩)) := idx_slice ty58 rfl ty34 rfl b off n c i hi
theorem ln9 (l : List UInt8) : lenA E 9 (.string (mkS l)) = some (.int .i64 (l.length : Int)) := by kernel_rfl
theorem ln22 (a : Option Addr) (n c : Nat) : lenA E 22 (.slice a n c) = some (.int .i64 (n : Int)) := by kernel_rfl
theorem ln37 (a : Option Addr) (n c : Nat) : lenA E 37 (.slice a n c) = some (.int .i64 (n : Int)) := by kernel_rfl
theorem ln40 (a : Option Addr) (n c : Nat) : lenA E 40 (.slice a n c) = some (.int .i64 (n : Int)) := by kernel_rfl
theorem ln55 (a : Option Addr) (n c : Nat) : lenA E 55 (.slice a n c) = some (.int .i64 (n : Int)) := by kernel_rfl
theorem ln58 (a : Option Addr) (n c : Nat) : lenA E 58 (.slice a n c) = some (.int .i64 (n : Int)) := by kernel_rfl
theorem ln79 (a : Option Addr) (n c : Nat) : lenA E 79 (.slice a n c) = some (.int .i64 (n : Int)) := by kernel_rfl
theorem ix9 (l : List UInt8) (i : Nat) (c : UInt8) (hc : l[i]? = some c) : indexA E 9 (.string (mkS l)) (.int .i64 (i : Int)) = some (.int .u8 (c.toNat : Int)) := idx_str ty9 rfl l i c hc
theorem sl9_lo (l : List UInt8) (i : Nat) (h : Heap) (hi : i ≤ l.length) : sliceA E 9 (.string (mkS l)) (some (.int .i64 (i : Int))) none h = some (.string (mkS (l.drop i))) := sls_lo ty9 rfl l i h hi
theorem sl9_hi (l : List UInt8) (j : Nat) (h : Heap) (hj : j ≤ l.length) : sliceA E 9 (.string (mkS l)) none (some (.int .i64 (j : Int))) h = some (.string (mkS (l.take j))) := sls_hi ty9 rfl l j h hj
theorem sl9_lh (l : List UInt8) (i j : Nat) (h : Heap) (hij : i ≤ j) (hj : j ≤ l.length) : sliceA E 9 (.string (mkS l)) (some (.int .i64 (i : Int))) (some (.int .i64 (j : Int))) h = some (.string (mkS ((l.drop i).take (j - i)))) := sls_lh ty9 rfl l i j h hij hj
theorem bd29_0_1 (n0 : Int) (n1 : Int) : buildA E 29 [(0, .int .i64 n0), (1, .int .i64 n1)] = some (.agg ⟨[.int .i64 n0, .int .i64 n1]⟩) := by kernel_rfl
theorem bd39_0_2_4 (n0 : Int) (a2 : Option Addr) (m2 : Nat) (c2 : Nat) (n4 : Int) : buildA E 39 [(0, .int .i64 n0), (2, .slice a2 m2 c2), (4, .int .i64 n4)] = some (.agg ⟨[.int .i64 n0, .string (mkS []), .slice a2 m2 c2, .bool false, .int .i64 n4]⟩) := by kernel_rfl
theorem bd39_0_1_4 (n0 : Int) (l1 : ByteArray) (n4 : Int) : buildA E 39 [(0, .int .i64 n0), (1, .string l1), (4, .int .i64 n4)] = some (.agg ⟨[.int .i64 n0, .string l1, .slice none 0 0, .bool false, .int .i64 n4]⟩) := by kernel_rfl
theorem bd39_0_4 (n0 : Int) (n4 : Int) : buildA E 39 [(0, .int .i64 n0), (4, .int .i64 n4)] = some (.agg ⟨[.int .i64 n0, .string (mkS []), .slice none 0 0, .bool false, .int .i64 n4]⟩) := by kernel_rfl
theorem bd49 : buildA E 49 [] = some (.agg ⟨[.int .i64 0, .string (mkS []), .string (mkS []), .bool false, .slice none 0 0, .pointer none]⟩) := by kernel_rfl
theorem bd49_0_1_3 (n0 : Int) (l1 : ByteArray) (b3 : Bool) : buildA E 49 [(0, .int .i64 n0), (1, .string l1), (3, .bool b3)] = some (.agg ⟨[.int .i64 n0, .string l1, .string (mkS []), .bool b3, .slice none 0 0, .pointer none]⟩) := by kernel_rfl
theorem bd49_0_1 (n0 : Int) (l1 : ByteArray) : buildA E 49 [(0, .int .i64 n0), (1, .string l1)] = some (.agg ⟨[.int .i64 n0, .string l1, .string (mkS []), .bool false, .slice none 0 0, .pointer none]⟩) := by kernel_rfl
theorem bd49_0_3 (n0 : Int) (b3 : Bool) : buildA E 49 [(0, .int .i64 n0), (3, .bool b3)] = some (.agg ⟨[.int .i64 n0, .string (mkS []), .string (mkS []), .bool b3, .slice none 0 0, .pointer none]⟩) := by kernel_rfl
theorem bd52_0_1 (n0 : Int) (n1 : Int) : buildA E 52 [(0, .int .i64 n0), (1, .int .i64 n1)] = some (.agg ⟨[.int .i64 n0, .int .i64 n1]⟩) := by kernel_rfl
theorem bd57_0 (l0 : ByteArray) : buildA E 57 [(0, .string l0)] = some (.agg ⟨[.string l0, .int .i64 0, .slice none 0 0, .slice none 0 0]⟩) := by kernel_rfl
theorem bd57_0_1 (l0 : ByteArray) (n1 : Int) : buildA E 57 [(0, .string l0), (1, .int .i64 n1)] = some (.agg ⟨[.string l0, .int .i64 n1, .slice none 0 0, .slice none 0 0]⟩) := by kernel_rfl
theorem bd89_0_1 (n0 : Int) (l1 : ByteArray) : buildA E 89 [(0, .int .i64 n0), (1, .string l1)] = some (.agg ⟨[.int .i64 n0, .string l1]⟩) := by kernel_rfl
theorem bs22_1 (x : Value) (h : Heap) (hx : (vcells x).length = 5) : buildSliceA E 22 1 [(0, x)] h = some (.slice (some ⟨h.next, 0, none⟩) 1 1, h.alloc (.cells ⟨39, vcells x, true⟩)) := bsl_one ty22 rfl ty39 rfl rfl (by decide) x h hx
theorem bs37_1 (x : Value) (h : Heap) (hx : (vcells x).length = 6) : buildSliceA E 37 1 [(0, x)] h = some (.slice (some ⟨h.next, 0, none⟩) 1 1, h.alloc (.cells ⟨49, vcells x, true⟩)) := bsl_one ty37 rfl ty49 rfl rfl (by decide) x h hx
theorem bs40_1 (x : Value) (h : Heap) (hx : (vcells x).length = 1) : buildSliceA E 40 1 [(0, x)] h = some (.slice (some ⟨h.next, 0, none⟩) 1 1, h.alloc (.cells ⟨9, vcells x, true⟩)) := bsl_one ty40 rfl ty9 rfl rfl (by decide) x h hx
theorem bs55_1 (x : Value) (h : Heap) (hx : (vcells x).length = 2) : buildSliceA E 55 1 [(0, x)] h = some (.slice (some ⟨h.next, 0, none⟩) 1 1, h.alloc (.cells ⟨89, vcells x, true⟩)) := bsl_one ty55 rfl ty89 rfl rfl (by decide) x h hx
theorem bs79_1 (x : Value) (h : Heap) (hx : (vcells x).length = 1) : buildSliceA E 79 1 [(0, x)] h = some (.slice (some ⟨h.next, 0, none⟩) 1 1, h.alloc (.cells ⟨5, vcells x, true⟩)) := bsl_one ty79 rfl ty5 rfl rfl (by decide) x h hx
theorem al1 (h : Heap) : allocA E 1 h = some (.pointer (some ⟨h.next, 0, none⟩), h.alloc (.cells ⟨1, [.nilFunc], true⟩)) := by kernel_rfl
theorem al4 (h : Heap) : allocA E 4 h = some (.pointer (some ⟨h.next, 0, none⟩), h.alloc (.cells ⟨4, [.bool false], true⟩)) := by kernel_rfl
theorem al22 (h : Heap) : allocA E 22 h = some (.pointer (some ⟨h.next, 0, none⟩), h.alloc (.cells ⟨22, [.slice none 0 0], true⟩)) := by kernel_rfl
theorem al24 (h : Heap) : allocA E 24 h = some (.pointer (some ⟨h.next, 0, none⟩), h.alloc (.cells ⟨24, [.nilIface], true⟩)) := by kernel_rfl
theorem al37 (h : Heap) : allocA E 37 h = some (.pointer (some ⟨h.next, 0, none⟩), h.alloc (.cells ⟨37, [.slice none 0 0], true⟩)) := by kernel_rfl
theorem al39 (h : Heap) : allocA E 39 h = some (.pointer (some ⟨h.next, 0, none⟩), h.alloc (.cells ⟨39, [.int .i64 0, .string (mkS []), .slice none 0 0, .bool false, .int .i64 0], true⟩)) := by kernel_rfl
theorem al49 (h : Heap) : allocA E 49 h = some (.pointer (some ⟨h.next, 0, none⟩), h.alloc (.cells ⟨49, [.int .i64 0, .string (mkS []), .string (mkS []), .bool false, .slice none 0 0, .pointer none], true⟩)) := by kernel_rfl
theorem al51 (h : Heap) : allocA E 51 h = some (.pointer (some ⟨h.next, 0, none⟩), h.alloc (.cells ⟨51, [.pointer none], true⟩)) := by kernel_rfl
theorem al79 (h : Heap) : allocA E 79 h = some (.pointer (some ⟨h.next, 0, none⟩), h.alloc (.cells ⟨79, [.slice none 0 0], true⟩)) := by kernel_rfl
theorem al89 (h : Heap) : allocA E 89 h = some (.pointer (some ⟨h.next, 0, none⟩), h.alloc (.cells ⟨89, [.int .i64 0, .string (mkS [])], true⟩)) := by kernel_rfl
theorem if27 (x : Value) : ifaceA E 27 x = some (.iface 27 x) := by kernel_rfl
theorem if51 (x : Value) : ifaceA E 51 x = some (.iface 51 x) := by kernel_rfl
theorem if71 (x : Value) : ifaceA E 71 x = some (.iface 71 x) := by kernel_rfl
theorem ap22_zero (s : Value) (a : Option Addr) (c : Nat) (h : Heap) (hs : s = .slice none 0 0 ∨ ∃ b n c, s = .slice (some b) n c) : appendA E 22 s (.slice a 0 c) h = some (s, h) := app_zero ty22 rfl ty39 rfl s a c h hs
theorem ap22_nil (b off m c : Nat) (k : Blk) (h : Heap) (hk : h.blk b = some k) (hm : 0 < m) (hl : off + m * 5 ≤ k.cells.length) (ho : ((k.cells.drop off).take (m * 5)).all oneC = true) (hb : m * 64 ≤ most) : appendA E 22 (.slice none 0 0) (.slice (some ⟨b, off, none⟩) m c) h = some (.slice (some ⟨h.next, 0, none⟩) m m, h.alloc (.cells ⟨39, (k.cells.drop off).take (m * 5), true⟩)) := app_nil ty22 rfl ty39 rfl rfl rfl b off m c k h hk hm hl ho hb
theorem ap22_some (a n c0 b off m c : Nat) (cs : List Value) (k : Blk) (h : Heap) (ha : h.blk a = some ⟨39, cs, true⟩) (hn : cs.length = n * 5) (hk : h.blk b = some k) (hm : 0 < m) (hl : off + m * 5 ≤ k.cells.length) (ho : ((k.cells.drop off).take (m * 5)).all oneC = true) (hb : (n + m) * 64 ≤ most) : appendA E 22 (.slice (some ⟨a, 0, none⟩) n c0) (.slice (some ⟨b, off, none⟩) m c) h = some (.slice (some ⟨h.next, 0, none⟩) (n + m) (n + m), (h.kill a).alloc (.cells ⟨39, cs ++ (k.cells.drop off).take (m * 5), true⟩)) := app_some ty22 rfl ty39 rfl rfl rfl a n c0 b off m c cs k h ha hn hk hm hl ho hb
theorem ap37_zero (s : Value) (a : Option Addr) (c : Nat) (h : Heap) (hs : s = .slice none 0 0 ∨ ∃ b n c, s = .slice (some b) n c) : appendA E 37 s (.slice a 0 c) h = some (s, h) := app_zero ty37 rfl ty49 rfl s a c h hs
theorem ap37_nil (b off m c : Nat) (k : Blk) (h : Heap) (hk : h.blk b = some k) (hm : 0 < m) (hl : off + m * 6 ≤ k.cells.length) (ho : ((k.cells.drop off).take (m * 6)).all oneC = true) (hb : m * 80 ≤ most) : appendA E 37 (.slice none 0 0) (.slice (some ⟨b, off, none⟩) m c) h = some (.slice (some ⟨h.next, 0, none⟩) m m, h.alloc (.cells ⟨49, (k.cells.drop off).take (m * 6), true⟩)) := app_nil ty37 rfl ty49 rfl rfl rfl b off m c k h hk hm hl ho hb
theorem ap37_some (a n c0 b off m c : Nat) (cs : List Value) (k : Blk) (h : Heap) (ha : h.blk a = some ⟨49, cs, true⟩) (hn : cs.length = n * 6) (hk : h.blk b = some k) (hm : 0 < m) (hl : off + m * 6 ≤ k.cells.length) (ho : ((k.cells.drop off).take (m * 6)).all oneC = true) (hb : (n + m) * 80 ≤ most) : appendA E 37 (.slice (some ⟨a, 0, none⟩) n c0) (.slice (some ⟨b, off, none⟩) m c) h = some (.slice (some ⟨h.next, 0, none⟩) (n + m) (n + m), (h.kill a).alloc (.cells ⟨49, cs ++ (k.cells.drop off).take (m * 6), true⟩)) := app_some ty37 rfl ty49 rfl rfl rfl a n c0 b off m c cs k h ha hn hk hm hl ho hb
theorem ap40_zero (s : Value) (a : Option Addr) (c : Nat) (h : Heap) (hs : s = .slice none 0 0 ∨ ∃ b n c, s = .slice (some b) n c) : appendA E 40 s (.slice a 0 c) h = some (s, h) := app_zero ty40 rfl ty9 rfl s a c h hs
theorem ap40_nil (b off m c : Nat) (k : Blk) (h : Heap) (hk : h.blk b = some k) (hm : 0 < m) (hl : off + m * 1 ≤ k.cells.length) (ho : ((k.cells.drop off).take (m * 1)).all oneC = true) (hb : m * 16 ≤ most) : appendA E 40 (.slice none 0 0) (.slice (some ⟨b, off, none⟩) m c) h = some (.slice (some ⟨h.next, 0, none⟩) m m, h.alloc (.cells ⟨9, (k.cells.drop off).take (m * 1), true⟩)) := app_nil ty40 rfl ty9 rfl rfl rfl b off m c k h hk hm hl ho hb
theorem ap40_some (a n c0 b off m c : Nat) (cs : List Value) (k : Blk) (h : Heap) (ha : h.blk a = some ⟨9, cs, true⟩) (hn : cs.length = n * 1) (hk : h.blk b = some k) (hm : 0 < m) (hl : off + m * 1 ≤ k.cells.length) (ho : ((k.cells.drop off).take (m * 1)).all oneC = true) (hb : (n + m) * 16 ≤ most) : appendA E 40 (.slice (some ⟨a, 0, none⟩) n c0) (.slice (some ⟨b, off, none⟩) m c) h = some (.slice (some ⟨h.next, 0, none⟩) (n + m) (n + m), (h.kill a).alloc (.cells ⟨9, cs ++ (k.cells.drop off).take (m * 1), true⟩)) := app_some ty40 rfl ty9 rfl rfl rfl a n c0 b off m c cs k h ha hn hk hm hl ho hb
theorem ap55_zero (s : Value) (a : Option Addr) (c : Nat) (h : Heap) (hs : s = .slice none 0 0 ∨ ∃ b n c, s = .slice (some b) n c) : appendA E 55 s (.slice a 0 c) h = some (s, h) := app_zero ty55 rfl ty89 rfl s a c h hs
theorem ap55_nil (b off m c : Nat) (k : Blk) (h : Heap) (hk : h.blk b = some k) (hm : 0 < m) (hl : off + m * 2 ≤ k.cells.length) (ho : ((k.cells.drop off).take (m * 2)).all oneC = true) (hb : m * 24 ≤ most) : appendA E 55 (.slice none 0 0) (.slice (some ⟨b, off, none⟩) m c) h = some (.slice (some ⟨h.next, 0, none⟩) m m, h.alloc (.cells ⟨89, (k.cells.drop off).take (m * 2), true⟩)) := app_nil ty55 rfl ty89 rfl rfl rfl b off m c k h hk hm hl ho hb
theorem ap55_some (a n c0 b off m c : Nat) (cs : List Value) (k : Blk) (h : Heap) (ha : h.blk a = some ⟨89, cs, true⟩) (hn : cs.length = n * 2) (hk : h.blk b = some k) (hm : 0 < m) (hl : off + m * 2 ≤ k.cells.length) (ho : ((k.cells.drop off).take (m * 2)).all oneC = true) (hb : (n + m) * 24 ≤ most) : appendA E 55 (.slice (some ⟨a, 0, none⟩) n c0) (.slice (some ⟨b, off, none⟩) m c) h = some (.slice (some ⟨h.next, 0, none⟩) (n + m) (n + m), (h.kill a).alloc (.cells ⟨89, cs ++ (k.cells.drop off).take (m * 2), true⟩)) := app_some ty55 rfl ty89 rfl rfl rfl a n c0 b off m c cs k h ha hn hk hm hl ho hb
theorem ap79_zero (s : Value) (a : Option Addr) (c : Nat) (h : Heap) (hs : s = .slice none 0 0 ∨ ∃ b n c, s = .slice (some b) n c) : appendA E 79 s (.slice a 0 c) h = some (s, h) := app_zero ty79 rfl ty5 rfl s a c h hs
theorem ap79_nil (b off m c : Nat) (k : Blk) (h : Heap) (hk : h.blk b = some k) (hm : 0 < m) (hl : off + m * 1 ≤ k.cells.length) (ho : ((k.cells.drop off).take (m * 1)).all oneC = true) (hb : m * 1 ≤ most) : appendA E 79 (.slice none 0 0) (.slice (some ⟨b, off, none⟩) m c) h = some (.slice (some ⟨h.next, 0, none⟩) m m, h.alloc (.cells ⟨5, (k.cells.drop off).take (m * 1), true⟩)) := app_nil ty79 rfl ty5 rfl rfl rfl b off m c k h hk hm hl ho hb
theorem ap79_some (a n c0 b off m c : Nat) (cs : List Value) (k : Blk) (h : Heap) (ha : h.blk a = some ⟨5, cs, true⟩) (hn : cs.length = n * 1) (hk : h.blk b = some k) (hm : 0 < m) (hl : off + m * 1 ≤ k.cells.length) (ho : ((k.cells.drop off).take (m * 1)).all oneC = true) (hb : (n + m) * 1 ≤ most) : appendA E 79 (.slice (some ⟨a, 0, none⟩) n c0) (.slice (some ⟨b, off, none⟩) m c) h = some (.slice (some ⟨h.next, 0, none⟩) (n + m) (n + m), (h.kill a).alloc (.cells ⟨5, cs ++ (k.cells.drop off).take (m * 1), true⟩)) := app_some ty79 rfl ty5 rfl rfl rfl a n c0 b off m c cs k h ha hn hk hm hl ho hb
end Go.Proofs.YteekjekckgpbfaaDoor.Abs
end
section
namespace Go.Proofs.YteekjekckgpbfaaDoor.Abs
def SS := And.intro (And.intro (And.intro (And.intro (And.intro (And.intro (And.intro (@bindO_some) (And.intro (@bindR_ret) (@bindR_panic))) (And.intro (And.intro (@gO_true) (@gO_false)) (And.intro (@gR_true) (@gR_false)))) (And.intro (And.intro (@boolIs_bool) (And.intro (@condV_true) (@condV_false))) (And.intro (And.intro (@pickA_true) (@pickA_false)) (And.intro (@nilA_ptr) (@unA_not))))) (And.intro (And.intro (And.intro (@valR_some) (And.intro (@skipR_some) (@extractA_0))) (And.intro (And.intro (@extractA_1) (@wrap_nat)) (And.intro (@bin_add) (@bin_sub)))) (And.intro (And.intro (And.intro (@bin_eql) (@bin_neq)) (And.intro (@bin_lss) (@bin_leq))) (And.intro (And.intro (@bin_gtr) (@bin_geq)) (And.intro (@bin_seql) (@bin_sneq)))))) (And.intro (And.intro (And.intro (And.intro (@binB_int) (And.intro (@binB_str) (@binB_bool))) (And.intro (And.intro (@vc_int) (@vc_str)) (And.intro (@vc_bool) (@vc_slice)))) (And.intro (And.intro (@vc_ptr) (And.intro (@vc_func) (@vc_iface))) (And.intro (And.intro (@vc_niface) (@vc_agg)) (And.intro (@oc_int) (@oc_str))))) (And.intro (And.intro (And.intro (@oc_bool) (And.intro (@oc_slice) (@oc_ptr))) (And.intro (And.intro (@oc_func) (@oc_iface)) (And.intro (@oc_niface) (@pull_add)))) (And.intro (And.intro (And.intro (@pull_one) (@pull_two)) (And.intro (@n_lt) (@n_le))) (And.intro (And.intro (@n_eq) (@n_ne)) (And.intro (@n_lt0) (@n_0lt))))))) (And.intro (And.intro (And.intro (And.intro (And.intro (@n_0le) (And.intro (@n_eq0) (@n_ne0))) (And.intro (And.intro (@bindo_some) (@put1)) (And.intro (@put2_0) (@put2_1)))) (And.intro (And.intro (@put4_0) (And.intro (@put4_1) (@put4_2))) (And.intro (And.intro (@put4_3) (@put5_0)) (And.intro (@put5_1) (@put5_2))))) (And.intro (And.intro (And.intro (@put5_3) (And.intro (@put5_4) (@put6_0))) (And.intro (And.intro (@put6_1) (@put6_2)) (And.intro (@put6_3) (@put6_4)))) (And.intro (And.intro (And.intro (@put6_5) (@put2_a)) (And.intro (@put5_a) (@put6_a))) (And.intro (And.intro (@get2_1) (@get4_1)) (And.intro (@get4_2) (@get4_3)))))) (And.intro (And.intro (And.intro (And.intro (@get5_1) (And.intro (@get5_2) (@get5_3))) (And.intro (And.intro (@get5_4) (@get6_1)) (And.intro (@get6_2) (@get6_3)))) (And.intro (And.intro (And.intro (@get6_4) (@get6_5)) (And.intro (@get_0) (@td2))) (And.intro (And.intro (@td5) (@td6)) (And.intro (@len1) (@len2))))) (And.intro (And.intro (And.intro (@len4) (And.intro (@len5) (@len6))) (And.intro (And.intro (@all_cons') (@all_nil')) (And.intro (@Bool.and_true) (@Bool.true_and)))) (And.intro (And.intro (And.intro (@Bool.and_false) (@Bool.false_and)) (And.intro (@Bool.not_true) (@Bool.not_false))) (And.intro (And.intro (@Bool.or_true) (@Bool.true_or)) (And.intro (@Bool.or_false) (@Bool.false_or)))))))) (And.intro (And.intro (And.intro (And.intro (And.intro (And.intro (@Nat.zero_add) (And.intro (@decide_true) (@decide_false))) (And.intro (And.intro (@beqT) (@beqF)) (And.intro (@boolIs_undef) (@Nat.one_mul)))) (And.intro (And.intro (@ext3_0) (And.intro (@ext3_1) (@ext3_2))) (And.intro (And.intro (@ld1) (@ld3)) (And.intro (@ld4) (@ld9))))) (And.intro (And.intro (And.intro (@ld22) (And.intro (@ld24) (@ld27))) (And.intro (And.intro (@ld34) (@ld37)) (And.intro (@ld39) (@ld49)))) (And.intro (And.intro (And.intro (@ld51) (@ld55)) (And.intro (@ld79) (@ld89))) (And.intro (And.intro (@st1) (@st3)) (And.intro (@st4) (@st9)))))) (And.intro (And.intro (And.intro (And.intro (@st22) (And.intro (@st24) (@st37))) (And.intro (And.intro (@st39) (@st49)) (And.intro (@st55) (@st79)))) (And.intro (And.intro (And.intro (@st89) (@fa29_0)) (And.intro (@fa29_1) (@fa39_0))) (And.intro (And.intro (@fa39_1) (@fa39_2)) (And.intro (@fa39_3) (@fa39_4))))) (And.intro (And.intro (And.intro (@fa49_0) (And.intro (@fa49_1) (@fa49_2))) (And.intro (And.intro (@fa49_3) (@fa49_4)) (And.intro (@fa52_0) (@fa52_1)))) (And.intro (And.intro (And.intro (@fa57_0) (@fa57_1)) (And.intro (@fa57_2) (@fa57_3))) (And.intro (And.intro (@fa89_0) (@fa89_1)) (And.intro (@ia22) (@ia37))))))) (And.intro (And.intro (And.intro (And.intro (And.intro (@ia40) (And.intro (@ia55) (@ia58))) (And.intro (And.intro (@ln9) (@ln22)) (And.intro (@ln37) (@ln40)))) (And.intro (And.intro (@ln55) (And.intro (@ln58) (@ln79))) (And.intro (And.intro (@ix9) (@sl9_lo)) (And.intro (@sl9_hi) (@sl9_lh))))) (And.intro (And.intro (And.intro (@bd29_0_1) (And.intro (@bd39_0_2_4) (@bd39_0_1_4))) (And.intro (And.intro (@bd39_0_4) (@bd49)) (And.intro (@bd49_0_1_3) (@bd49_0_1)))) (And.intro (And.intro (And.intro (@bd49_0_3) (@bd52_0_1)) (And.intro (@bd57_0) (@bd57_0_1))) (And.intro (And.intro (@bd89_0_1) (@bs22_1)) (And.intro (@bs37_1) (@bs40_1)))))) (And.intro (And.intro (And.intro (And.intro (@bs55_1) (And.intro (@bs79_1) (@al1))) (And.intro (And.intro (@al4) (@al22)) (And.intro (@al24) (@al37)))) (And.intro (And.intro (And.intro (@al39) (@al49)) (And.intro (@al51) (@al79))) (And.intro (And.intro (@al89) (@if27)) (And.intro (@if51) (@if71))))) (And.intro (And.intro (And.intro (@ap22_zero) (And.intro (@ap22_nil) (@ap22_some))) (And.intro (And.intro (@ap37_zero) (@ap37_nil)) (And.intro (@ap37_some) (@ap40_zero)))) (And.intro (And.intro (And.intro (@ap40_nil) (@ap40_some)) (And.intro (@ap55_zero) (@ap55_nil))) (And.intro (And.intro (@ap55_some) (@ap79_zero)) (And.intro (@ap79_nil) (@ap79_some))))))))
universe u
def SU := And.intro (And.intro @cond_true.{u} @cond_false.{u}) (And.intro @beq_self_eq_true.{u} @List.length_nil.{u})
end Go.Proofs.YteekjekckgpbfaaDoor.Abs
end
section
set_option maxRecDepth 100000
namespace Go.Proofs.YteekjekckgpbfaaDoor.Abs
abbrev Memo := FuncId → List Value → Heap → Ans
def shX (M : Memo) (E : Env) (S : Tr Step) : Nat → CallF
 | 0, _, _, _ => none
 | n + 1, f, args, h => match M f args h with
  | some r => some r
  | none => match S.get f with
   | none => E.ext f args h
   | some s => s (shX M E S n) n args h
def memo : Memo := fun f args h => match args with
 | [] => bif f == 12 then some (.ret (.bool true), h) else none
 | _ => none
noncomputable def cF : Nat → CallF := shX memo E shT
theorem m12 (n : Nat) (h : Heap) : cF (n + 1) 12 [] h = some (.ret (.bool true), h) := by kernel_rfl
theorem c8 (n : Nat) (a0 : Value) (h : Heap) : cF (n + 1) 8 [a0] h = f8 (cF n) n a0 h := by kernel_rfl
theorem c10 (n : Nat) (a0 a1 : Value) (h : Heap) : cF (n + 1) 10 [a0, a1] h = f10 (cF n) n a0 a1 h := by kernel_rfl
theorem c11 (n : Nat) (a0 a1 : Value) (h : Heap) : cF (n + 1) 11 [a0, a1] h = f11 (cF n) n a0 a1 h := by kernel_rfl
theorem c13 (n : Nat) (a0 a1 : Value) (h : Heap) : cF (n + 1) 13 [a0, a1] h = f13 (cF n) n a0 a1 h := by kernel_rfl
theorem c14 (n : Nat) (a0 : Value) (h : Heap) : cF (n + 1) 14 [a0] h = f14 (cF n) n a0 h := by kernel_rfl
theorem c15 (n : Nat) (a0 a1 a2 : Value) (h : Heap) : cF (n + 1) 15 [a0, a1, a2] h = f15 (cF n) n a0 a1 a2 h := by kernel_rfl
theorem c19 (n : Nat) (a0 : Value) (h : Heap) : cF (n + 1) 19 [a0] h = f19 (cF n) n a0 h := by kernel_rfl
theorem c20 (n : Nat) (a0 : Value) (h : Heap) : cF (n + 1) 20 [a0] h = f20 (cF n) n a0 h := by kernel_rfl
theorem c21 (n : Nat) (a0 : Value) (h : Heap) : cF (n + 1) 21 [a0] h = f21 (cF n) n a0 h := by kernel_rfl
theorem c22 (n : Nat) (a0 : Value) (h : Heap) : cF (n + 1) 22 [a0] h = f22 (cF n) n a0 h := by kernel_rfl
theorem c23 (n : Nat) (a0 a1 : Value) (h : Heap) : cF (n + 1) 23 [a0, a1] h = f23 (cF n) n a0 a1 h := by kernel_rfl
theorem c24 (n : Nat) (a0 : Value) (h : Heap) : cF (n + 1) 24 [a0] h = f24 (cF n) n a0 h := by kernel_rfl
theorem c25 (n : Nat) (a0 a1 : Value) (h : Heap) : cF (n + 1) 25 [a0, a1] h = f25 (cF n) n a0 a1 h := by kernel_rfl
theorem c34 (n : Nat) (a0 a1 : Value) (h : Heap) : cF (n + 1) 34 [a0, a1] h = f34 (cF n) n a0 a1 h := by kernel_rfl
theorem c35 (n : Nat) (a0 a1 : Value) (h : Heap) : cF (n + 1) 35 [a0, a1] h = f35 (cF n) n a0 a1 h := by kernel_rfl
theorem c36 (n : Nat) (a0 : Value) (h : Heap) : cF (n + 1) 36 [a0] h = f36 (cF n) n a0 h := by kernel_rfl
theorem c38 (n : Nat) (a0 a1 : Value) (h : Heap) : cF (n + 1) 38 [a0, a1] h = f38 (cF n) n a0 a1 h := by kernel_rfl
theorem c44 (n : Nat) (a0 a1 : Value) (h : Heap) : cF (n + 1) 44 [a0, a1] h = f44 (cF n) n a0 a1 h := by kernel_rfl
theorem c45 (n : Nat) (a0 a1 : Value) (h : Heap) : cF (n + 1) 45 [a0, a1] h = f45 (cF n) n a0 a1 h := by kernel_rfl
theorem c46 (n : Nat) (a0 a1 : Value) (h : Heap) : cF (n + 1) 46 [a0, a1] h = f46 (cF n) n a0 a1 h := by kernel_rfl
theorem c47 (n : Nat) (a0 a1 : Value) (h : Heap) : cF (n + 1) 47 [a0, a1] h = f47 (cF n) n a0 a1 h := by kernel_rfl
theorem c48 (n : Nat) (h : Heap) : cF (n + 1) 48 [] h = f48 (cF n) n  h := by kernel_rfl
theorem c49 (n : Nat) (a0 a1 a2 : Value) (h : Heap) : cF (n + 1) 49 [a0, a1, a2] h = f49 (cF n) n a0 a1 a2 h := by kernel_rfl
theorem c60 (n : Nat) (a0 a1 : Value) (h : Heap) : cF (n + 1) 60 [a0, a1] h = f60 (cF n) n a0 a1 h := by kernel_rfl
theorem c66 (n : Nat) (a0 a1 : Value) (h : Heap) : cF (n + 1) 66 [a0, a1] h = f66 (cF n) n a0 a1 h := by kernel_rfl
theorem c67 (n : Nat) (a0 a1 : Value) (h : Heap) : cF (n + 1) 67 [a0, a1] h = f67 (cF n) n a0 a1 h := by kernel_rfl
theorem c68 (n : Nat) (a0 : Value) (h : Heap) : cF (n + 1) 68 [a0] h = f68 (cF n) n a0 h := by kernel_rfl
theorem c69 (n : Nat) (a0 a1 a2 : Value) (h : Heap) : cF (n + 1) 69 [a0, a1, a2] h = f69 (cF n) n a0 a1 a2 h := by kernel_rfl
theorem c70 (n : Nat) (a0 a1 a2 : Value) (h : Heap) : cF (n + 1) 70 [a0, a1, a2] h = f70 (cF n) n a0 a1 a2 h := by kernel_rfl
theorem c71 (n : Nat) (a0 a1 : Value) (h : Heap) : cF (n + 1) 71 [a0, a1] h = f71 (cF n) n a0 a1 h := by kernel_rfl
theorem c72 (n : Nat) (a0 : Value) (h : Heap) : cF (n + 1) 72 [a0] h = f72 (cF n) n a0 h := by kernel_rfl
theorem c73 (n : Nat) (a0 a1 : Value) (h : Heap) : cF (n + 1) 73 [a0, a1] h = f73 (cF n) n a0 a1 h := by kernel_rfl
theorem c74 (n : Nat) (a0 a1 a2 : Value) (h : Heap) : cF (n + 1) 74 [a0, a1, a2] h = f74 (cF n) n a0 a1 a2 h := by kernel_rfl
theorem c85 (n : Nat) (a0 a1 : Value) (h : Heap) : cF (n + 1) 85 [a0, a1] h = f85 (cF n) n a0 a1 h := by kernel_rfl
theorem c87 (n : Nat) (a0 a1 : Value) (h : Heap) : cF (n + 1) 87 [a0, a1] h = f87 (cF n) n a0 a1 h := by kernel_rfl
theorem c88 (n : Nat) (a0 a1 : Value) (h : Heap) : cF (n + 1) 88 [a0, a1] h = f88 (cF n) n a0 a1 h := by kernel_rfl
theorem c89 (n : Nat) (a0 a1 a2 a3 : Value) (h : Heap) : cF (n + 1) 89 [a0, a1, a2, a3] h = f89 (cF n) n a0 a1 a2 a3 h := by kernel_rfl
theorem c90 (n : Nat) (a0 a1 : Value) (h : Heap) : cF (n + 1) 90 [a0, a1] h = f90 (cF n) n a0 a1 h := by kernel_rfl
theorem c95 (n : Nat) (a0 : Value) (h : Heap) : cF (n + 1) 95 [a0] h = f95 (cF n) n a0 h := by kernel_rfl
theorem c96 (n : Nat) (a0 a1 : Value) (h : Heap) : cF (n + 1) 96 [a0, a1] h = f96 (cF n) n a0 a1 h := by kernel_rfl
theorem c98 (n : Nat) (a0 a1 : Value) (h : Heap) : cF (n + 1) 98 [a0, a1] h = f98 (cF n) n a0 a1 h := by kernel_rfl
theorem c99 (n : Nat) (h : Heap) : cF (n + 1) 99 [] h = f99 (cF n) n  h := by kernel_rfl
theorem c100 (n : Nat) (a0 : Value) (h : Heap) : cF (n + 1) 100 [a0] h = f100 (cF n) n a0 h := by kernel_rfl
theorem c101 (n : Nat) (a0 : Value) (h : Heap) : cF (n + 1) 101 [a0] h = f101 (cF n) n a0 h := by kernel_rfl
theorem c103 (n : Nat) (a0 : Value) (h : Heap) : cF (n + 1) 103 [a0] h = f103 (cF n) n a0 h := by kernel_rfl
theorem c6 (n : Nat) (a0 : Value) (h : Heap) : cF (n + 1) 6 [a0] h = f6 (cF n) n a0 h := by kernel_rfl
theorem c7 (n : Nat) (a0 a1 : Value) (h : Heap) : cF (n + 1) 7 [a0, a1] h = f7 (cF n) n a0 a1 h := by kernel_rfl
end Go.Proofs.YteekjekckgpbfaaDoor.Abs
end
section
namespace Go.Proofs.YteekjekckgpbfaaDoor.Abs
open Go.RowKit (Below)
theorem shX_ok {P : Program} {B : Nat} {w0 : World} {G : Nat} {E : Env} {S : Tr Step} {M : Memo} (hm : P.follows .mixedOrders = true) (EO : EnvOk P B w0 G okDraw E) (hG : G ≤ P.globals.size) (hdef : ∀ f fn c, E.fn f = some fn → fn.body = some c → deferOk fn.ntmps c = true)
  (hmemo : ∀ f args h r h', M f args h = some (r, h') → ∀ σ w args', VRL P σ args args' → HR P B w0 σ h w → CallOk P B w0 σ f args' w h' r)
  (hext : ∀ f args h r h', E.ext f args h = some (r, h') → ∀ σ w args', VRL P σ args args' → HR P B w0 σ h w → CallOk P B w0 σ f args' w h' r)
  (hS : Tr.All (fun f s => ∀ cf lf l h r, s cf lf l h = some r → stepN E cf lf f l h = some r) S) : ∀ n, CFOk P B w0 (shX M E S n) := by
 intro n
 induction n with
 | zero => intro f args h r h' e; cases e
 | succ n ih =>
  intro f args h r h' e σ w args' ha H
  simp only [shX] at e
  split at e
  ·rename_i x hx
   have e := Option.some.inj e
   subst e
   exact hmemo f args h r h' hx σ w args' ha H
  ·split at e
   ·exact hext f args h r h' e σ w args' ha H
   ·rename_i s hs
    exact step_ok EO hG hdef ih (draw_ok hm EO hG ih) n f args h r h' (hS.get () () _ _ hs _ _ _ _ _ e) σ w args' ha H
theorem memo_ok {B : Nat} {w0 : World} (h0 : TypeCell w0) (hB : 1 < B) : ∀ f args h r h', memo f args h = some (r, h') → ∀ σ w args', VRL Tryd.prog σ args args' → HR Tryd.prog B w0 σ h w → CallOk Tryd.prog B w0 σ f args' w h' r := by
 intro f args h r h' e σ w args' ha H
 cases args with
 | cons a args => cases e
 | nil =>
  cases hf : (f == 12) with
  | false => simp only [memo, hf, cond_false] at e; cases e
  | true =>
   simp only [memo, hf, cond_true] at e
   have e := Option.some.inj e
   have e1 := congrArg Prod.fst e
   have e2 := congrArg Prod.snd e
   simp only at e1 e2
   subst e1; subst e2
   have hf : f = 12 := by simpa using hf
   subst hf
   obtain ⟨h1, er⟩ := isT_some works_run
   have hcell : TypeCell w := h0.keep H.below hB
   have hsz : 4 ≤ w.heap.size := by rw [← nglobals]; exact HR_globals H
   rw [← nglobals] at er
   exact fresh_ok (lexCF hcell (by omega) 1000) H rfl ha rfl er
theorem cF_ok {B : Nat} {w0 : World} (h0 : TypeCell w0) (hB : 1 < B) (n : Nat) : CFOk Tryd.prog B w0 (cF n) :=
 shX_ok (by kernel_rfl) (lexEnv h0 hB) (by rw [nglobals]; exact Nat.le_refl _) (defer_ok fnT_ok) (memo_ok h0 hB) (ext_ok h0 hB) shT_ok n
end Go.Proofs.YteekjekckgpbfaaDoor.Abs
end
section
namespace Go.Proofs.YteekjekckgpbfaaDoor.Sp
abbrev Bs := List UInt8
inductive Part where
 | mk (kind : Nat) (text op : Bs) (quoted : Bool) (word : List Part)
structure Tok where
 kind : Nat
 text : Bs
 parts : List Part
 quoted : Bool
 at' : Nat
inductive Rz (α : Type) where
 | ok (a : α)
 | bad (code at' : Nat)
def isLetter (c : UInt8) : Bool := (decide (97 ≤ (c.toNat : Int)) && decide ((c.toNat : Int) ≤ 122)) || (decide (65 ≤ (c.toNat : Int)) && decide ((c.toNat : Int) ≤ 90)) || ((c.toNat : Int) == 95)
def isDigit (c : UInt8) : Bool := decide (48 ≤ (c.toNat : Int)) && decide ((c.toNat : Int) ≤ 57)
def pre (t r : Bs) : Bool := r.take t.length == t
def find (c : UInt8) : Bs → Option Nat
 | [] => none
 | b :: r => if b == c then some 0 else match find c r with | none => none | some n => some (n + 1)
def inQ (w : Nat) : Bool := w != 0 && w != 3
def ends (w : Nat) (c : UInt8) : Bool := if w == 0 then [32, 9, 10, 59, 38, 124, 40, 41, 60, 62].contains c else if w == 1 then c == 34 else if w == 2 then false else c == 125
def nameFrom : Nat → Bs → Nat
 | n, [] => n
 | n, c :: t => if isLetter c || (decide (0 < n) && isDigit c) then nameFrom (n + 1) t else n
def paramLen (marks r : Bs) : Nat :=
 if nameFrom 0 r == 0 then match r with
  | [] => 0
  | c :: _ => if isDigit c || marks.contains c then 1 else 0
 else nameFrom 0 r
def opsL : List Bs := [[58, 45], [58, 61], [58, 43], [58, 63], [35, 35], [37, 37], [45], [61], [43], [63], [35], [37]]
def marksL : List Bs := [[59, 59], [59], [38, 38], [124, 124], [124], [40], [41], [60, 60], [60], [62, 62], [62, 38], [62]]
mutual
def closed : Nat → Nat → Bs → Option (Option Bs)
 | 0, _, _ => none
 | _ + 1, _, [] => some none
 | f + 1, d, c :: t =>
  if c == 92 then closed f d (t.drop 1)
  else if c == 39 then match find 39 t with
   | none => some none
   | some n => closed f d (t.drop (n + 1))
  else if c == 34 then match closedQ f t with
   | none => none
   | some none => some none
   | some (some t') => closed f d t'
  else if c == 40 then closed f (d + 1) t
  else if c == 41 then (if d == 1 then some (some t) else closed f (d - 1) t)
  else closed f d t
def closedQ : Nat → Bs → Option (Option Bs)
 | 0, _ => none
 | _ + 1, [] => some none
 | f + 1, c :: t =>
  if c == 92 then closedQ f (t.drop 1)
  else if c == 34 then some (some t)
  else if pre [36, 40] (c :: t) then match closed f 1 (t.drop 1) with
   | none => none
   | some none => some none
   | some (some t') => closedQ f t'
  else closedQ f t
end
def flush (w : Nat) (out : List Part) (text : Bs) : List Part := if text.isEmpty then out else out ++ [⟨if inQ w then 1 else 0, text, [], inQ w, []⟩]
def esc (w : Nat) (x : UInt8) : Bs := if !([36, 96, 92].contains x) && (x != 34 || w == 2) then [92, x] else [x]
mutual
def parts : Nat → Nat → Nat → List Part → Bs → Nat → Bs → Option (Rz (List Part × Nat × Bs))
 | 0, _, _, _, _, _, _ => none
 | _ + 1, w, _, out, text, i, [] => some (.ok (flush w out text, i, []))
 | f + 1, w, deep, out, text, i, c :: t =>
  if ends w c then some (.ok (flush w out text, i, c :: t))
  else if pre [92, 10] (c :: t) then parts f w deep out text (i + 2) (t.drop 1)
  else if c == 92 && inQ w then match t with
   | [] => some (.bad 19 i)
   | x :: t' => parts f w deep out (text ++ esc w x) (i + 2) t'
  else if c == 92 then match t with
   | [] => some (.bad 19 i)
   | x :: t' => parts f w deep (flush w out text ++ [⟨1, [x], [], false, []⟩]) [] (i + 2) t'
  else if c == 36 then match dollar f w deep i (c :: t) with
   | none => none
   | some (.bad a b) => some (.bad a b)
   | some (.ok (some p, i', r')) => parts f w deep (flush w out text ++ [p]) [] i' r'
   | some (.ok (none, i', r')) => parts f w deep out (text ++ [36]) i' r'
  else if c == 96 || (c == 34 && w == 4) then some (.bad 19 i)
  else if c == 39 && !inQ w then match find 39 t with
   | none => some (.bad 19 i)
   | some n => parts f w deep (flush w out text ++ [⟨1, t.take n, [], false, []⟩]) [] (i + n + 2) (t.drop (n + 1))
  else if c == 34 && !inQ w then match parts f 1 deep [] [] (i + 1) t with
   | none => none
   | some (.bad a b) => some (.bad a b)
   | some (.ok (ps, i', r')) => if pre [34] r' then parts f w deep (flush w out text ++ (if ps.isEmpty then [⟨1, [], [], true, []⟩] else ps)) [] (i' + 1) (r'.drop 1) else some (.bad 19 i)
  else parts f w deep out (text ++ [c]) (i + 1) t
def dollar : Nat → Nat → Nat → Nat → Bs → Option (Rz (Option Part × Nat × Bs))
 | 0, _, _, _, _ => none
 | f + 1, w, deep, i, r =>
  if pre [36, 40, 40] r then some (.bad 19 i)
  else if pre [36, 40] r then match closed f 1 (r.drop 2) with
   | none => none
   | some none => some (.bad 19 i)
   | some (some r') => some (.ok (some ⟨3, (r.drop 2).take (r.length - 2 - r'.length - 1), [], inQ w, []⟩, i + (r.length - r'.length), r'))
  else if pre [36, 123] r then match braces f w deep i (i + 2) (r.drop 2) with
   | none => none
   | some (.bad a b) => some (.bad a b)
   | some (.ok (p, i', r')) => some (.ok (some p, i', r'))
  else if paramLen [63, 35, 64, 42] (r.drop 1) == 0 then some (.ok (none, i + 1, r.drop 1))
  else some (.ok (some ⟨2, (r.drop 1).take (paramLen [63, 35, 64, 42] (r.drop 1)), [], inQ w, []⟩, i + 1 + paramLen [63, 35, 64, 42] (r.drop 1), (r.drop 1).drop (paramLen [63, 35, 64, 42] (r.drop 1))))
def braces : Nat → Nat → Nat → Nat → Nat → Bs → Option (Rz (Part × Nat × Bs))
 | 0, _, _, _, _, _ => none
 | f + 1, w, deep, from', i, r =>
  if 20 ≤ deep then some (.bad 3 from')
  else if pre [35] r && (paramLen [63, 64, 42] (r.drop 1) != 0 && pre [125] (r.drop (1 + paramLen [63, 64, 42] (r.drop 1)))) then
   some (.ok (⟨2, (r.drop 1).take (paramLen [63, 64, 42] (r.drop 1)), [108, 101, 110], inQ w, []⟩, i + 1 + paramLen [63, 64, 42] (r.drop 1) + 1, r.drop (1 + paramLen [63, 64, 42] (r.drop 1) + 1)))
  else if paramLen [63, 35, 64, 42] r == 0 then some (.bad 19 from')
  else if pre [125] (r.drop (paramLen [63, 35, 64, 42] r)) then some (.ok (⟨2, r.take (paramLen [63, 35, 64, 42] r), [], inQ w, []⟩, i + paramLen [63, 35, 64, 42] r + 1, r.drop (paramLen [63, 35, 64, 42] r + 1)))
  else match opsL.find? (fun o => pre o (r.drop (paramLen [63, 35, 64, 42] r))) with
   | none => some (.bad 19 from')
   | some o => match parts f (if inQ w then 4 else 3) (deep + 1) [] [] (i + paramLen [63, 35, 64, 42] r + o.length) (r.drop (paramLen [63, 35, 64, 42] r + o.length)) with
    | none => none
    | some (.bad a b) => some (.bad a b)
    | some (.ok (ws, i', r')) => if pre [125] r' then some (.ok (⟨2, r.take (paramLen [63, 35, 64, 42] r), o, inQ w, ws⟩, i' + 1, r'.drop 1)) else some (.bad 19 from')
end
theorem parts_cons (f w deep : Nat) (out : List Part) (text : Bs) (i : Nat) (c : UInt8) (t : Bs) : parts (f + 1) w deep out text i (c :: t) = (
  if ends w c then some (.ok (flush w out text, i, c :: t))
  else if pre [92, 10] (c :: t) then parts f w deep out text (i + 2) (t.drop 1)
  else if c == 92 && inQ w then match t with
   | [] => some (.bad 19 i)
   | x :: t' => parts f w deep out (text ++ esc w x) (i + 2) t'
  else if c == 92 then match t with
   | [] => some (.bad 19 i)
   | x :: t' => parts f w deep (flush w out text ++ [⟨1, [x], [], false, []⟩]) [] (i + 2) t'
  else if c == 36 then match dollar f w deep i (c :: t) with
   | none => none
   | some (.bad a b) => some (.bad a b)
   | some (.ok (some p, i', r')) => parts f w deep (flush w out text ++ [p]) [] i' r'
   | some (.ok (none, i', r')) => parts f w deep out (text ++ [36]) i' r'
  else if c == 96 || (c == 34 && w == 4) then some (.bad 19 i)
  else if c == 39 && !inQ w then match find 39 t with
   | none => some (.bad 19 i)
   | some n => parts f w deep (flush w out text ++ [⟨1, t.take n, [], false, []⟩]) [] (i + n + 2) (t.drop (n + 1))
  else if c == 34 && !inQ w then match parts f 1 deep [] [] (i + 1) t with
   | none => none
   | some (.bad a b) => some (.bad a b)
   | some (.ok (ps, i', r')) => if pre [34] r' then parts f w deep (flush w out text ++ (if ps.isEmpty then [⟨1, [], [], true, []⟩] else ps)) [] (i' + 1) (r'.drop 1) else some (.bad 19 i)
  else parts f w deep out (text ++ [c]) (i + 1) t) := by
 cases t with
 | nil => exact parts.eq_3 ..
 | cons x t => exact parts.eq_4 ..
/-! ### Tokens -/
def skip (i : Nat) : Bs → Nat × Bs
 | [] => (i, [])
 | c :: t => if c == 32 || c == 9 then skip (i + 1) t else if c == 92 then match t with
   | [] => (i, [c])
   | d :: t' => if d == 10 then skip (i + 2) t' else (i, c :: d :: t')
  else (i, c :: t)
def row (r : Bs) : Bs := r.takeWhile (· != 10)
def docRows (last : Bs) : Nat → Bs → Nat → Bs → Option (Rz (Bs × Nat × Bs))
 | 0, _, _, _ => none
 | f + 1, acc, i, r =>
  if r.isEmpty then some (.bad 19 i)
  else if row r == last then some (.ok (acc, i + min (last.length + 1) r.length, r.drop (last.length + 1)))
  else docRows last f (acc ++ r.take ((row r).length + 1)) (i + min ((row r).length + 1) r.length) (r.drop ((row r).length + 1))
def setTok (toks : List Tok) (k : Nat) (g : Tok → Tok) : List Tok := match toks[k]? with
 | none => toks
 | some t => toks.set k (g t)
def docs (f : Nat) : List (Nat × Bs) → List Tok → Nat → Bs → Option (Rz (List Tok × Nat × Bs))
 | [], toks, i, r => some (.ok (toks, i, r))
 | (k, last) :: ws, toks, i, r => match docRows last f [] i r with
  | none => none
  | some (.bad a b) => some (.bad a b)
  | some (.ok (text, i', r')) => match toks[k]? with
   | none => none
   | some t => if t.quoted then docs f ws (toks.set k { t with text := text }) i' r'
    else match parts f 2 0 [] [] i text with
     | none => none
     | some (.bad a b) => some (.bad a b)
     | some (.ok (ps, _, _)) => docs f ws (toks.set k { t with text := text, parts := ps }) i' r'
def announces (toks : List Tok) : Bool := match toks.getLast? with
 | none => false
 | some t => t.kind == 1 && (t.text.drop (t.text.length - 2) == [60, 60])
def wordEnd : List Part → Bs → Bool → Option (Bs × Bool)
 | [], e, q => some (e, q)
 | ⟨k, t, _, _, _⟩ :: ps, e, q => if k == 0 || k == 1 then wordEnd ps (e ++ t) (q || k == 1) else none
def digitOf (r : Bs) : Nat := match r with
 | c :: d :: _ => if decide (48 ≤ (c.toNat : Int)) && decide ((c.toNat : Int) ≤ 50) && (d == 60 || d == 62) then 1 else 0
 | _ => 0
def lexL : Nat → List Tok → List (Nat × Bs) → Nat → Bs → Option (Rz (List Tok))
 | 0, _, _, _, _ => none
 | f + 1, toks, waits, i0, r0 =>
  match skip i0 r0 with
  | (i, []) => if waits.isEmpty then some (.ok toks) else some (.bad 19 i)
  | (i, c :: t) =>
   if c == 10 then match docs f waits (toks ++ [⟨2, [], [], false, i⟩]) (i + 1) t with
    | none => none
    | some (.bad a b) => some (.bad a b)
    | some (.ok (toks', i', r')) => lexL f toks' [] i' r'
   else if c == 35 then lexL f toks waits (i + (row (c :: t)).length) ((c :: t).drop (row (c :: t)).length)
   else match marksL.find? (fun m => pre m ((c :: t).drop (digitOf (c :: t)))) with
    | some m => lexL f (toks ++ [⟨1, (c :: t).take (digitOf (c :: t) + m.length), [], false, i⟩]) waits (i + digitOf (c :: t) + m.length) ((c :: t).drop (digitOf (c :: t) + m.length))
    | none => if c == 38 then some (.bad 19 i)
     else match parts f 0 0 [] [] i (c :: t) with
      | none => none
      | some (.bad a b) => some (.bad a b)
      | some (.ok (ps, i', r')) =>
       if announces toks then match wordEnd ps [] false with
        | none => some (.bad 19 i)
        | some (e, q) => lexL f (toks ++ [⟨0, [], ps, false, i⟩, ⟨3, [], [], q, i⟩]) (waits ++ [(toks.length + 1, e)]) i' r'
       else lexL f (toks ++ [⟨0, [], ps, false, i⟩]) waits i' r'
def lex (f : Nat) (s : Bs) : Option (Rz (List Tok)) := if 4000 < s.length then some (.bad 3 4000) else lexL f [] [] 0 s
end Go.Proofs.YteekjekckgpbfaaDoor.Sp
end
section
namespace Go.Proofs.YteekjekckgpbfaaDoor.Abs
open Sp
attribute [local congr] bindO_congr bindR_congr condV_congr wp_congr
abbrev Pt (p : Nat) : Value := .pointer (some ⟨p, 0, none⟩)
abbrev lxB (l : Bs) (i : Nat) (tk wt : Value) : Blk := ⟨57, [.string (mkS l), .int .i64 (i : Int), tk, wt], true⟩
abbrev LX (h : Heap) (p : Nat) (l : Bs) (i : Nat) (tk wt : Value) : Prop := h.blk p = some (lxB l i tk wt)
theorem b2 (b : Bool) : b = true ∨ b = false := by cases b <;> simp
variable {h : Heap} {p i : Nat} {l : Bs} {tk wt : Value}
theorem more_eq (n : Nat) (hx : LX h p l i tk wt) : cF (n + 1) 24 [Pt p] h = some (.ret (.bool (decide (i < l.length))), h) := by
 rw [c24]
 simp -implicitDefEqProofs only [f24, hx, SS, SU, Nat.reduceAdd, Nat.reduceLeDiff, Nat.reduceBEq, Nat.reduceMul]
theorem letter_eq (n : Nat) (c : UInt8) : cF (n + 1) 100 [.int .u8 (c.toNat : Int)] h = some (.ret (.bool (isLetter c)), h) := by
 rw [c100]
 unfold isLetter
 rcases b2 (decide (97 ≤ (c.toNat : Int))) with h1 | h1 <;> rcases b2 (decide ((c.toNat : Int) ≤ 122)) with h2 | h2 <;>
 rcases b2 (decide (65 ≤ (c.toNat : Int))) with h3 | h3 <;> rcases b2 (decide ((c.toNat : Int) ≤ 90)) with h4 | h4 <;> simp -implicitDefEqProofs only [f100, h1, h2, h3, h4, SS, SU, Nat.reduceAdd, Nat.reduceLeDiff, Nat.reduceBEq, Nat.reduceMul]
theorem digit_eq (n : Nat) (c : UInt8) : cF (n + 1) 101 [.int .u8 (c.toNat : Int)] h = some (.ret (.bool (isDigit c)), h) := by
 rw [c101]
 unfold isDigit
 rcases b2 (decide (48 ≤ (c.toNat : Int))) with h1 | h1 <;> simp -implicitDefEqProofs only [f101, h1, SS, SU, Nat.reduceAdd, Nat.reduceLeDiff, Nat.reduceBEq, Nat.reduceMul]
theorem hasPrefix_eq (n : Nat) (r t : Bs) : cF (n + 2) 38 [.string (mkS r), .string (mkS t)] h = some (.ret (.bool (pre t r)), h) := by
 rw [c38]
 simp -implicitDefEqProofs only [f38, c60, f60, SS, SU, Nat.reduceAdd, Nat.reduceLeDiff, Nat.reduceBEq, Nat.reduceMul]
 rcases b2 (decide (t.length ≤ r.length)) with h1 | h1
 ·simp -implicitDefEqProofs only [h1, sl9_hi r t.length h (of_decide_eq_true h1), pre, SS, SU, Nat.reduceAdd, Nat.reduceLeDiff, Nat.reduceBEq, Nat.reduceMul]
 ·have : pre t r = false := by
   have h1 := of_decide_eq_false h1
   unfold pre
   rw [beq_eq_false_iff_ne]
   intro e
   have := congrArg List.length e
   simp at this
   omega
  simp -implicitDefEqProofs only [h1, this, SS, SU, Nat.reduceAdd, Nat.reduceLeDiff, Nat.reduceBEq, Nat.reduceMul]
theorem next_eq (n : Nat) (hx : LX h p l i tk wt) (t : Bs) (hi : i ≤ l.length) : cF (n + 3) 44 [Pt p, .string (mkS t)] h = some (.ret (.bool (pre t (l.drop i))), h) := by
 rw [c44]
 simp -implicitDefEqProofs only [f44, hx, sl9_lo l i h hi, hasPrefix_eq, SS, SU, Nat.reduceAdd, Nat.reduceLeDiff, Nat.reduceBEq, Nat.reduceMul]
theorem passed_no (n : Nat) (hx : LX h p l i tk wt) (t : Bs) (hi : i ≤ l.length) (hp : pre t (l.drop i) = false) : cF (n + 4) 23 [Pt p, .string (mkS t)] h = some (.ret (.bool false), h) := by
 rw [c23]
 simp -implicitDefEqProofs only [f23, next_eq n hx t hi, hp, SS, SU, Nat.reduceAdd, Nat.reduceLeDiff, Nat.reduceBEq, Nat.reduceMul]
theorem passed_yes (n : Nat) (hx : LX h p l i tk wt) (t : Bs) (hi : i ≤ l.length) (hb : i + t.length < 9223372036854775808) (hp : pre t (l.drop i) = true) : cF (n + 4) 23 [Pt p, .string (mkS t)] h = some (.ret (.bool true), h.set p (.cells (lxB l (i + t.length) tk wt))) := by
 rw [c23]
 simp -implicitDefEqProofs only [f23, next_eq n hx t hi, hp, hx, hb, SS, SU, Nat.reduceAdd, Nat.reduceLeDiff, Nat.reduceBEq, Nat.reduceMul]
end Go.Proofs.YteekjekckgpbfaaDoor.Abs
end
section
namespace Go.Proofs.YteekjekckgpbfaaDoor.Abs
open Sp
attribute [local congr] bindO_congr bindR_congr condV_congr wp_congr
variable {h : Heap} {p i : Nat} {l : Bs} {tk wt : Value}
def findI (c : UInt8) (r : Bs) : Int := match find c r with | none => -1 | some n => (n : Int)
theorem findB_find (c : UInt8) : ∀ (r : Bs) (i : Int), findB c r i = match find c r with | none => -1 | some n => i + (n : Int) := by
 intro r
 induction r with
 | nil => intro i; rfl
 | cons b r ih =>
  intro i
  simp only [findB, find]
  cases hb : b == c with
  | true => simp
  | false =>
   simp only [cond_false, ih, Bool.false_eq_true, if_false]
   cases find c r with
   | none => rfl
   | some n => simp only; omega
theorem indexByte_eq (n : Nat) (r : Bs) (c : UInt8) : cF (n + 2) 73 [.string (mkS r), .int .u8 (c.toNat : Int)] h = some (.ret (.int .i64 (findI c r)), h) := by
 have e : callA E (cF n) (.func (.func 97) ⟨[]⟩ ⟨[]⟩) [.string (mkS r), .int .u8 (c.toNat : Int)] h = some (.ret (.int .i64 (findB (UInt8.ofNat (c.toNat : Int).toNat) r 0)), h) := by kernel_rfl
 rw [c73]
 simp -implicitDefEqProofs only [f73, c87, f87, e, u8_of, findB_find, SS, SU, Nat.reduceAdd, Nat.reduceLeDiff, Nat.reduceBEq, Nat.reduceMul]
 unfold findI
 cases find c r with
 | none => rfl
 | some n => simp
theorem ib39 (n : Nat) (r : Bs) : cF (n + 2) 73 [.string (mkS r), .int .u8 39] h = some (.ret (.int .i64 (findI 39 r)), h) := indexByte_eq n r 39
theorem find_some {c : UInt8} : ∀ {r : Bs} {n : Nat}, find c r = some n → n < r.length := by
 intro r
 induction r with
 | nil => intro n h; cases h
 | cons b r ih =>
  intro n h
  simp only [find] at h
  cases hb : b == c with
  | true => simp [hb] at h; subst h; simp
  | false =>
   simp only [hb, Bool.false_eq_true, if_false] at h
   cases hf : find c r with
   | none => simp [hf] at h
   | some m => simp [hf] at h; have := ih hf; simp; omega
theorem find_has (c : UInt8) (r : Bs) : decide (0 ≤ findI c r) = r.contains c := by
 induction r with
 | nil => rfl
 | cons b r ih =>
  have hc : findI c (b :: r) = if b == c then 0 else if findI c r < 0 then -1 else findI c r + 1 := by
   unfold findI
   simp only [find]
   cases hb : b == c with
   | true => rfl
   | false =>
    cases find c r with
    | none => rfl
    | some n => simp; omega
  rw [hc, List.contains_cons]
  by_cases hb : b = c
  ·subst hb; simp
  ·have h1 : (b == c) = false := by simpa using hb
   have h2 : (c == b) = false := by simpa using fun e => hb e.symm
   simp only [h1, h2, Bool.false_eq_true, if_false, Bool.false_or, ← ih]
   by_cases h0 : findI c r < 0
   ·simp [h0]
   ·simp [h0]; omega
theorem find_lt0 (c : UInt8) (r : Bs) : decide (findI c r < 0) = !r.contains c := by
 rw [← find_has, Bool.eq_iff_iff]; simp
theorem quoted_eq (n w : Nat) : cF (n + 1) 68 [.int .i64 (w : Int)] h = some (.ret (.bool (inQ w)), h) := by
 rw [c68]
 have h3 : ((w : Int) != 3) = (w != 3) := n_ne w 3
 rcases b2 (w != 0) with h1 | h1 <;> simp -implicitDefEqProofs only [f68, h1, h3, inQ, SS, SU, Nat.reduceAdd, Nat.reduceLeDiff, Nat.reduceBEq, Nat.reduceMul]
theorem ends_eq (n w : Nat) (c : UInt8) : cF (n + 3) 71 [.int .i64 (w : Int), .int .u8 (c.toNat : Int)] h = some (.ret (.bool (ends w c)), h) := by
 rw [c71]
 have h0 : ((w : Int) == 0) = (w == 0) := n_eq w 0
 have h1 : ((w : Int) == 1) = (w == 1) := n_eq w 1
 have h2 : ((w : Int) == 2) = (w == 2) := n_eq w 2
 have e1 : ((c.toNat : Int) == 34) = (c == 34) := u8_eqn c 34 (by decide)
 have e2 : ((c.toNat : Int) == 125) = (c == 125) := u8_eqn c 125 (by decide)
 unfold ends
 rcases b2 (w == 0) with g0 | g0
 ·simp -implicitDefEqProofs only [f71, h0, g0, indexByte_eq, find_has, SS, SU, Nat.reduceAdd, Nat.reduceLeDiff, Nat.reduceBEq, Nat.reduceMul]; rfl
 ·rcases b2 (w == 1) with g1 | g1
  ·simp -implicitDefEqProofs only [f71, h0, g0, h1, g1, e1, SS, SU, Nat.reduceAdd, Nat.reduceLeDiff, Nat.reduceBEq, Nat.reduceMul]; rfl
  ·rcases b2 (w == 2) with g2 | g2
   ·simp -implicitDefEqProofs only [f71, h0, g0, h1, g1, h2, g2, SS, SU, Nat.reduceAdd, Nat.reduceLeDiff, Nat.reduceBEq, Nat.reduceMul]; rfl
   ·simp -implicitDefEqProofs only [f71, h0, g0, h1, g1, h2, g2, e2, SS, SU, Nat.reduceAdd, Nat.reduceLeDiff, Nat.reduceBEq, Nat.reduceMul]; rfl
/-! ### A parameter's name -/
theorem nameFrom_le : ∀ (r : Bs) (n : Nat), n ≤ nameFrom n r ∧ nameFrom n r ≤ n + r.length := by
 intro r
 induction r with
 | nil => intro n; simp [nameFrom]
 | cons c r ih =>
  intro n
  simp only [nameFrom]
  split
  ·have := ih (n + 1); simp; omega
  ·simp
theorem paramLen_le (m r : Bs) : paramLen m r ≤ r.length := by
 unfold paramLen
 have := nameFrom_le r 0
 split
 ·cases r with
  | nil => simp
  | cons c t => simp only []; split <;> simp
 ·omega
theorem put_lx (h : Heap) (p : Nat) (b c : AObj) : (h.set p b).set p c = h.set p c := by
 have key : ∀ (f : Nat) (t : Tr AObj) (k : Nat) (x y : Option AObj), Tr.putAux f (Tr.putAux f t k x) k y = Tr.putAux f t k y := by
  intro f
  induction f with
  | zero => intro t k x y; rfl
  | succ f ih =>
   intro t k x y
   cases t with
   | nil =>
    simp only [Tr.putAux]
    cases h0 : k == 0 with
    | true => simp [Tr.putAux, h0]
    | false => cases h2 : k % 2 == 1 <;> simp [Tr.putAux, h0, h2, ih]
   | node l v r =>
    simp only [Tr.putAux]
    cases h0 : k == 0 with
    | true => simp [Tr.putAux, h0]
    | false => cases h2 : k % 2 == 1 <;> simp [Tr.putAux, h0, h2, ih]
 show (⟨Tr.put (Tr.put h.m p (some b)) p (some c), h.next⟩ : Heap) = ⟨Tr.put h.m p (some c), h.next⟩
 rw [show Tr.put (Tr.put h.m p (some b)) p (some c) = Tr.put h.m p (some c) from key _ _ _ _ _]
abbrev mv (h : Heap) (p : Nat) (l : Bs) (i : Nat) (tk wt : Value) : Heap := h.set p (.cells (lxB l i tk wt))
theorem mv_lx (hp : p < h.next) (j : Nat) (tk wt : Value) : LX (mv h p l j tk wt) p l j tk wt := blk_set_eq hp
theorem drop_get (r : Bs) (k : Nat) (hk : k < r.length) : r[k]? = some r[k] := by simp [hk]
theorem param_loop (N : Nat) (r marks : Bs) (hr : r.length < 9223372036854775808) (n : Nat) :
  ∀ (m k : Nat), k ≤ r.length → r.length < k + m → l90_11 (cF (n + 5)) N m (Pt p) (.string (mkS marks)) (.string (mkS r)) (.int .i64 (k : Int)) h =
   p90_4 (cF (n + 5)) N (Pt p) (.string (mkS marks)) (.string (mkS r)) (.int .i64 (nameFrom k (r.drop k) : Int)) h := by
 intro m
 induction m with
 | zero => intro k hk hm; omega
 | succ m ih =>
  intro k hk hm
  rcases b2 (decide (k < r.length)) with h1 | h1
  ·have hlt := of_decide_eq_true h1
   have hg := drop_get r k hlt
   have hd : r.drop k = r[k] :: r.drop (k + 1) := List.drop_eq_getElem_cons hlt
   rw [hd]
   simp -implicitDefEqProofs only [l90_11, p90_12, h1, ix9 r k _ hg, letter_eq, SS, SU, Nat.reduceAdd, Nat.reduceLeDiff, Nat.reduceBEq, Nat.reduceMul]
   rcases b2 (isLetter r[k]) with h2 | h2
   ·simp -implicitDefEqProofs only [h2, p90_15, nameFrom, wrap_nat (k + 1) (by omega), SS, SU, Nat.reduceAdd, Nat.reduceLeDiff, Nat.reduceBEq, Nat.reduceMul]
    exact ih (k + 1) (by omega) (by omega)
   ·rcases b2 (decide (0 < k)) with h3 | h3
    ·simp -implicitDefEqProofs only [h2, h3, p90_15, nameFrom, ix9 r k _ hg, digit_eq, SS, SU, Nat.reduceAdd, Nat.reduceLeDiff, Nat.reduceBEq, Nat.reduceMul]
     rcases b2 (isDigit r[k]) with h4 | h4
     ·simp -implicitDefEqProofs only [h4, wrap_nat (k + 1) (by omega), SS, SU, Nat.reduceAdd, Nat.reduceLeDiff, Nat.reduceBEq, Nat.reduceMul]
      exact ih (k + 1) (by omega) (by omega)
     ·simp -implicitDefEqProofs only [h4, Bool.false_eq_true, if_false, SS, SU, Nat.reduceAdd, Nat.reduceLeDiff, Nat.reduceBEq, Nat.reduceMul]
    ·simp -implicitDefEqProofs only [h2, h3, p90_15, nameFrom, Bool.false_eq_true, if_false, SS, SU, Nat.reduceAdd, Nat.reduceLeDiff, Nat.reduceBEq, Nat.reduceMul]
  ·have : r.drop k = [] := List.drop_of_length_le (by have := of_decide_eq_false h1; omega)
   rw [this]
   simp -implicitDefEqProofs only [l90_11, p90_12, h1, p90_15, nameFrom, SS, SU, Nat.reduceAdd, Nat.reduceLeDiff, Nat.reduceBEq, Nat.reduceMul]
theorem param_end (n N : Nat) (marks : Bs) (hx : LX h p l i tk wt) (hi : i ≤ l.length) (hl : l.length < 9223372036854775808) (k : Nat) (hk : k ≤ (l.drop i).length) :
  p90_5 (cF n) N (Pt p) (.string (mkS (l.drop i))) (.int .i64 (k : Int)) h = some (.ret (.string (mkS ((l.drop i).take k))), mv h p l (i + k) tk wt) := by
 have hk' := hk
 simp at hk'
 simp -implicitDefEqProofs only [p90_5, hx, sl9_hi (l.drop i) k _ hk, wrap_nat (i + k) (by omega), SS, SU, Nat.reduceAdd, Nat.reduceLeDiff, Nat.reduceBEq, Nat.reduceMul]
theorem param_eq (n : Nat) (marks : Bs) (hx : LX h p l i tk wt) (hi : i ≤ l.length) (hl : l.length < 9223372036854775808) (hn : l.length < n) :
  cF (n + 6) 90 [Pt p, .string (mkS marks)] h = some (.ret (.string (mkS ((l.drop i).take (paramLen marks (l.drop i))))), mv h p l (i + paramLen marks (l.drop i)) tk wt) := by
 have hr : (l.drop i).length = l.length - i := by simp
 have hle := paramLen_le marks (l.drop i)
 have hnl := nameFrom_le (l.drop i) 0
 rw [c90]
 have e0 : (.int .i64 0 : Value) = .int .i64 ((0 : Nat) : Int) := rfl
 have e1 : (.int .i64 1 : Value) = .int .i64 ((1 : Nat) : Int) := rfl
 simp -implicitDefEqProofs only [f90, p90_0, hx, sl9_lo l i h hi, SS, SU, Nat.reduceAdd, Nat.reduceLeDiff, Nat.reduceBEq, Nat.reduceMul]
 rw [e0, param_loop (n + 5) (l.drop i) marks (by omega) n (n + 5) 0 (by omega) (by omega), List.drop_zero]
 rcases b2 (nameFrom 0 (l.drop i) == 0) with h1 | h1
 ·cases hd : l.drop i with
  | nil =>
   have hw : (([] : Bs) == []) = true := rfl
   have hz : paramLen marks (l.drop i) = 0 := by rw [hd]; rfl
   rw [hd] at h1
   simp -implicitDefEqProofs only [p90_4, h1, hw, p90_9, SS, SU, Nat.reduceAdd, Nat.reduceLeDiff, Nat.reduceBEq, Nat.reduceMul]
   have := param_end (n + 5) (n + 5) marks hx hi hl 0 (by omega)
   rw [hd] at this
   rw [show paramLen marks [] = 0 from rfl, ← this]
   have hn0 : nameFrom 0 ([] : Bs) = 0 := rfl
   rw [hn0]
  | cons c t =>
   have hw : ((c :: t : Bs) == []) = false := rfl
   have hg : indexA E 9 (.string (mkS (c :: t))) (.int .i64 0) = some (.int .u8 (c.toNat : Int)) := ix9 (c :: t) 0 c rfl
   have hn0 : nameFrom 0 (c :: t) = 0 := by rw [hd] at h1; simpa using h1
   rw [hd] at h1 hle
   rcases b2 (isDigit c) with h2 | h2
   ·have hz : paramLen marks (c :: t) = 1 := by simp [paramLen, hn0, h2]
    rw [hz]
    have := param_end (n + 5) (n + 5) marks hx hi hl 1 (by rw [hd]; simp)
    rw [hd] at this
    rw [← this]
    simp -implicitDefEqProofs only [p90_4, h1, hw, p90_9, hg, digit_eq, h2, SS, SU, Nat.reduceAdd, Nat.reduceLeDiff, Nat.reduceBEq, Nat.reduceMul]
    rfl
   ·rcases b2 (marks.contains c) with h3 | h3
    ·have hz : paramLen marks (c :: t) = 1 := by simp only [paramLen, hn0, h2, h3]; rfl
     rw [hz]
     have := param_end (n + 5) (n + 5) marks hx hi hl 1 (by rw [hd]; simp)
     rw [hd] at this
     rw [← this]
     simp -implicitDefEqProofs only [p90_4, h1, hw, p90_9, hg, digit_eq, h2, indexByte_eq, find_has, h3, SS, SU, Nat.reduceAdd, Nat.reduceLeDiff, Nat.reduceBEq, Nat.reduceMul]
     rfl
    ·have hz : paramLen marks (c :: t) = 0 := by simp only [paramLen, hn0, h2, h3]; rfl
     rw [hz]
     have := param_end (n + 5) (n + 5) marks hx hi hl 0 (by omega)
     rw [hd] at this
     rw [← this, hn0]
     simp -implicitDefEqProofs only [p90_4, h1, hw, p90_9, hg, digit_eq, h2, indexByte_eq, find_has, h3, SS, SU, Nat.reduceAdd, Nat.reduceLeDiff, Nat.reduceBEq, Nat.reduceMul]
 ·have hz : paramLen marks (l.drop i) = nameFrom 0 (l.drop i) := by unfold paramLen; rw [h1]; rfl
  rw [hz]
  simp -implicitDefEqProofs only [p90_4, h1, p90_9, param_end (n + 5) (n + 5) marks hx hi hl (nameFrom 0 (l.drop i)) (by omega), SS, SU, Nat.reduceAdd, Nat.reduceLeDiff, Nat.reduceBEq, Nat.reduceMul]
end Go.Proofs.YteekjekckgpbfaaDoor.Abs
end
section
namespace Go.Proofs.YteekjekckgpbfaaDoor.Abs
open Sp
attribute [local congr] bindO_congr bindR_congr condV_congr wp_congr
def Kp (p : Nat) (h h' : Heap) : Prop := h.next ≤ h'.next ∧ ∀ b, b < h.next → b ≠ p → h'.blk b = h.blk b
theorem Kp.refl (p : Nat) (h : Heap) : Kp p h h := ⟨Nat.le_refl _, fun _ _ _ => rfl⟩
theorem Kp.trans {p : Nat} {a b c : Heap} (h : Kp p a b) (k : Kp p b c) : Kp p a c :=
 ⟨Nat.le_trans h.1 k.1, fun x hx hn => (k.2 x (Nat.lt_of_lt_of_le hx h.1) hn).trans (h.2 x hx hn)⟩
theorem Kp.set (p : Nat) (h : Heap) (o : AObj) : Kp p h (h.set p o) := ⟨Nat.le_refl _, fun b _ hn => blk_set_ne hn⟩
theorem Kp.alloc (p : Nat) (h : Heap) (o : AObj) : Kp p h (h.alloc o) := ⟨Nat.le_succ _, fun b hb _ => blk_alloc_lt hb⟩
def Bad (p : Nat) (h : Heap) (c a : Nat) (r : Res) (h' : Heap) : Prop :=
 Kp p h h' ∧ ∃ b, r = .panic (.iface 51 (Pt b)) ∧ h.next ≤ b ∧ h'.blk b = some ⟨52, [.int .i64 (c : Int), .int .i64 (a : Int)], true⟩
theorem Bad.of {p : Nat} {h h1 h' : Heap} {c a : Nat} {r : Res} (k : Kp p h h1) (b : Bad p h1 c a r h') : Bad p h c a r h' := by
 obtain ⟨k', x, e, hx, hb⟩ := b
 exact ⟨k.trans k', x, e, Nat.le_trans k.1 hx, hb⟩
variable {h : Heap} {p i : Nat} {l : Bs} {tk wt : Value}
theorem fail_eq (n c a : Nat) : cF (n + 1) 25 [.int .i64 (c : Int), .int .i64 (a : Int)] h = some (.panic (.iface 51 (Pt h.next)), h.alloc (.cells ⟨52, [.int .i64 (c : Int), .int .i64 (a : Int)], true⟩)) := by
 rw [c25]
 simp -implicitDefEqProofs only [f25, boxA, ptr, panicA, SS, SU, Nat.reduceAdd, Nat.reduceLeDiff, Nat.reduceBEq, Nat.reduceMul]
theorem fail_19 (n a : Nat) : cF (n + 1) 25 [.int .i64 19, .int .i64 (a : Int)] h = some (.panic (.iface 51 (Pt h.next)), h.alloc (.cells ⟨52, [.int .i64 ((19 : Nat) : Int), .int .i64 (a : Int)], true⟩)) := fail_eq n 19 a
theorem fail_bad (n c a : Nat) : Bad p h c a (.panic (.iface 51 (Pt h.next))) (h.alloc (.cells ⟨52, [.int .i64 (c : Int), .int .i64 (a : Int)], true⟩)) :=
 ⟨Kp.alloc _ _ _, _, rfl, Nat.le_refl _, blk_alloc_eq⟩
def closeQ (h : Heap) (p : Nat) (l : Bs) (i : Nat) (tk wt : Value) (fr : Nat) (res : Option Bs) (r : Res) (h' : Heap) : Prop :=
 match res with
 | some rest => r = .ret (.tuple ⟨[]⟩) ∧ ∃ j, h' = mv h p l j tk wt ∧ j ≤ l.length ∧ i < j ∧ rest = l.drop j
 | none => Bad p h 19 fr r h'
theorem closeQ.of {j fr : Nat} {res : Option Bs} {r : Res} {h' : Heap} (hp : p < h.next) (hij : i ≤ j) (k : closeQ (mv h p l j tk wt) p l j tk wt fr res r h') : closeQ h p l i tk wt fr res r h' := by
 cases res with
 | none => exact Bad.of (Kp.set _ _ _) k
 | some rest =>
  obtain ⟨e, j', e', hj, hlt, hd⟩ := k
  exact ⟨e, j', by rw [e', mv, mv, put_lx], hj, by omega, hd⟩
theorem closed_both (l : Bs) (hl : l.length < 4611686018427387904) (p fr : Nat) (tk wt : Value) : ∀ (f : Nat),
  (∀ (d i : Nat) (res : Option Bs) (n N m : Nat) (h : Heap), closed f d (l.drop i) = some res → i ≤ l.length + 1 → LX h p l i tk wt → f ≤ m → 3 * f + 10 ≤ n → 1 ≤ d → d + f < 4611686018427387904 →
   wp (l88_4 (cF n) N m (Pt p) (.int .i64 (fr : Int)) (.int .i64 (d : Int)) h) (closeQ h p l i tk wt fr res)) ∧
  (∀ (i : Nat) (res : Option Bs) (n N m : Nat) (h : Heap), closedQ f (l.drop i) = some res → i ≤ l.length + 1 → LX h p l i tk wt → f ≤ m → 3 * f + 10 ≤ n → f < 4611686018427387904 →
   wp (l98_3 (cF n) N m (Pt p) (.int .i64 (fr : Int)) h) (closeQ h p l i tk wt fr res)) := by
 intro f
 induction f with
 | zero => exact ⟨fun d i res n N m h hs => by simp [closed] at hs, fun i res n N m h hs => by simp [closedQ] at hs⟩
 | succ f ih =>
  constructor
  ·intro d i res n N m h hs hi hx hm hn hd hdf
   obtain ⟨m, rfl⟩ : ∃ m', m = m' + 1 := ⟨m - 1, by omega⟩
   obtain ⟨n, rfl⟩ : ∃ n', n = n' + 4 := ⟨n - 4, by omega⟩
   have hp : p < h.next := blk_lt' hx
   rcases b2 (decide (i < l.length)) with h1 | h1
   ·have hlt := of_decide_eq_true h1
    have hg := drop_get l i hlt
    rw [List.drop_eq_getElem_cons hlt] at hs
    generalize l[i] = c at hs hg
    have e92 : ((c.toNat : Int) == 92) = (c == 92) := u8_eqn c 92 (by decide)
    have e39 : ((c.toNat : Int) == 39) = (c == 39) := u8_eqn c 39 (by decide)
    have e34 : ((c.toNat : Int) == 34) = (c == 34) := u8_eqn c 34 (by decide)
    have e40 : ((c.toNat : Int) == 40) = (c == 40) := u8_eqn c 40 (by decide)
    have e41 : ((c.toNat : Int) == 41) = (c == 41) := u8_eqn c 41 (by decide)
    have hx1 := mv_lx (l := l) hp (i + 1) tk wt
    simp only [closed] at hs
    simp -implicitDefEqProofs only [l88_4, p88_5, more_eq (n + 3) hx, h1, hx, ix9 l i c hg, wrap_nat (i + 1) (by omega), e92, SS, SU, Nat.reduceAdd, Nat.reduceLeDiff, Nat.reduceBEq, Nat.reduceMul]
    rcases b2 (c == 92) with k1 | k1
    ·simp only [k1, if_true, List.drop_drop] at hs
     simp -implicitDefEqProofs only [k1, hx1, wrap_nat (i + 1 + 1) (by omega), put_lx, SS, SU, Nat.reduceAdd, Nat.reduceLeDiff, Nat.reduceBEq, Nat.reduceMul]
     exact wp_mono (ih.1 d (i + 1 + 1) res (n + 4) N m _ hs (by omega) (mv_lx hp _ _ _) (by omega) (by omega) hd (by omega)) fun r h' q => closeQ.of hp (by omega) q
    ·simp only [k1, Bool.false_eq_true, if_false] at hs
     simp -implicitDefEqProofs only [k1, e39, SS, SU, Nat.reduceAdd, Nat.reduceLeDiff, Nat.reduceBEq, Nat.reduceMul]
     rcases b2 (c == 39) with k2 | k2
     ·simp only [k2, if_true] at hs
      simp -implicitDefEqProofs only [k2, hx1, sl9_lo l (i + 1) _ (show i + 1 ≤ l.length by omega), ib39 (n + 2), p88_18, SS, SU, Nat.reduceAdd, Nat.reduceLeDiff, Nat.reduceBEq, Nat.reduceMul]
      cases hf : find 39 (l.drop (i + 1)) with
      | none =>
       simp only [hf] at hs
       injection hs with hs
       subst hs
       have hneg : findI 39 (l.drop (i + 1)) = -1 := by simp [findI, hf]
       have hb : decide ((-1 : Int) < 0) = true := rfl
       simp -implicitDefEqProofs only [hneg, hb, fail_19, SS, SU, Nat.reduceAdd, Nat.reduceLeDiff, Nat.reduceBEq, Nat.reduceMul]
       exact wp_some.2 (Bad.of (Kp.set _ _ _) (fail_bad 0 19 fr))
      | some k =>
       simp only [hf, List.drop_drop] at hs
       have hk := find_some hf
       simp only [List.length_drop] at hk
       have hpos : findI 39 (l.drop (i + 1)) = (k : Int) := by simp [findI, hf]
       simp -implicitDefEqProofs only [hpos, p88_19, hx1, wrap_nat (k + 1) (by omega), wrap_nat (i + 1 + (k + 1)) (by omega), put_lx, SS, SU, Nat.reduceAdd, Nat.reduceLeDiff, Nat.reduceBEq, Nat.reduceMul]
       exact wp_mono (ih.1 d (i + 1 + (k + 1)) res (n + 4) N m _ hs (by omega) (mv_lx hp _ _ _) (by omega) (by omega) hd (by omega)) fun r h' q => closeQ.of hp (by omega) q
     ·simp only [k2, Bool.false_eq_true, if_false] at hs
      simp -implicitDefEqProofs only [k2, e34, p88_23, SS, SU, Nat.reduceAdd, Nat.reduceLeDiff, Nat.reduceBEq, Nat.reduceMul]
      rcases b2 (c == 34) with k3 | k3
      ·simp only [k3, if_true] at hs
       simp -implicitDefEqProofs only [k3, SS, SU, Nat.reduceAdd, Nat.reduceLeDiff, Nat.reduceBEq, Nat.reduceMul]
       cases hq : closedQ f (l.drop (i + 1)) with
       | none => simp [hq] at hs
       | some res1 =>
        simp only [hq] at hs
        have hcall := ih.2 (i + 1) res1 (n + 3) (n + 3) (n + 3) _ hq (by omega) hx1 (by omega) (by omega) (by omega)
        have heq : cF (n + 4) 98 [Pt p, .int .i64 (fr : Int)] (mv h p l (i + 1) tk wt) = l98_3 (cF (n + 3)) (n + 3) (n + 3) (Pt p) (.int .i64 (fr : Int)) (mv h p l (i + 1) tk wt) := by
         rw [c98]; rfl
        refine wp_bindR (wp_eq heq hcall) ?_ ?_
        ·intro v h' q
         cases res1 with
         | none => obtain ⟨_, b, e, _⟩ := q; cases e
         | some t' =>
          obtain ⟨e, j, rfl, hj, hij, rfl⟩ := q
          simp only at hs
          rw [mv, mv, put_lx]
          exact wp_mono (ih.1 d j res (n + 4) N m _ hs (by omega) (mv_lx hp _ _ _) (by omega) (by omega) hd (by omega)) fun r h' q => closeQ.of hp (by omega) q
        ·intro v h' q
         cases res1 with
         | none =>
          injection hs with hs
          subst hs
          exact wp_some.2 (Bad.of (Kp.set _ _ _) q)
         | some t' => obtain ⟨e, _⟩ := q; cases e
      ·simp only [k3, Bool.false_eq_true, if_false] at hs
       simp -implicitDefEqProofs only [k3, e40, SS, SU, Nat.reduceAdd, Nat.reduceLeDiff, Nat.reduceBEq, Nat.reduceMul]
       rcases b2 (c == 40) with k4 | k4
       ·simp only [k4, if_true] at hs
        simp -implicitDefEqProofs only [k4, wrap_nat (d + 1) (by omega), SS, SU, Nat.reduceAdd, Nat.reduceLeDiff, Nat.reduceBEq, Nat.reduceMul]
        exact wp_mono (ih.1 (d + 1) (i + 1) res (n + 4) N m _ hs (by omega) (mv_lx hp _ _ _) (by omega) (by omega) (by omega) (by omega)) fun r h' q => closeQ.of hp (by omega) q
       ·simp only [k4, Bool.false_eq_true, if_false] at hs
        simp -implicitDefEqProofs only [k4, e41, SS, SU, Nat.reduceAdd, Nat.reduceLeDiff, Nat.reduceBEq, Nat.reduceMul]
        rcases b2 (c == 41) with k5 | k5
        ·simp only [k5, if_true] at hs
         simp -implicitDefEqProofs only [k5, pull_sub1 d hd, wrap_nat (d - 1) (by omega), SS, SU, Nat.reduceAdd, Nat.reduceLeDiff, Nat.reduceBEq, Nat.reduceMul]
         rcases b2 (d == 1) with k6 | k6
         ·simp only [k6, if_true] at hs
          have k7 : (d - 1 == 0) = true := by simp at k6 ⊢; omega
          injection hs with hs
          subst hs
          simp -implicitDefEqProofs only [k7, SS, SU, Nat.reduceAdd, Nat.reduceLeDiff, Nat.reduceBEq, Nat.reduceMul]
          exact wp_some.2 ⟨rfl, i + 1, rfl, by omega, by omega, rfl⟩
         ·simp only [k6, Bool.false_eq_true, if_false] at hs
          have k7 : (d - 1 == 0) = false := by simp at k6 ⊢; omega
          simp -implicitDefEqProofs only [k7, SS, SU, Nat.reduceAdd, Nat.reduceLeDiff, Nat.reduceBEq, Nat.reduceMul]
          simp at k7
          exact wp_mono (ih.1 (d - 1) (i + 1) res (n + 4) N m _ hs (by omega) (mv_lx hp _ _ _) (by omega) (by omega) (by omega) (by omega)) fun r h' q => closeQ.of hp (by omega) q
        ·simp only [k5, Bool.false_eq_true, if_false] at hs
         simp -implicitDefEqProofs only [k5, SS, SU, Nat.reduceAdd, Nat.reduceLeDiff, Nat.reduceBEq, Nat.reduceMul]
         exact wp_mono (ih.1 d (i + 1) res (n + 4) N m _ hs (by omega) (mv_lx hp _ _ _) (by omega) (by omega) hd (by omega)) fun r h' q => closeQ.of hp (by omega) q
   ·have hge := of_decide_eq_false h1
    have hd0 : l.drop i = [] := List.drop_of_length_le (by omega)
    rw [hd0] at hs
    simp only [closed] at hs
    injection hs with hs
    subst hs
    simp -implicitDefEqProofs only [l88_4, p88_5, more_eq (n + 3) hx, h1, p88_1, fail_19, SS, SU, Nat.reduceAdd, Nat.reduceLeDiff, Nat.reduceBEq, Nat.reduceMul]
    exact wp_some.2 (fail_bad 0 19 fr)
  ·intro i res n N m h hs hi hx hm hn hf
   obtain ⟨m, rfl⟩ : ∃ m', m = m' + 1 := ⟨m - 1, by omega⟩
   obtain ⟨n, rfl⟩ : ∃ n', n = n' + 4 := ⟨n - 4, by omega⟩
   have hp : p < h.next := blk_lt' hx
   rcases b2 (decide (i < l.length)) with h1 | h1
   ·have hlt := of_decide_eq_true h1
    have hdr := List.drop_eq_getElem_cons hlt
    rw [hdr] at hs
    generalize l[i] = c at hs hdr
    have p92 : pre [92] (l.drop i) = (c == 92) := by rw [hdr]; simp [pre]
    have p34 : pre [34] (l.drop i) = (c == 34) := by rw [hdr]; simp [pre]
    simp only [closedQ] at hs
    simp -implicitDefEqProofs only [l98_3, p98_4, more_eq (n + 3) hx, h1, SS, SU, Nat.reduceAdd, Nat.reduceLeDiff, Nat.reduceBEq, Nat.reduceMul]
    rcases b2 (c == 92) with k1 | k1
    ·have hx1 := mv_lx (l := l) hp (i + 1) tk wt
     simp only [k1, if_true, List.drop_drop] at hs
     rw [k1] at p92
     simp only [passed_yes n hx [92] (by omega) (by simp; omega) p92, len1, hx1, wrap_nat (i + 1 + 1) (by omega), put_lx, List.length_cons, List.length_nil, SS, SU, Nat.reduceAdd, Nat.reduceLeDiff, Nat.reduceBEq, Nat.reduceMul]
     exact wp_mono (ih.2 (i + 1 + 1) res (n + 4) N m _ hs (by omega) (mv_lx hp _ _ _) (by omega) (by omega) (by omega)) fun r h' q => closeQ.of hp (by omega) q
    ·simp only [k1, Bool.false_eq_true, if_false] at hs
     rw [k1] at p92
     simp only [passed_no n hx [92] (by omega) p92, SS, SU, Nat.reduceAdd, Nat.reduceLeDiff, Nat.reduceBEq, Nat.reduceMul]
     rcases b2 (c == 34) with k2 | k2
     ·simp only [k2, if_true] at hs
      rw [k2] at p34
      injection hs with hs
      subst hs
      simp only [passed_yes n hx [34] (by omega) (by simp; omega) p34, List.length_cons, List.length_nil, SS, SU, Nat.reduceAdd, Nat.reduceLeDiff, Nat.reduceBEq, Nat.reduceMul]
      exact wp_some.2 ⟨rfl, i + 1, rfl, by omega, by omega, rfl⟩
     ·simp only [k2, Bool.false_eq_true, if_false] at hs
      rw [k2] at p34
      simp only [passed_no n hx [34] (by omega) p34, SS, SU, Nat.reduceAdd, Nat.reduceLeDiff, Nat.reduceBEq, Nat.reduceMul]
      rcases b2 (pre [36, 40] (c :: l.drop (i + 1))) with k3 | k3
      ·simp only [k3, if_true, List.drop_drop] at hs
       rw [← hdr] at k3
       have hx1 := mv_lx (l := l) hp (i + 2) tk wt
       have hi2 : i + 2 ≤ l.length := by
        have := congrArg List.length (beq_iff_eq.1 k3)
        simp at this
        omega
       simp only [passed_yes n hx [36, 40] (by omega) (by simp; omega) k3, List.length_cons, List.length_nil, SS, SU, Nat.reduceAdd, Nat.reduceLeDiff, Nat.reduceBEq, Nat.reduceMul]
       cases hq : closed f 1 (l.drop (i + 1 + 1)) with
       | none => simp [hq] at hs
       | some res1 =>
        simp only [hq] at hs
        have hcall := ih.1 1 (i + 2) res1 (n + 3) (n + 3) (n + 3) _ hq (by omega) hx1 (by omega) (by omega) (by omega) (by omega)
        have heq : cF (n + 4) 88 [Pt p, .int .i64 (fr : Int)] (mv h p l (i + 2) tk wt) = l88_4 (cF (n + 3)) (n + 3) (n + 3) (Pt p) (.int .i64 (fr : Int)) (.int .i64 ((1 : Nat) : Int)) (mv h p l (i + 2) tk wt) := by
         rw [c88]; rfl
        refine wp_bindR (wp_eq heq hcall) ?_ ?_
        ·intro v h' q
         cases res1 with
         | none => obtain ⟨_, b, e, _⟩ := q; cases e
         | some t' =>
          obtain ⟨e, j, rfl, hj, hij, rfl⟩ := q
          simp only at hs
          rw [mv, mv, put_lx]
          exact wp_mono (ih.2 j res (n + 4) N m _ hs (by omega) (mv_lx hp _ _ _) (by omega) (by omega) (by omega)) fun r h' q => closeQ.of hp (by omega) q
        ·intro v h' q
         cases res1 with
         | none =>
          injection hs with hs
          subst hs
          exact wp_some.2 (Bad.of (Kp.set _ _ _) q)
         | some t' => obtain ⟨e, _⟩ := q; cases e
      ·simp only [k3, Bool.false_eq_true, if_false] at hs
       rw [← hdr] at k3
       simp only [passed_no n hx [36, 40] (by omega) k3, hx, wrap_nat (i + 1) (by omega), SS, SU, Nat.reduceAdd, Nat.reduceLeDiff, Nat.reduceBEq, Nat.reduceMul]
       exact wp_mono (ih.2 (i + 1) res (n + 4) N m _ hs (by omega) (mv_lx hp _ _ _) (by omega) (by omega) (by omega)) fun r h' q => closeQ.of hp (by omega) q
   ·have hge := of_decide_eq_false h1
    have hd0 : l.drop i = [] := List.drop_of_length_le (by omega)
    rw [hd0] at hs
    simp only [closedQ] at hs
    injection hs with hs
    subst hs
    simp -implicitDefEqProofs only [l98_3, p98_4, more_eq (n + 3) hx, h1, p98_1, fail_19, SS, SU, Nat.reduceAdd, Nat.reduceLeDiff, Nat.reduceBEq, Nat.reduceMul]
    exact wp_some.2 (fail_bad 0 19 fr)
end Go.Proofs.YteekjekckgpbfaaDoor.Abs
end
section
namespace Go.Proofs.YteekjekckgpbfaaDoor.Abs
open Sp
attribute [local congr] bindO_congr bindR_congr condV_congr wp_congr
/-! ### What stays -/
def Fr (S : Nat → Prop) (h h' : Heap) : Prop := h.next ≤ h'.next ∧ ∀ b, b < h.next → ¬ S b → h'.blk b = h.blk b
theorem Fr.refl (S : Nat → Prop) (h : Heap) : Fr S h h := ⟨Nat.le_refl _, fun _ _ _ => rfl⟩
theorem Fr.trans {S : Nat → Prop} {a b c : Heap} (h : Fr S a b) (k : Fr S b c) : Fr S a c :=
 ⟨Nat.le_trans h.1 k.1, fun x hx hn => (k.2 x (Nat.lt_of_lt_of_le hx h.1) hn).trans (h.2 x hx hn)⟩
theorem Fr.then {S R : Nat → Prop} {a b c : Heap} (h : Fr S a b) (k : Fr R b c) (hs : ∀ x, x < a.next → R x → S x) : Fr S a c :=
 ⟨Nat.le_trans h.1 k.1, fun x hx hn => (k.2 x (Nat.lt_of_lt_of_le hx h.1) (fun r => hn (hs x hx r))).trans (h.2 x hx hn)⟩
theorem Fr.mono {S R : Nat → Prop} {a b : Heap} (h : Fr S a b) (hs : ∀ x, x < a.next → S x → R x) : Fr R a b :=
 ⟨h.1, fun x hx hn => h.2 x hx fun s => hn (hs x hx s)⟩
theorem Fr.set (b : Nat) (h : Heap) (o : AObj) : Fr (· = b) h (h.set b o) := ⟨Nat.le_refl _, fun _ _ hn => blk_set_ne hn⟩
theorem Fr.kill (b : Nat) (h : Heap) : Fr (· = b) h (h.kill b) := ⟨Nat.le_refl _, fun _ _ hn => blk_kill_ne hn⟩
theorem Fr.alloc (S : Nat → Prop) (h : Heap) (o : AObj) : Fr S h (h.alloc o) := ⟨Nat.le_succ _, fun _ hb _ => blk_alloc_lt hb⟩
theorem Fr.kp {p : Nat} {a b : Heap} (h : Fr (· = p) a b) : Kp p a b := h
theorem Kp.fr {p : Nat} {a b : Heap} (h : Kp p a b) : Fr (· = p) a b := h
/-! ### Lists of parts -/
def Al (lo : Nat) (X : List Nat) (b : Nat) : Prop := lo ≤ b ∧ b ∉ X
mutual
inductive RepL (g : Nat → Option Blk) (A : Nat → Prop) : List Value → List Part → Prop
 | nil : RepL g A [] []
 | cons (k : Nat) (t o : Bs) (q : Bool) (w : Value) (ws : List Part) (cs : List Value) (ps : List Part) : RepW g A w ws → RepL g A cs ps →
   RepL g A (.int .i64 (k : Int) :: .string (mkS t) :: .string (mkS o) :: .bool q :: w :: .pointer none :: cs) (⟨k, t, o, q, ws⟩ :: ps)
inductive RepW (g : Nat → Option Blk) (A : Nat → Prop) : Value → List Part → Prop
 | nil : RepW g A (.slice none 0 0) []
 | some (b : Nat) (cs : List Value) (n : Nat) (ps : List Part) : A b → g b = some ⟨49, cs, true⟩ → RepL g A cs ps → n = ps.length → 0 < n → RepW g A (.slice (some ⟨b, 0, none⟩) n n) ps
end
mutual
theorem RepL.mono {g g' : Nat → Option Blk} {A A' : Nat → Prop} (hm : ∀ b k, A b → g b = some k → A' b ∧ g' b = some k) : ∀ {cs : List Value} {ps : List Part}, RepL g A cs ps → RepL g' A' cs ps
 | _, _, .nil => .nil
 | _, _, .cons k t o q w ws cs ps hw hl => .cons k t o q w ws cs ps (RepW.mono hm hw) (RepL.mono hm hl)
theorem RepW.mono {g g' : Nat → Option Blk} {A A' : Nat → Prop} (hm : ∀ b k, A b → g b = some k → A' b ∧ g' b = some k) : ∀ {v : Value} {ps : List Part}, RepW g A v ps → RepW g' A' v ps
 | _, _, .nil => .nil
 | _, _, .some b cs n ps ha hb hl hn hp => .some b cs n ps (hm b _ ha hb).1 (hm b _ ha hb).2 (RepL.mono hm hl) hn hp
end
theorem RepL.append {g : Nat → Option Blk} {A : Nat → Prop} {ds : List Value} {qs : List Part} (k : RepL g A ds qs) : ∀ {cs : List Value} {ps : List Part}, RepL g A cs ps → RepL g A (cs ++ ds) (ps ++ qs) := by
 intro cs ps h
 induction ps generalizing cs with
 | nil => cases h; exact k
 | cons x ps ih => cases h; rename_i hw hl; exact .cons _ _ _ _ _ _ _ _ hw (ih hl)
theorem RepL.length {g : Nat → Option Blk} {A : Nat → Prop} : ∀ {cs : List Value} {ps : List Part}, RepL g A cs ps → cs.length = ps.length * 6 := by
 intro cs ps h
 induction ps generalizing cs with
 | nil => cases h; rfl
 | cons x ps ih => cases h; rename_i hw hl; simp [ih hl]; omega
theorem RepW.one {g : Nat → Option Blk} {A : Nat → Prop} {v : Value} {ps : List Part} (h : RepW g A v ps) : (∃ a n c, v = .slice a n c) := by
 cases h
 ·exact ⟨_, _, _, rfl⟩
 ·exact ⟨_, _, _, rfl⟩
theorem RepL.all_one {g : Nat → Option Blk} {A : Nat → Prop} : ∀ {cs : List Value} {ps : List Part}, RepL g A cs ps → cs.all oneC = true := by
 intro cs ps h
 induction ps generalizing cs with
 | nil => cases h; rfl
 | cons x ps ih => cases h; rename_i hw hl; obtain ⟨a, n, c, rfl⟩ := hw.one; simp [ih hl, oneC]
def OutV (h : Heap) (lo : Nat) (X : List Nat) (ov : Value) (out : List Part) : Prop :=
 (ov = .slice none 0 0 ∧ out = []) ∨ ∃ ob cs n, ov = .slice (some ⟨ob, 0, none⟩) n n ∧ n = out.length ∧ 0 < n ∧ h.blk ob = some ⟨49, cs, true⟩ ∧ RepL h.blk (Al lo X) cs out ∧ ob ∈ X ∧ lo ≤ ob
def TxtV (h : Heap) (lo : Nat) (X : List Nat) (tv : Value) (text : Bs) : Prop :=
 (tv = .slice none 0 0 ∧ text = []) ∨ ∃ tb n, tv = .slice (some ⟨tb, 0, none⟩) n n ∧ n = text.length ∧ 0 < n ∧ h.blk tb = some ⟨5, text.map byteV, true⟩ ∧ tb ∈ X ∧ lo ≤ tb
theorem OutV.rep {h : Heap} {lo : Nat} {X : List Nat} {ov : Value} {out : List Part} (k : OutV h lo X ov out) : RepW h.blk (lo ≤ ·) ov out := by
 rcases k with ⟨rfl, rfl⟩ | ⟨ob, cs, n, rfl, hn, hp, hb, hl, hx, hlo⟩
 ·exact .nil
 ·exact .some ob cs n out hlo hb (hl.mono fun b k a e => ⟨a.1, e⟩) hn hp
theorem OutV.keep {h h' : Heap} {lo : Nat} {X X' : List Nat} {ov : Value} {out : List Part} (k : OutV h lo X ov out) (hob : ∀ ob n, ov = .slice (some ⟨ob, 0, none⟩) n n → h'.blk ob = h.blk ob ∧ ob ∈ X')
  (hm : ∀ b k, Al lo X b → h.blk b = some k → Al lo X' b ∧ h'.blk b = some k) : OutV h' lo X' ov out := by
 rcases k with ⟨rfl, rfl⟩ | ⟨ob, cs, n, rfl, hn, hp, hb, hl, hx, hlo⟩
 ·exact .inl ⟨rfl, rfl⟩
 ·obtain ⟨h1, h2⟩ := hob ob n rfl
  exact .inr ⟨ob, cs, n, rfl, hn, hp, h1.trans hb, hl.mono hm, h2, hlo⟩
theorem OutV.append {h : Heap} {lo : Nat} {X : List Nat} {ov sv : Value} {out ps : List Part} (k : OutV h lo X ov out) (s : RepW h.blk (Al lo X) sv ps) (hlo : lo ≤ h.next) (hmax : (out.length + ps.length) * 80 ≤ most) :
  ∃ ov' h' X', appendA E 37 ov sv h = some (ov', h') ∧ OutV h' lo X' ov' (out ++ ps) ∧ h.next ≤ h'.next ∧ (∀ x, x ∈ X → x ∈ X') ∧ (∀ x, x ∈ X' → x ∈ X ∨ h.next ≤ x ∧ x < h'.next) ∧ (∃ a n c, ov' = .slice a n c) ∧
   (∀ b, b < h.next → (b < lo ∨ b ∉ X) → h'.blk b = h.blk b) ∧ (∀ b k, h.blk b = some k → k.elem ≠ 49 → h'.blk b = some k) := by
 have hsl : ∃ a n c, ov = .slice a n c := by
  rcases k with ⟨rfl, rfl⟩ | ⟨ob, cs, n, rfl, _⟩
  ·exact ⟨_, _, _, rfl⟩
  ·exact ⟨_, _, _, rfl⟩
 cases s with
 | nil =>
  refine ⟨ov, h, X, ?_, by rw [List.append_nil]; exact k, Nat.le_refl _, fun _ h => h, fun _ h => .inl h, hsl, fun _ _ _ => rfl, fun _ _ e _ => e⟩
  refine ap37_zero ov none 0 h ?_
  rcases k with ⟨rfl, rfl⟩ | ⟨ob, cs, n, rfl, _⟩
  ·exact .inl rfl
  ·exact .inr ⟨_, _, _, rfl⟩
 | some sb ds m ps hA hsb hds hm hmp =>
  have hlen := hds.length
  have hrow : (ds.drop 0).take (m * 6) = ds := by rw [List.drop_zero, List.take_of_length_le (by omega)]
  have hone : ((ds.drop 0).take (m * 6)).all oneC = true := by rw [hrow]; exact hds.all_one
  have hsbn : sb < h.next := Heap.blk_lt hsb
  rcases k with ⟨rfl, rfl⟩ | ⟨ob, cs, n, rfl, hn, hp, hob, hl, hx, hlob⟩
  ·refine ⟨_, _, h.next :: X, ap37_nil sb 0 m m ⟨49, ds, true⟩ h hsb hmp (by simp; omega) hone (by simp at hmax; rw [hm]; omega), ?_, by rw [next_alloc]; omega, fun _ h => List.mem_cons_of_mem _ h, ?_, ⟨_, _, _, rfl⟩, fun b hb _ => blk_alloc_lt hb, fun b k e _ => (blk_alloc_lt (Heap.blk_lt e)).trans e⟩
   ·rw [hrow]
    refine .inr ⟨h.next, ds, m, rfl, by simpa using hm, hmp, blk_alloc_eq, ?_, List.mem_cons_self, hlo⟩
    refine hds.mono fun b k a e => ?_
    have := Heap.blk_lt e
    refine ⟨⟨a.1, ?_⟩, (blk_alloc_lt this).trans e⟩
    simp only [List.mem_cons, not_or]
    exact ⟨by omega, a.2⟩
   ·intro x hx
    rcases List.mem_cons.1 hx with e | e
    ·exact .inr ⟨by omega, by rw [next_alloc]; omega⟩
    ·exact .inl e
  ·have hcs := hl.length
   have hobn : ob < h.next := Heap.blk_lt hob
   refine ⟨_, _, h.next :: X, ap37_some ob n n sb 0 m m cs ⟨49, ds, true⟩ h hob (by omega) hsb hmp (by simp; omega) hone (by rw [hm, hn]; exact hmax), ?_, by rw [next_alloc, next_kill]; omega, fun _ h => List.mem_cons_of_mem _ h, ?_, ⟨_, _, _, rfl⟩, ?_, ?_⟩
   ·rw [hrow]
    have hmv : ∀ b k, Al lo X b → h.blk b = some k → Al lo (h.next :: X) b ∧ ((h.kill ob).alloc (.cells ⟨49, cs ++ ds, true⟩)).blk b = some k := by
     intro b k a e
     have hb := Heap.blk_lt e
     have hne : b ≠ ob := fun eq => a.2 (eq ▸ hx)
     refine ⟨⟨a.1, ?_⟩, (blk_alloc_lt (by rw [next_kill]; exact hb)).trans ((blk_kill_ne hne).trans e)⟩
     simp only [List.mem_cons, not_or]
     exact ⟨by omega, a.2⟩
    exact .inr ⟨h.next, cs ++ ds, n + m, rfl, by simp; omega, by omega, blk_alloc_eq' rfl, (RepL.append (hds.mono hmv) (hl.mono hmv)), List.mem_cons_self, hlo⟩
   ·intro x hx
    rcases List.mem_cons.1 hx with e | e
    ·exact .inr ⟨by omega, by rw [next_alloc, next_kill]; omega⟩
    ·exact .inl e
   ·intro b hb hc
    refine (blk_alloc_lt (by rw [next_kill]; exact hb)).trans (blk_kill_ne fun e => ?_)
    subst e
    rcases hc with hc | hc
    ·omega
    ·exact hc hx
   ·intro b k e hel
    refine (blk_alloc_lt (by rw [next_kill]; exact Heap.blk_lt e)).trans ((blk_kill_ne fun eq => ?_).trans e)
    subst eq
    rw [hob] at e
    injection e with e
    exact hel (e ▸ rfl)
end Go.Proofs.YteekjekckgpbfaaDoor.Abs
end
section
namespace Go.Proofs.YteekjekckgpbfaaDoor.Abs
open Sp
attribute [local congr] bindO_congr bindR_congr condV_congr wp_congr
def Un (base : Nat) (h h' : Heap) : Prop := h.next ≤ h'.next ∧ ∀ b, b < base → h'.blk b = h.blk b
theorem Un.refl (n : Nat) (h : Heap) : Un n h h := ⟨Nat.le_refl _, fun _ _ => rfl⟩
theorem Un.trans {n : Nat} {a b c : Heap} (h : Un n a b) (k : Un n b c) : Un n a c := ⟨Nat.le_trans h.1 k.1, fun x hx => (k.2 x hx).trans (h.2 x hx)⟩
theorem Un.set {n b : Nat} (h : Heap) (o : AObj) (hb : n ≤ b) : Un n h (h.set b o) := ⟨Nat.le_refl _, fun x hx => blk_set_ne (by omega)⟩
theorem Un.alloc {n : Nat} (h : Heap) (o : AObj) (hn : n ≤ h.next) : Un n h (h.alloc o) := ⟨Nat.le_succ _, fun x hx => blk_alloc_lt (by omega)⟩
theorem TxtV.append {h : Heap} {lo : Nat} {X : List Nat} {tv : Value} {text : Bs} {x : UInt8} {sb : Nat} {ow : Bool} (k : TxtV h lo X tv text) (hs : h.blk sb = some ⟨5, [byteV x], ow⟩) (hlo : lo ≤ h.next) (hmax : text.length + 1 ≤ most) :
  ∃ tv' h', appendA E 79 tv (.slice (some ⟨sb, 0, none⟩) 1 1) h = some (tv', h') ∧ TxtV h' lo (h.next :: X) tv' (text ++ [x]) ∧ h'.next = h.next + 1 ∧ (∀ b, b < h.next → (b < lo ∨ b ∉ X) → h'.blk b = h.blk b) ∧
   (∀ b k, b < h.next → h.blk b = some k → k.elem ≠ 5 → h'.blk b = h.blk b) ∧ ∃ a n c, tv' = .slice a n c := by
 have hsn := Heap.blk_lt hs
 have hone : (([byteV x].drop 0).take (1 * 1)).all oneC = true := rfl
 rcases k with ⟨rfl, rfl⟩ | ⟨tb, n, rfl, hn, hp, hb, hx, hlb⟩
 ·refine ⟨_, _, ap79_nil sb 0 1 1 _ h hs (by omega) (by simp) hone (by simpa using hmax), ?_, rfl, fun b hb _ => blk_alloc_lt hb, fun b k hb _ _ => blk_alloc_lt hb, _, _, _, rfl⟩
  exact .inr ⟨h.next, 1, rfl, rfl, by omega, blk_alloc_eq, List.mem_cons_self, hlo⟩
 ·have htb := Heap.blk_lt hb
  refine ⟨_, _, ap79_some tb n n sb 0 1 1 _ _ h hb (by simp; omega) hs (by omega) (by simp) hone (by rw [hn]; simpa using hmax), ?_, rfl, ?_, ?_, _, _, _, rfl⟩
  ·exact .inr ⟨h.next, n + 1, rfl, by simp; omega, by omega, (blk_alloc_eq' rfl).trans (by simp), List.mem_cons_self, hlo⟩
  ·intro b hb hc
   refine (blk_alloc_lt (by rw [next_kill]; exact hb)).trans (blk_kill_ne fun e => ?_)
   subst e
   rcases hc with hc | hc
   ·omega
   ·exact hc hx
  ·intro b k hbn hk hne
   refine (blk_alloc_lt (by rw [next_kill]; exact hbn)).trans (blk_kill_ne fun e => ?_)
   subst e
   rw [hb] at hk
   injection hk with hk
   exact hne (hk ▸ rfl)
structure PB (h : Heap) (base lo : Nat) (X : List Nat) (bo bt bi bf w : Nat) (out : List Part) (text : Bs) : Prop where
 o : ∃ ov, h.blk bo = some ⟨37, [ov], true⟩ ∧ OutV h lo X ov out
 t : ∃ tv, h.blk bt = some ⟨79, [tv], true⟩ ∧ TxtV h lo X tv text
 i : h.blk bi = some ⟨4, [.bool (inQ w)], true⟩
 f : h.blk bf = some ⟨1, [.func (.func 69) ⟨[]⟩ ⟨[Pt bt, Pt bi, Pt bo]⟩], true⟩
 c1 : base ≤ bo ∧ base ≤ bt ∧ base ≤ bi ∧ base ≤ bf
 c2 : bo < lo ∧ bt < lo ∧ bi < lo ∧ bf < lo
 c3 : lo ≤ h.next
 c4 : ∀ x, x ∈ X → x < h.next
theorem TxtV.keep {h h' : Heap} {lo : Nat} {X X' : List Nat} {tv : Value} {text : Bs} (k : TxtV h lo X tv text) (hm : ∀ b, lo ≤ b → b < h.next → (∃ cs, h.blk b = some ⟨5, cs, true⟩) → h'.blk b = h.blk b) (hX : ∀ b, b ∈ X → b ∈ X') : TxtV h' lo X' tv text := by
 rcases k with ⟨rfl, rfl⟩ | ⟨tb, n, rfl, hn, hp, hb, hx, hlb⟩
 ·exact .inl ⟨rfl, rfl⟩
 ·exact .inr ⟨tb, n, rfl, hn, hp, (hm tb hlb (Heap.blk_lt hb) ⟨_, hb⟩).trans hb, hX _ hx, hlb⟩
theorem PB.kp {h h' : Heap} {base lo : Nat} {X : List Nat} {bo bt bi bf w p : Nat} {out : List Part} {text : Bs} (k : PB h base lo X bo bt bi bf w out text) (hp : p < base) (hk : Kp p h h') : PB h' base lo X bo bt bi bf w out text := by
 obtain ⟨⟨ov, ho, hov⟩, ⟨tv, ht, htv⟩, hi, hf, h1, h2, h3, h4⟩ := k
 have st : ∀ b k, base ≤ b → h.blk b = some k → h'.blk b = some k := fun b k hb e => (hk.2 b (Heap.blk_lt e) (by omega)).trans e
 refine ⟨⟨ov, st _ _ h1.1 ho, hov.keep (fun ob n e => ?_) fun b k a e => ⟨a, st _ _ (by have := a.1; omega) e⟩⟩, ⟨tv, st _ _ h1.2.1 ht, htv.keep (fun b hb hlt ⟨cs, e⟩ => (st b _ (by omega) e).trans e.symm) fun _ h => h⟩, st _ _ h1.2.2.1 hi, st _ _ h1.2.2.2 hf, h1, h2, Nat.le_trans h3 hk.1, fun x hx => Nat.lt_of_lt_of_le (h4 x hx) hk.1⟩
 rcases hov with ⟨rfl, _⟩ | ⟨ob', cs, n', rfl, _, _, hob, _, hx, hlb⟩
 ·cases e
 ·injection e with e; injection e with e; injection e with e
  subst e
  exact ⟨(st _ _ (by omega) hob).trans hob.symm, hx⟩
theorem PB.lx {h h' : Heap} {base p : Nat} {l : Bs} {i : Nat} {tk wt : Value} (hx : LX h p l i tk wt) (hp : p < base) (hu : Un base h h') : LX h' p l i tk wt := (hu.2 p hp).trans hx
section
variable {h : Heap} {base lo : Nat} {X : List Nat} {bo bt bi bf w : Nat} {out : List Part} {text : Bs}
theorem PB.byte (k : PB h base lo X bo bt bi bf w out text) (x : UInt8) (hmax : text.length + 1 ≤ most) : ∃ tv h2 a n c X',
  h.blk bt = some ⟨79, [tv], true⟩ ∧ appendA E 79 tv (.slice (some ⟨h.next, 0, none⟩) 1 1) (h.alloc (.cells ⟨5, [.int .u8 (x.toNat : Int)], true⟩)) = some (.slice a n c, h2) ∧ h2.blk bt = some ⟨79, [tv], true⟩ ∧
  PB (h2.set bt (.cells ⟨79, [.slice a n c], true⟩)) base lo X' bo bt bi bf w out (text ++ [x]) ∧ Un base h (h2.set bt (.cells ⟨79, [.slice a n c], true⟩)) := by
 obtain ⟨⟨ov, ho, hov⟩, ⟨tv, ht, htv⟩, hi, hf, h1, h2, h3, h4⟩ := k
 have hbo := Heap.blk_lt ho
 have hbt := Heap.blk_lt ht
 have hbi := Heap.blk_lt hi
 have hbf := Heap.blk_lt hf
 have ht1 : TxtV (h.alloc (.cells ⟨5, [byteV x], true⟩)) lo X tv text := htv.keep (fun b _ hb _ => blk_alloc_lt hb) fun _ h => h
 obtain ⟨tv', h', ha, hT, hn, hsame, hsame2, a, n', c, rfl⟩ := ht1.append (x := x) (sb := h.next) (ow := true) blk_alloc_eq (by rw [next_alloc]; omega) hmax
 rw [next_alloc] at hn hsame hsame2
 have st : ∀ b k, h.blk b = some k → b ≠ bt → k.elem ≠ 5 → (h'.set bt (.cells ⟨79, [.slice a n' c], true⟩)).blk b = some k := by
  intro b k e hne hel
  have hb := Heap.blk_lt e
  exact (blk_set_ne hne).trans ((hsame2 b k (by omega) ((blk_alloc_lt hb).trans e) hel).trans ((blk_alloc_lt hb).trans e))
 have nbo : bo ≠ bt := by rintro rfl; rw [ho] at ht; injection ht with ht; injection ht with ht; exact absurd ht (by decide)
 have nbi : bi ≠ bt := by rintro rfl; rw [hi] at ht; injection ht with ht; injection ht with ht; exact absurd ht (by decide)
 have nbf : bf ≠ bt := by rintro rfl; rw [hf] at ht; injection ht with ht; injection ht with ht; exact absurd ht (by decide)
 have hbt' : (h.alloc (.cells ⟨5, [byteV x], true⟩)).blk bt = some ⟨79, [tv], true⟩ := (blk_alloc_lt hbt).trans ht
 have hbt2 : h'.blk bt = some ⟨79, [tv], true⟩ := (hsame bt (by omega) (.inl h2.2.1)).trans hbt'
 refine ⟨tv, h', a, n', c, (h.alloc (.cells ⟨5, [byteV x], true⟩)).next :: X, ht, ha, hbt2, ?_, ?_⟩
 ·refine ⟨⟨ov, st bo _ ho nbo (show (37 : Nat) ≠ 5 by decide), ?_⟩, ⟨_, blk_set_eq (by omega), ?_⟩, st bi _ hi nbi (show (4 : Nat) ≠ 5 by decide), st bf _ hf nbf (show (1 : Nat) ≠ 5 by decide), h1, h2, by rw [next_set]; omega, fun x hx => ?_⟩
  ·refine hov.keep (fun ob n e => ?_) fun b k a e => ?_
   ·rcases hov with ⟨rfl, _⟩ | ⟨ob', cs, n', rfl, _, _, hob, _, hx, hlb⟩
    ·cases e
    ·injection e with e; injection e with e; injection e with e
     subst e
     exact ⟨(st _ _ hob (by omega) (by show (49 : Nat) ≠ 5; decide)).trans hob.symm, List.mem_cons_of_mem _ hx⟩
   ·have hb := Heap.blk_lt e
    refine ⟨⟨a.1, ?_⟩, ?_⟩
    ·simp only [List.mem_cons, not_or]
     exact ⟨by rw [next_alloc]; omega, a.2⟩
    ·have hne : b ≠ bt := by have := a.1; omega
     exact (blk_set_ne hne).trans ((hsame b (by omega) (.inr a.2)).trans ((blk_alloc_lt hb).trans e))
  ·exact hT.keep (fun b hb _ _ => blk_set_ne (by omega)) fun _ h => h
  ·rw [next_set]
   rcases List.mem_cons.1 hx with e | e
   ·rw [next_alloc] at e; omega
   ·have := h4 x e; omega
 ·refine ⟨by rw [next_set]; omega, fun b hb => ?_⟩
  exact (blk_set_ne (by omega)).trans ((hsame b (by omega) (.inl (by omega))).trans (blk_alloc_lt (by omega)))
theorem toBytes_map (l : Bs) : toBytes (l.map byteV) = some l := by
 induction l with
 | nil => rfl
 | cons x l ih => simp [toBytes, toByte, byteV, ih]
theorem TxtV.conv {tv : Value} (k : TxtV h lo X tv text) : convA E 79 9 tv h = some (.string (mkS text), h) := by
 have e : ∀ a n c, convA E 79 9 (.slice a n c) h = (match readRow h (.slice a n c) 1 with | none => none | some row => match toBytes row with | none => none | some l => some (.string (mkS l), h)) := by
  intro a n c; kernel_rfl
 rcases k with ⟨rfl, rfl⟩ | ⟨tb, n, rfl, hn, hp, hb, hx, hlb⟩
 ·rw [e]; rfl
 ·have hr : readRow h (.slice (some ⟨tb, 0, none⟩) n n) 1 = some (text.map byteV) := by
   rw [row_some h tb 0 n n 1 _ hb hp (by simp; omega), List.drop_zero, List.take_of_length_le (by simp; omega)]
  rw [e, hr]
  simp only [toBytes_map]
theorem TxtV.len {tv : Value} (k : TxtV h lo X tv text) : lenA E 79 tv = some (.int .i64 (text.length : Int)) := by
 rcases k with ⟨rfl, rfl⟩ | ⟨tb, n, rfl, hn, hp, hb, hx, hlb⟩
 ·rfl
 ·rw [ln79, hn]
theorem PB.flush (k : PB h base lo X bo bt bi bf w out text) (n : Nat) (hmax : (out.length + 1) * 80 ≤ most) : ∃ h' X', cF (n + 1) 69 [Pt bt, Pt bi, Pt bo] h = some (.ret (.tuple ⟨[]⟩), h') ∧ PB h' base lo X' bo bt bi bf w (flush w out text) [] ∧ Un base h h' ∧ (∀ b k, Al lo X b → h.blk b = some k → Al lo X' b ∧ h'.blk b = some k) := by
 have k0 := k
 obtain ⟨⟨ov, ho, hov⟩, ⟨tv, ht, htv⟩, hi, hf, h1, h2, h3, h4⟩ := k
 have hbo := Heap.blk_lt ho
 have hbt := Heap.blk_lt ht
 have hbi := Heap.blk_lt hi
 have hbf := Heap.blk_lt hf
 have nbo : bo ≠ bt := by rintro rfl; rw [ho] at ht; injection ht with ht; injection ht with ht; exact absurd ht (by decide)
 have nbi : bi ≠ bt := by rintro rfl; rw [hi] at ht; injection ht with ht; injection ht with ht; exact absurd ht (by decide)
 have nbf : bf ≠ bt := by rintro rfl; rw [hf] at ht; injection ht with ht; injection ht with ht; exact absurd ht (by decide)
 have nbi' : bi ≠ bo := by rintro rfl; rw [hi] at ho; injection ho with ho; injection ho with ho; exact absurd ho (by decide)
 have nbf' : bf ≠ bo := by rintro rfl; rw [hf] at ho; injection ho with ho; injection ho with ho; exact absurd ho (by decide)
 rw [c69]
 rcases b2 (text.length == 0) with g | g
 ·have : text = [] := by simpa using g
  subst this
  refine ⟨h, X, ?_, by simpa [Sp.flush] using k0, Un.refl _ _, fun b k a e => ⟨a, e⟩⟩
  simp -implicitDefEqProofs only [f69, p69_0, ht, htv.len, g, SS, SU, Nat.reduceAdd, Nat.reduceLeDiff, Nat.reduceBEq, Nat.reduceMul]
 ·have hne : text.isEmpty = false := by cases text <;> simp at g ⊢
  let pt : List Value := [.int .i64 ((if inQ w then 1 else 0 : Nat) : Int), .string (mkS text), .string (mkS []), .bool (inQ w), .slice none 0 0, .pointer none]
  let hA : Heap := (h.alloc (.cells ⟨49, pt, true⟩))
  let hB : Heap := hA.alloc (.cells ⟨49, pt, true⟩)
  have hnA : hA.next = h.next + 1 := rfl
  have hnB : hB.next = h.next + 2 := rfl
  have old : ∀ b, b < h.next → hB.blk b = h.blk b := fun b hb => (blk_alloc_lt (by rw [hnA]; omega)).trans (blk_alloc_lt hb)
  have hovB : OutV hB lo X ov out := hov.keep (fun ob n e => by
    rcases hov with ⟨rfl, _⟩ | ⟨ob', cs, n', rfl, _, _, hob, _, hx, hlb⟩
    ·cases e
    ·injection e with e; injection e with e; injection e with e
     subst e
     exact ⟨old _ (Heap.blk_lt hob), hx⟩) fun b k a e => ⟨a, (old b (Heap.blk_lt e)).trans e⟩
  have hs : RepW hB.blk (Al lo X) (.slice (some ⟨h.next + 1, 0, none⟩) 1 1) [⟨if inQ w then 1 else 0, text, [], inQ w, []⟩] :=
   .some _ pt 1 _ ⟨by omega, fun hm => by have := h4 _ hm; omega⟩ (blk_alloc_eq' rfl) (.cons _ _ _ _ _ _ _ _ .nil .nil) rfl (by omega)
  obtain ⟨ov', h', X', ha, hO, hn, hsub, hX', ⟨a, n', c, rfl⟩, hsame, hsame2⟩ := hovB.append hs (by omega) (by simpa using hmax)
  rw [hnB] at hn hX' hsame
  have st : ∀ b k, h.blk b = some k → k.elem ≠ 49 → h'.blk b = some k := fun b k e hel => hsame2 b k ((old b (Heap.blk_lt e)).trans e) hel
  have hbo' := st bo _ ho (show (37 : Nat) ≠ 49 by decide)
  have hbt' := st bt _ ht (show (79 : Nat) ≠ 49 by decide)
  have hbi' := st bi _ hi (show (4 : Nat) ≠ 49 by decide)
  have hbf' := st bf _ hf (show (1 : Nat) ≠ 49 by decide)
  refine ⟨(h'.set bo (.cells ⟨37, [.slice a n' c], true⟩)).set bt (.cells ⟨79, [.slice none 0 0], true⟩), X', ?_, ⟨⟨.slice a n' c, ?_, ?_⟩, ⟨.slice none 0 0, blk_set_eq (by rw [next_set]; omega), .inl ⟨rfl, rfl⟩⟩, ?_, ?_, h1, h2, by rw [next_set, next_set]; omega, ?_⟩, ⟨by rw [next_set, next_set]; omega, ?_⟩, ?_⟩
  ·have hA0 : (h.alloc (.cells ⟨49, [.int .i64 0, .string (mkS []), .string (mkS []), .bool false, .slice none 0 0, .pointer none], true⟩)).blk h.next = some ⟨49, [.int .i64 0, .string (mkS []), .string (mkS []), .bool false, .slice none 0 0, .pointer none], true⟩ := blk_alloc_eq
   have hset : ∀ cs cs', (h.alloc (.cells ⟨49, cs, true⟩)).set h.next (.cells ⟨49, cs', true⟩) = h.alloc (.cells ⟨49, cs', true⟩) := by
    intro cs cs'
    have := put_lx ⟨h.m, h.next + 1⟩ h.next (.cells ⟨49, cs, true⟩) (.cells ⟨49, cs', true⟩)
    exact this
   have hi2 : ∀ cs, (h.alloc (.cells ⟨49, cs, true⟩)).blk bi = some ⟨4, [.bool (inQ w)], true⟩ := fun cs => (blk_alloc_lt hbi).trans hi
   have ho2 : ∀ cs, (h.alloc (.cells ⟨49, cs, true⟩)).blk bo = some ⟨37, [ov], true⟩ := fun cs => (blk_alloc_lt hbo).trans ho
   have hp2 : ∀ cs, (h.alloc (.cells ⟨49, cs, true⟩)).blk h.next = some ⟨49, cs, true⟩ := fun cs => blk_alloc_eq
   have hbs : ∀ v0 v1 v2 v3 v4 v5 : Value, buildSliceA E 37 1 [(0, .agg ⟨[v0, v1, v2, v3, v4, v5]⟩)] (h.alloc (.cells ⟨49, [v0, v1, v2, v3, v4, v5], true⟩)) = some (.slice (some ⟨h.next + 1, 0, none⟩) 1 1, (h.alloc (.cells ⟨49, [v0, v1, v2, v3, v4, v5], true⟩)).alloc (.cells ⟨49, [v0, v1, v2, v3, v4, v5], true⟩)) :=
    fun v0 v1 v2 v3 v4 v5 => bs37_1 (.agg ⟨[v0, v1, v2, v3, v4, v5]⟩) _ rfl
   have hbt2 : (h'.set bo (.cells ⟨37, [.slice a n' c], true⟩)).blk bt = some ⟨79, [tv], true⟩ := (blk_set_ne nbo.symm).trans hbt'
   rcases b2 (inQ w) with q | q
   ·simp only [hB, hA, pt, q, if_true] at ha hi2 hi
    have e1 : ((1 : Nat) : Int) = 1 := rfl
    rw [e1] at ha
    simp -implicitDefEqProofs only [f69, p69_0, p69_5, ht, htv.len, htv.conv, g, hi, hi2, ho2, hp2, hset, hbs, ha, hbo', hbt2, SS, SU, Nat.reduceAdd, Nat.reduceLeDiff, Nat.reduceBEq, Nat.reduceMul]
   ·simp only [hB, hA, pt, q, Bool.false_eq_true, if_false] at ha hi2 hi
    have e1 : ((0 : Nat) : Int) = 0 := rfl
    rw [e1] at ha
    simp -implicitDefEqProofs only [f69, p69_0, p69_5, ht, htv.len, htv.conv, g, hi, hi2, ho2, hp2, hset, hbs, ha, hbo', hbt2, SS, SU, Nat.reduceAdd, Nat.reduceLeDiff, Nat.reduceBEq, Nat.reduceMul]
  ·exact (blk_set_ne nbo).trans (blk_set_eq (by omega))
  ·have e : Sp.flush w out text = out ++ [⟨if inQ w then 1 else 0, text, [], inQ w, []⟩] := by simp [Sp.flush, hne]
   rw [e]
   refine hO.keep (fun ob n e => ?_) fun b k a e => ⟨a, (blk_set_ne (by have := a.1; omega)).trans ((blk_set_ne (by have := a.1; omega)).trans e)⟩
   rcases hO with ⟨e', _⟩ | ⟨ob', cs, n'', e', _, _, hob, _, hx, hlb⟩
   ·rw [e'] at e; cases e
   ·rw [e'] at e
    injection e with e; injection e with e; injection e with e
    subst e
    exact ⟨(blk_set_ne (by omega)).trans (blk_set_ne (by omega)), hx⟩
  ·exact (blk_set_ne nbi).trans ((blk_set_ne nbi').trans hbi')
  ·exact (blk_set_ne nbf).trans ((blk_set_ne nbf').trans hbf')
  ·intro x hx
   rw [next_set, next_set]
   rcases hX' x hx with e | e
   ·have := h4 x e; omega
   ·omega
  ·intro b hb
   exact (blk_set_ne (by omega)).trans ((blk_set_ne (by omega)).trans ((hsame b (by omega) (.inl (by omega))).trans (old b (by omega))))
  ·intro b k a e
   have hb := Heap.blk_lt e
   refine ⟨⟨a.1, fun hm => ?_⟩, ?_⟩
   ·rcases hX' b hm with e' | e'
    ·exact a.2 e'
    ·omega
   ·have := a.1
    exact (blk_set_ne (by omega)).trans ((blk_set_ne (by omega)).trans ((hsame b (by omega) (.inr a.2)).trans ((old b hb).trans e)))
theorem prim_none (g : Nat) (args : List Value) (h : Heap) (hg : (g == 97) = false) : E.prim g args h = none := by
 show primL g args h = none
 simp [primL, hg]
theorem PB.add (k : PB h base lo X bo bt bi bf w out text) (n : Nat) {sv : Value} {ps : List Part} (s : RepW h.blk (Al lo X) sv ps) (hmax : (out.length + 1 + ps.length) * 80 ≤ most) :
  ∃ h' X', callA E (cF (n + 2)) (.func (.func 70) ⟨[]⟩ ⟨[Pt bf, Pt bo]⟩) [sv] h = some (.ret (.tuple ⟨[]⟩), h') ∧ PB h' base lo X' bo bt bi bf w (Sp.flush w out text ++ ps) [] ∧ Un base h h' := by
 have hf := k.f
 obtain ⟨h1, X1, e1, k1, u1, m1⟩ := k.flush n (by unfold most at *; omega)
 have s1 := s.mono m1
 obtain ⟨⟨ov, ho, hov⟩, ⟨tv, ht, htv⟩, hi, hf1, c1, c2, c3, c4⟩ := k1
 have hlen : (Sp.flush w out text).length ≤ out.length + 1 := by
  unfold Sp.flush; split <;> simp
 obtain ⟨ov', h2, X2, ha, hO, hn, hsub, hX', ⟨a, n', c, rfl⟩, hsame, hsame2⟩ := hov.append s1 c3 (by unfold most at *; omega)
 have hbo' := hsame2 bo _ ho (show (37 : Nat) ≠ 49 by decide)
 have hbt' := hsame2 bt _ ht (show (79 : Nat) ≠ 49 by decide)
 have hbi' := hsame2 bi _ hi (show (4 : Nat) ≠ 49 by decide)
 have hbf' := hsame2 bf _ hf1 (show (1 : Nat) ≠ 49 by decide)
 have nbt : bt ≠ bo := by rintro rfl; rw [ho] at ht; injection ht with ht; injection ht with ht; exact absurd ht (by decide)
 have nbi : bi ≠ bo := by rintro rfl; rw [ho] at hi; injection hi with hi; injection hi with hi; exact absurd hi (by decide)
 have nbf : bf ≠ bo := by rintro rfl; rw [ho] at hf1; injection hf1 with hf1; injection hf1 with hf1; exact absurd hf1 (by decide)
 refine ⟨h2.set bo (.cells ⟨37, [.slice a n' c], true⟩), X2, ?_, ⟨⟨.slice a n' c, blk_set_eq (Heap.blk_lt hbo'), ?_⟩, ⟨tv, (blk_set_ne nbt).trans hbt', ?_⟩, (blk_set_ne nbi).trans hbi', (blk_set_ne nbf).trans hbf', c1, c2, by rw [next_set]; omega, fun x hx => ?_⟩, u1.trans ⟨by rw [next_set]; exact hn, fun b hb => ?_⟩⟩
 ·rw [callA_func _ _ _ _ _ _ _ (prim_none 70 _ _ rfl)]
  show cF (n + 2) 70 [sv, Pt bf, Pt bo] h = _
  rw [c70]
  have ec : callA E (cF (n + 1)) (.func (.func 69) ⟨[]⟩ ⟨[Pt bt, Pt bi, Pt bo]⟩) [] h = some (.ret (.tuple ⟨[]⟩), h1) := (callA_func _ _ _ _ _ _ _ (prim_none 69 _ _ rfl)).trans e1
  simp -implicitDefEqProofs only [f70, hf, ec, ho, ha, hbo', SS, SU, Nat.reduceAdd, Nat.reduceLeDiff, Nat.reduceBEq, Nat.reduceMul]
 ·refine hO.keep (fun ob n e => ?_) fun b k a e => ⟨a, (blk_set_ne (by have := a.1; omega)).trans e⟩
  rcases hO with ⟨e', _⟩ | ⟨ob', cs, n'', e', _, _, hob, _, hx, hlb⟩
  ·rw [e'] at e; cases e
  ·rw [e'] at e
   injection e with e; injection e with e; injection e with e
   subst e
   exact ⟨blk_set_ne (by omega), hx⟩
 ·refine htv.keep (fun b hb hlt ⟨cs, e⟩ => ?_) hsub
  exact (blk_set_ne (by omega)).trans ((hsame2 b _ e (show (5 : Nat) ≠ 49 by decide)).trans e.symm)
 ·rw [next_set]
  rcases hX' x hx with e | e
  ·have := c4 x e; omega
  ·omega
 ·exact (blk_set_ne (by omega)).trans (hsame b (by omega) (.inl (by omega)))
end
end Go.Proofs.YteekjekckgpbfaaDoor.Abs
end
section
namespace Go.Proofs.YteekjekckgpbfaaDoor.Abs
open Sp
attribute [local congr] bindO_congr bindR_congr condV_congr wp_congr
variable {h : Heap} {p i : Nat} {l : Bs} {tk wt : Value}
def first : List Bs → Bs → Option (Nat × Bs)
 | [], _ => none
 | o :: os, r => if pre o r then some (0, o) else match first os r with | none => none | some (k, x) => some (k + 1, x)
theorem first_find : ∀ (os : List Bs) (r : Bs), os.find? (fun o => pre o r) = (first os r).map (·.2) := by
 intro os r
 induction os with
 | nil => rfl
 | cons o os ih =>
  simp only [List.find?, first]
  cases pre o r with
  | true => rfl
  | false =>
   simp only [ih, Bool.false_eq_true, if_false]
   cases first os r with
   | none => rfl
   | some x => rfl
theorem first_pre : ∀ {os : List Bs} {r : Bs} {k : Nat} {o : Bs}, first os r = some (k, o) → pre o r = true ∧ os[k]? = some o := by
 intro os
 induction os with
 | nil => intro r k o h; cases h
 | cons x os ih =>
  intro r k o h
  simp only [first] at h
  cases hp : pre x r with
  | true => simp [hp] at h; obtain ⟨rfl, rfl⟩ := h; exact ⟨hp, rfl⟩
  | false =>
   simp only [hp, Bool.false_eq_true, if_false] at h
   cases hf : first os r with
   | none => simp [hf] at h
   | some y => simp [hf] at h; obtain ⟨rfl, rfl⟩ := h; exact ih hf
theorem pre_len {o r : Bs} (h : pre o r = true) : o.length ≤ r.length := by
 have := congrArg List.length (beq_iff_eq.1 h)
 simp at this
 omega
def strs (os : List Bs) : List Value := os.map fun o => .string (mkS o)
theorem strs_get (os : List Bs) (k : Nat) (o : Bs) (h : os[k]? = some o) : (strs os)[k]? = some (.string (mkS o)) := by
 simp [strs, h]
theorem index_loop (N n sb : Nat) (os : List Bs) (hx : LX h p l i tk wt) (hi : i ≤ l.length) (hl : l.length < 4611686018427387904) (hb : h.blk sb = some ⟨9, strs os, true⟩) (hos : os.length < 4611686018427387904) : ∀ (m j : Nat), j ≤ os.length → os.length < j + m →
  l67_6 (cF (n + 4)) N m (.slice (some ⟨sb, 0, none⟩) os.length os.length) (.func (.func 23) ⟨[Pt p]⟩ ⟨[]⟩) (.int .i64 (os.length : Int)) (.int .i64 (j : Int)) h =
   match first (os.drop j) (l.drop i) with
   | none => some (.ret (.int .i64 (-1)), h)
   | some (k, o) => some (.ret (.int .i64 ((j + k : Nat) : Int)), mv h p l (i + o.length) tk wt) := by
 intro m
 induction m with
 | zero => intro j hj hm; omega
 | succ m ih =>
  intro j hj hm
  rcases b2 (decide (j < os.length)) with h1 | h1
  ·have hlt := of_decide_eq_true h1
   have hg : os[j]? = some os[j] := by simp [hlt]
   have hd : os.drop j = os[j] :: os.drop (j + 1) := List.drop_eq_getElem_cons hlt
   rw [hd]
   generalize os[j] = o at hg
   have hcall : callA E (cF (n + 4)) (.func (.func 23) ⟨[Pt p]⟩ ⟨[]⟩) [.string (mkS o)] h = cF (n + 4) 23 [Pt p, .string (mkS o)] h := callA_func _ _ _ _ _ _ _ (prim_none 23 _ _ rfl)
   simp -implicitDefEqProofs only [l67_6, p67_7, h1, ia40 sb 0 os.length os.length j hlt, hb, strs_get os j o hg, Nat.mul_one, hcall, first, SS, SU, Nat.reduceAdd, Nat.reduceLeDiff, Nat.reduceBEq, Nat.reduceMul]
   rcases b2 (pre o (l.drop i)) with h2 | h2
   ·have hle := pre_len h2
    simp at hle
    simp -implicitDefEqProofs only [passed_yes n hx o hi (by omega) h2, h2, if_true, SS, SU, Nat.reduceAdd, Nat.reduceLeDiff, Nat.reduceBEq, Nat.reduceMul]
    rfl
   ·simp -implicitDefEqProofs only [passed_no n hx o hi h2, h2, wrap_nat (j + 1) (by omega), Bool.false_eq_true, if_false, SS, SU, Nat.reduceAdd, Nat.reduceLeDiff, Nat.reduceBEq, Nat.reduceMul]
    rw [ih (j + 1) (by omega) (by omega)]
    cases first (os.drop (j + 1)) (l.drop i) with
    | none => rfl
    | some x => obtain ⟨k, o'⟩ := x; simp only; rw [show j + 1 + k = j + (k + 1) by omega]
  ·have : os.drop j = [] := List.drop_of_length_le (by have := of_decide_eq_false h1; omega)
   rw [this]
   simp -implicitDefEqProofs only [l67_6, p67_7, h1, p67_2, first, SS, SU, Nat.reduceAdd, Nat.reduceLeDiff, Nat.reduceBEq, Nat.reduceMul]
theorem indexFunc_eq (n sb : Nat) (os : List Bs) (hx : LX h p l i tk wt) (hi : i ≤ l.length) (hl : l.length < 4611686018427387904) (hb : h.blk sb = some ⟨9, strs os, true⟩) (hos : os.length < n) (hos' : os.length < 4611686018427387904) :
  cF (n + 5) 67 [.slice (some ⟨sb, 0, none⟩) os.length os.length, .func (.func 23) ⟨[Pt p]⟩ ⟨[]⟩] h =
   match first os (l.drop i) with
   | none => some (.ret (.int .i64 (-1)), h)
   | some (k, o) => some (.ret (.int .i64 (k : Int)), mv h p l (i + o.length) tk wt) := by
 rw [c67]
 simp -implicitDefEqProofs only [f67, p67_0, SS, SU, Nat.reduceAdd, Nat.reduceLeDiff, Nat.reduceBEq, Nat.reduceMul]
 have := index_loop (n + 4) n sb os hx hi hl hb hos' (n + 4) 0 (by omega) (by omega)
 rw [List.drop_zero] at this
 refine Eq.trans this ?_
 cases first os (l.drop i) with
 | none => rfl
 | some x => obtain ⟨k, o'⟩ := x; simp only; rw [Nat.zero_add]
theorem ops_eq (n : Nat) : cF (n + 1) 99 [] h = some (.ret (.slice (some ⟨h.next, 0, none⟩) 12 12), h.alloc (.cells ⟨9, strs opsL, true⟩)) := by kernel_rfl
theorem marks_eq (n : Nat) : cF (n + 1) 48 [] h = some (.ret (.slice (some ⟨h.next, 0, none⟩) 12 12), h.alloc (.cells ⟨9, strs marksL, true⟩)) := by kernel_rfl
theorem escape_no (n : Nat) (hx : LX h p l i tk wt) (hl : l.length < 4611686018427387904) (hi : i + 1 = l.length) :
  cF (n + 2) 72 [Pt p] h = some (.panic (.iface 51 (Pt h.next)), h.alloc (.cells ⟨52, [.int .i64 ((19 : Nat) : Int), .int .i64 (i : Int)], true⟩)) := by
 rw [c72]
 have h1 : decide (l.length ≤ i + 1) = true := decide_eq_true (by omega)
 simp -implicitDefEqProofs only [f72, p72_0, hx, wrap_nat (i + 1) (by omega), h1, fail_19, SS, SU, Nat.reduceAdd, Nat.reduceLeDiff, Nat.reduceBEq, Nat.reduceMul]
theorem escape_yes (n : Nat) (hx : LX h p l i tk wt) (hl : l.length < 4611686018427387904) (hi : i + 1 < l.length) (x : UInt8) (hg : l[i + 1]? = some x) :
  cF (n + 2) 72 [Pt p] h = some (.ret (.int .u8 (x.toNat : Int)), mv h p l (i + 2) tk wt) := by
 rw [c72]
 have h1 : decide (l.length ≤ i + 1) = false := decide_eq_false (by omega)
 simp -implicitDefEqProofs only [f72, p72_0, hx, wrap_nat (i + 1) (by omega), wrap_nat (i + 2) (by omega), h1, p72_2, ix9 l (i + 1) x hg, SS, SU, Nat.reduceAdd, Nat.reduceLeDiff, Nat.reduceBEq, Nat.reduceMul]
end Go.Proofs.YteekjekckgpbfaaDoor.Abs
end
section
namespace Go.Proofs.YteekjekckgpbfaaDoor.Abs
open Sp
attribute [local congr] bindO_congr bindR_congr condV_congr wp_congr
def PartV (g : Nat → Option Blk) (A : Nat → Prop) (v : Value) : Part → Prop
 | ⟨k, t, o, q, ws⟩ => ∃ wv, v = .agg ⟨[.int .i64 (k : Int), .string (mkS t), .string (mkS o), .bool q, wv, .pointer none]⟩ ∧ RepW g A wv ws
abbrev zeroPart : Value := .agg ⟨[.int .i64 0, .string (mkS []), .string (mkS []), .bool false, .slice none 0 0, .pointer none]⟩
def PartsQ (h : Heap) (p : Nat) (l : Bs) (i : Nat) (tk wt : Value) (k0 : Nat) (res : Rz (List Part × Nat × Bs)) (r : Res) (h' : Heap) : Prop := match res with
 | .ok (ps, j, r') => ∃ v, r = .ret v ∧ RepW h'.blk (h.next ≤ ·) v ps ∧ LX h' p l j tk wt ∧ j ≤ l.length ∧ r' = l.drop j ∧ i ≤ j ∧ ps.length ≤ k0 + (j - i) ∧ Kp p h h'
 | .bad c a => Bad p h c a r h'
def DollarQ (h : Heap) (p : Nat) (l : Bs) (i : Nat) (tk wt : Value) (res : Rz (Option Part × Nat × Bs)) (r : Res) (h' : Heap) : Prop := match res with
 | .ok (some x, j, r') => ∃ v, r = .ret (.tuple ⟨[v, .bool true]⟩) ∧ PartV h'.blk (h.next ≤ ·) v x ∧ LX h' p l j tk wt ∧ j ≤ l.length ∧ r' = l.drop j ∧ i < j ∧ Kp p h h'
 | .ok (none, j, r') => r = .ret (.tuple ⟨[zeroPart, .bool false]⟩) ∧ LX h' p l j tk wt ∧ j ≤ l.length ∧ r' = l.drop j ∧ i < j ∧ Kp p h h'
 | .bad c a => Bad p h c a r h'
def BracesQ (h : Heap) (p : Nat) (l : Bs) (i : Nat) (tk wt : Value) (res : Rz (Part × Nat × Bs)) (r : Res) (h' : Heap) : Prop := match res with
 | .ok (x, j, r') => ∃ v, r = .ret v ∧ PartV h'.blk (h.next ≤ ·) v x ∧ LX h' p l j tk wt ∧ j ≤ l.length ∧ r' = l.drop j ∧ i < j ∧ Kp p h h'
 | .bad c a => Bad p h c a r h'
def PartsOk (l : Bs) (p : Nat) (tk wt : Value) (f : Nat) : Prop := ∀ (w deep i : Nat) (res : Rz (List Part × Nat × Bs)) (n : Nat) (h : Heap), parts f w deep [] [] i (l.drop i) = some res → i ≤ l.length → LX h p l i tk wt → w ≤ 4 → deep ≤ 20 → 6 * f + 5020 ≤ n →
 wp (cF n 49 [Pt p, .int .i64 (w : Int), .int .i64 (deep : Int)] h) (PartsQ h p l i tk wt 0 res)
def DollarOk (l : Bs) (p : Nat) (tk wt : Value) (f : Nat) : Prop := ∀ (w deep i : Nat) (res : Rz (Option Part × Nat × Bs)) (n : Nat) (h : Heap), dollar f w deep i (l.drop i) = some res → i < l.length → LX h p l i tk wt → w ≤ 4 → deep ≤ 20 → 6 * f + 5024 ≤ n →
 wp (cF n 74 [Pt p, .int .i64 (w : Int), .int .i64 (deep : Int)] h) (DollarQ h p l i tk wt res)
def BracesOk (l : Bs) (p : Nat) (tk wt : Value) (f : Nat) : Prop := ∀ (w deep from' i : Nat) (res : Rz (Part × Nat × Bs)) (n : Nat) (h : Heap), braces f w deep from' i (l.drop i) = some res → i ≤ l.length → LX h p l i tk wt → w ≤ 4 → deep ≤ 20 → 6 * f + 5024 ≤ n →
 wp (cF n 89 [Pt p, .int .i64 (from' : Int), .int .i64 (w : Int), .int .i64 (deep : Int)] h) (BracesQ h p l i tk wt res)
theorem PartV.mono {g g' : Nat → Option Blk} {A A' : Nat → Prop} (hm : ∀ b k, A b → g b = some k → A' b ∧ g' b = some k) {v : Value} {x : Part} (h : PartV g A v x) : PartV g' A' v x := by
 obtain ⟨k, t, o, q, ws⟩ := x
 obtain ⟨wv, e, hw⟩ := h
 exact ⟨wv, e, hw.mono hm⟩
theorem Kp.new {p b : Nat} {h h1 : Heap} (k : Kp p h h1) (hb : h.next ≤ b) (o : AObj) : Kp p h (h1.set b o) := ⟨k.1, fun x hx hn => (blk_set_ne (by omega)).trans (k.2 x hx hn)⟩
theorem Kp.st {p : Nat} {h h' : Heap} (k : Kp p h h') {b : Nat} {x : Blk} (e : h.blk b = some x) (hn : b ≠ p) : h'.blk b = some x := (k.2 b (Heap.blk_lt e) hn).trans e
theorem Kp.lx {p q : Nat} {h h' : Heap} {l : Bs} {i : Nat} {tk wt : Value} (k : Kp q h h') (hx : LX h p l i tk wt) (hn : p ≠ q) : LX h' p l i tk wt := k.st hx hn
theorem alloc_lx {p : Nat} {h : Heap} {l : Bs} {i : Nat} {tk wt : Value} (hx : LX h p l i tk wt) (o : AObj) : LX (h.alloc o) p l i tk wt := (blk_alloc_lt (Heap.blk_lt hx)).trans hx
section
variable {l : Bs} {p : Nat} {tk wt : Value}
theorem closed_call (hl : l.length ≤ 5000) {i fr f : Nat} {res : Option Bs} {n : Nat} {h : Heap} (hs : closed f 1 (l.drop i) = some res) (hi : i ≤ l.length) (hx : LX h p l i tk wt) (hn : 3 * f + 11 ≤ n) (hf : f < 1000000000000) :
  wp (cF n 88 [Pt p, .int .i64 (fr : Int)] h) (closeQ h p l i tk wt fr res) := by
 obtain ⟨n, rfl⟩ : ∃ n', n = n' + 1 := ⟨n - 1, by omega⟩
 have := (closed_both l (by omega) p fr tk wt f).1 1 i res n n n h hs (by omega) hx (by omega) (by omega) (by omega) (by omega)
 refine wp_eq ?_ this
 rw [c88]; rfl
theorem pre_i {t : Bs} {i : Nat} (h : pre t (l.drop i) = true) (hi : i ≤ l.length) : i + t.length ≤ l.length := by
 have := pre_len h
 simp at this
 omega
theorem dollar_step (hl : l.length ≤ 5000) {f : Nat} (hf : f < 100000000) (ih : BracesOk l p tk wt f) : DollarOk l p tk wt (f + 1) := by
 intro w deep i res n h hs hi hx hw hd hn
 obtain ⟨n, rfl⟩ : ∃ n', n = n' + 8 := ⟨n - 8, by omega⟩
 have hp : p < h.next := blk_lt' hx
 have hnp : h.next ≠ p := by omega
 have kp1 : Kp p h (h.alloc (.cells ⟨49, [.int .i64 0, .string (mkS []), .string (mkS []), .bool false, .slice none 0 0, .pointer none], true⟩)) := Kp.alloc _ _ _
 generalize hh1 : h.alloc (.cells ⟨49, [.int .i64 0, .string (mkS []), .string (mkS []), .bool false, .slice none 0 0, .pointer none], true⟩) = h1 at kp1
 have hx1 : LX h1 p l i tk wt := hh1 ▸ alloc_lx hx _
 have ht1 : h1.blk h.next = some ⟨49, [.int .i64 0, .string (mkS []), .string (mkS []), .bool false, .slice none 0 0, .pointer none], true⟩ := hh1 ▸ blk_alloc_eq
 have hp1 : p < h1.next := blk_lt' hx1
 have ht1n : h.next < h1.next := blk_lt' ht1
 rw [c74]
 simp only [dollar] at hs
 simp only [f74, p74_0, hh1, hx1, next_eq (n + 4) hx1 [36, 40, 40] (by omega), p74_14, SS, SU, Nat.reduceAdd, Nat.reduceLeDiff, Nat.reduceBEq, Nat.reduceMul]
 rcases b2 (pre [36, 40, 40] (l.drop i)) with g1 | g1
 ·simp only [g1, if_true] at hs
  injection hs with hs; subst hs
  simp -implicitDefEqProofs only [g1, fail_19, SS, SU, Nat.reduceAdd, Nat.reduceLeDiff, Nat.reduceBEq, Nat.reduceMul]
  exact wp_some.2 (Bad.of kp1 (fail_bad 0 19 i))
 ·simp only [g1, Bool.false_eq_true, if_false] at hs
  simp -implicitDefEqProofs only [g1, SS, SU, Nat.reduceAdd, Nat.reduceLeDiff, Nat.reduceBEq, Nat.reduceMul]
  rcases b2 (pre [36, 40] (l.drop i)) with g2 | g2
  ·simp only [g2, if_true, List.drop_drop] at hs
   have hi2 := pre_i g2 (by omega)
   simp only [List.length_cons, List.length_nil] at hi2
   have hx2 := mv_lx (l := l) hp1 (i + 2) tk wt
   simp only [passed_yes (n + 3) hx1 [36, 40] (by omega) (by simp; omega) g2, hx2, List.length_cons, List.length_nil, SS, SU, Nat.reduceAdd, Nat.reduceLeDiff, Nat.reduceBEq, Nat.reduceMul]
   cases hc : closed f 1 (l.drop (i + 2)) with
   | none => simp [hc] at hs
   | some rc =>
    have hcall := closed_call (fr := i) hl hc hi2 hx2 (n := n + 7) (by omega) (by omega)
    refine wp_bindR hcall ?_ ?_
    ·intro v h' q
     cases rc with
     | none => obtain ⟨_, b, e, _⟩ := q; cases e
     | some t' =>
      obtain ⟨e, j, rfl, hj, hij, rfl⟩ := q
      have ej : i + ((l.drop i).length - (l.drop j).length) = j := by simp; omega
      simp only [hc, ej] at hs
      injection hs with hs; subst hs
      simp only [mv, put_lx]
      have hxj := mv_lx (l := l) hp1 j tk wt
      have htj : (mv h1 p l j tk wt).blk h.next = some ⟨49, [.int .i64 0, .string (mkS []), .string (mkS []), .bool false, .slice none 0 0, .pointer none], true⟩ := (blk_set_ne hnp).trans ht1
      have hsv := sl9_lh l (i + 2) (j - 1) (mv h1 p l j tk wt) (by omega) (by omega)
      have hself : (mkS (List.take (j - 1 - (i + 2)) (List.drop (i + 2) l))) = mkS (List.take (j - 1 - (i + 2)) (List.drop (i + 2) l)) := rfl
      have heq : ∀ s : ByteArray, eqOV (some (.string s)) (.string s) = true := fun s => beq_self_eq_true (sl s)
      have heqi : ∀ m : Int, eqOV (some (.int .i64 m)) (.int .i64 m) = true := fun m => by simp [eqOV, eqV, eqV1]
      simp only [hxj, htj, pull_sub1 j (by omega), wrap_nat (j - 1) (by omega), hsv, quoted_eq (n + 6) w, heq, heqi, blk_set_eq (show h.next < (mv h1 p l j tk wt).next by rw [next_set]; exact ht1n), SS, SU, Nat.reduceAdd, Nat.reduceLeDiff, Nat.reduceBEq, Nat.reduceMul]
      refine wp_some.2 ⟨_, rfl, ⟨.slice none 0 0, ?_, .nil⟩, (blk_set_ne (by omega)).trans hxj, hj, rfl, by omega, (kp1.trans (Kp.set _ _ _)).new (Nat.le_refl _) _⟩
      have e1 : (l.drop i).length - 2 - (l.drop j).length - 1 = j - 1 - (i + 2) := by simp; omega
      rw [e1]; rfl
    ·intro v h' q
     cases rc with
     | none =>
      simp only [hc] at hs
      injection hs with hs; subst hs
      exact wp_some.2 (Bad.of kp1 (Bad.of (Kp.set _ _ _) q))
     | some t' => obtain ⟨e, _⟩ := q; cases e
  ·simp only [g2, Bool.false_eq_true, if_false] at hs
   simp only [passed_no (n + 3) hx1 [36, 40] (by omega) g2, SS, SU, Nat.reduceAdd, Nat.reduceLeDiff, Nat.reduceBEq, Nat.reduceMul]
   rcases b2 (pre [36, 123] (l.drop i)) with g3 | g3
   ·simp only [g3, if_true, List.drop_drop] at hs
    have hi2 := pre_i g3 (by omega)
    simp only [List.length_cons, List.length_nil] at hi2
    have hx2 := mv_lx (l := l) hp1 (i + 2) tk wt
    have ht2 : (mv h1 p l (i + 2) tk wt).blk h.next = some ⟨49, [.int .i64 0, .string (mkS []), .string (mkS []), .bool false, .slice none 0 0, .pointer none], true⟩ := (blk_set_ne hnp).trans ht1
    simp only [passed_yes (n + 3) hx1 [36, 123] (by omega) (by simp; omega) g3, List.length_cons, List.length_nil, SS, SU, Nat.reduceAdd, Nat.reduceLeDiff, Nat.reduceBEq, Nat.reduceMul]
    cases hb : braces f w deep i (i + 2) (l.drop (i + 2)) with
    | none => simp [hb] at hs
    | some rb =>
     have hcall := ih w deep i (i + 2) rb (n + 7) _ hb hi2 hx2 hw hd (by omega)
     refine wp_bindR hcall ?_ ?_
     ·intro v h' q
      cases rb with
      | bad c a => obtain ⟨_, b, e, _⟩ := q; cases e
      | ok x =>
       obtain ⟨x, j, r'⟩ := x
       obtain ⟨v', e, hv, hxj, hj, rfl, hij, kk⟩ := q
       injection e with e; subst e
       simp only [hb] at hs
       injection hs with hs; subst hs
       obtain ⟨pk, pt, po, pq, pws⟩ := x
       obtain ⟨wv, rfl, hwv⟩ := hv
       obtain ⟨wa, wn, wc, rfl⟩ := hwv.one
       have htj := kk.st ht2 hnp
       have htn : h.next < h'.next := blk_lt' htj
       simp -implicitDefEqProofs only [htj, blk_set_eq htn, SS, SU, Nat.reduceAdd, Nat.reduceLeDiff, Nat.reduceBEq, Nat.reduceMul]
       refine wp_some.2 ⟨_, rfl, ⟨_, rfl, hwv.mono fun b k a e => ?_⟩, (blk_set_ne (by omega)).trans hxj, hj, rfl, by omega, ((kp1.trans (Kp.set _ _ _)).trans kk).new (Nat.le_refl _) _⟩
       have a' : h1.next ≤ b := a
       exact ⟨by show h.next ≤ b; omega, (blk_set_ne (by omega)).trans e⟩
     ·intro v h' q
      cases rb with
      | ok x => obtain ⟨x, j, r'⟩ := x; obtain ⟨v', e, _⟩ := q; cases e
      | bad c a =>
       simp only [hb] at hs
       injection hs with hs; subst hs
       exact wp_some.2 (Bad.of kp1 (Bad.of (Kp.set _ _ _) q))
   ·simp only [g3, Bool.false_eq_true, if_false, List.drop_drop] at hs
    have hx2 := mv_lx (l := l) hp1 (i + 1) tk wt
    have hpl := paramLen_le [63, 35, 64, 42] (l.drop (i + 1))
    have hdl : (l.drop (i + 1)).length = l.length - (i + 1) := by simp
    have hne : ∀ k, ((l.drop (i + 1)).take k == []) = (min k (l.drop (i + 1)).length == 0) := by
     intro k
     rw [← List.length_take, Bool.eq_iff_iff, beq_iff_eq, beq_iff_eq, List.length_eq_zero_iff]
    have hm : min (paramLen [63, 35, 64, 42] (l.drop (i + 1))) (l.drop (i + 1)).length = paramLen [63, 35, 64, 42] (l.drop (i + 1)) := by omega
    simp only [passed_no (n + 3) hx1 [36, 123] (by omega) g3, p74_3, hx1, wrap_nat (i + 1) (by omega), param_eq (n + 1) [63, 35, 64, 42] hx2 (by omega) (by omega) (by omega), put_lx, hne, hm, SS, SU, Nat.reduceAdd, Nat.reduceLeDiff, Nat.reduceBEq, Nat.reduceMul]
    have hx3 := mv_lx (l := l) hp1 (i + 1 + paramLen [63, 35, 64, 42] (l.drop (i + 1))) tk wt
    have ht3 : (mv h1 p l (i + 1 + paramLen [63, 35, 64, 42] (l.drop (i + 1))) tk wt).blk h.next = some ⟨49, [.int .i64 0, .string (mkS []), .string (mkS []), .bool false, .slice none 0 0, .pointer none], true⟩ := (blk_set_ne hnp).trans ht1
    have htn : h.next < (mv h1 p l (i + 1 + paramLen [63, 35, 64, 42] (l.drop (i + 1))) tk wt).next := ht1n
    have hji : i + 1 + paramLen [63, 35, 64, 42] (l.drop (i + 1)) ≤ l.length := by omega
    rcases b2 (paramLen [63, 35, 64, 42] (l.drop (i + 1)) == 0) with g4 | g4
    ·simp only [g4, if_true] at hs
     injection hs with hs; subst hs
     simp -implicitDefEqProofs only [g4, ht3, blk_set_eq htn, SS, SU, Nat.reduceAdd, Nat.reduceLeDiff, Nat.reduceBEq, Nat.reduceMul]
     have e0 : paramLen [63, 35, 64, 42] (l.drop (i + 1)) = 0 := by simpa using g4
     rw [e0] at hx3 hji
     simp only [e0]
     exact wp_some.2 ⟨rfl, (blk_set_ne (by omega)).trans hx3, hji, rfl, by omega, (kp1.trans (Kp.set _ _ _)).new (Nat.le_refl _) _⟩
    ·simp only [g4, Bool.false_eq_true, if_false] at hs
     injection hs with hs; subst hs
     simp -implicitDefEqProofs only [g4, quoted_eq (n + 6) w, ht3, blk_set_eq htn, SS, SU, Nat.reduceAdd, Nat.reduceLeDiff, Nat.reduceBEq, Nat.reduceMul]
     exact wp_some.2 ⟨_, rfl, ⟨_, rfl, .nil⟩, (blk_set_ne (by omega)).trans hx3, hji, rfl, by omega, (kp1.trans (Kp.set _ _ _)).new (Nat.le_refl _) _⟩
end
end Go.Proofs.YteekjekckgpbfaaDoor.Abs
end
section
namespace Go.Proofs.YteekjekckgpbfaaDoor.Abs
open Sp
attribute [local congr] bindO_congr bindR_congr condV_congr wp_congr
section
variable {l : Bs} {p : Nat} {tk wt : Value}
abbrev PtB (h : Heap) (b : Nat) (k : Nat) (t o : Bs) (q : Bool) (w : Value) : Prop := h.blk b = some ⟨49, [.int .i64 (k : Int), .string (mkS t), .string (mkS o), .bool q, w, .pointer none], true⟩
def bracesEnd (fr : Nat) (t o : Bs) (q : Bool) (rp : Rz (List Part × Nat × Bs)) : Rz (Part × Nat × Bs) := match rp with
 | .bad a b => .bad a b
 | .ok (ws, i', r') => if pre [125] r' then .ok (⟨2, t, o, q, ws⟩, i' + 1, r'.drop 1) else .bad 19 fr
theorem br17 (hl : l.length ≤ 5000) {f : Nat} (hf : f < 100000000) (ih : PartsOk l p tk wt f) {h h1 : Heap} {b8 b9 n N : Nat} {inner deep fr i j : Nat} {t o t0 o0 : Bs} {q q0 : Bool} {k0 : Nat} {w0 : Value} {rp : Rz (List Part × Nat × Bs)} (kp : Kp p h h1) (hx : LX h1 p l j tk wt) (hp : p < h.next) (hij : i ≤ j) (hj : j ≤ l.length)
  (h8 : PtB h1 b8 k0 t0 o0 q0 w0) (h9 : PtB h1 b9 2 t o q (.slice none 0 0)) (hb8 : h.next ≤ b8) (hb9 : h.next ≤ b9) (hne : b8 ≠ b9) (hs : parts f inner (deep + 1) [] [] j (l.drop j) = some rp) (hw : inner ≤ 4) (hd : deep < 20) (hn : 6 * f + 5020 ≤ n) :
  wp (p89_17 (cF n) N (Pt p) (.int .i64 (fr : Int)) (.int .i64 (deep : Int)) (Pt b8) (Pt b9) (.int .i64 (inner : Int)) h1) (BracesQ h p l i tk wt (bracesEnd fr t o q rp)) := by
 have hcall := ih inner (deep + 1) j rp n h1 hs hj hx hw (by omega) hn
 simp -implicitDefEqProofs only [p89_17, wrap_nat (deep + 1) (by omega), SS, SU, Nat.reduceAdd, Nat.reduceLeDiff, Nat.reduceBEq, Nat.reduceMul]
 refine wp_bindR hcall ?_ ?_
 ·intro v h2 qq
  cases rp with
  | bad c a => obtain ⟨_, b, e, _⟩ := qq; cases e
  | ok x =>
   obtain ⟨ws, j', r'⟩ := x
   obtain ⟨v', e, hv, hx2, hj', rfl, hij', _, kk⟩ := qq
   injection e with e; subst e
   obtain ⟨va, vn, vc, rfl⟩ := hv.one
   have h82 := kk.st h8 (by omega)
   have h92 := kk.st h9 (by omega)
   have hn2 : h1.next ≤ h2.next := kk.1
   have hb8n : b8 < h1.next := blk_lt' h8
   have hb9n : b9 < h1.next := blk_lt' h9
   obtain ⟨n, rfl⟩ : ∃ n', n = n' + 4 := ⟨n - 4, by omega⟩
   have hx3 : LX (h2.set b9 (.cells ⟨49, [.int .i64 2, .string (mkS t), .string (mkS o), .bool q, .slice va vn vc, .pointer none], true⟩)) p l j' tk wt := (blk_set_ne (by omega)).trans hx2
   have e2 : ((2 : Nat) : Int) = 2 := rfl
   rw [e2] at h92
   simp -implicitDefEqProofs only [h92, SS, SU, Nat.reduceAdd, Nat.reduceLeDiff, Nat.reduceBEq, Nat.reduceMul]
   have k3 : Kp p h (h2.set b9 (.cells ⟨49, [.int .i64 2, .string (mkS t), .string (mkS o), .bool q, .slice va vn vc, .pointer none], true⟩)) := (kp.trans kk).new hb9 _
   have h83 : PtB (h2.set b9 (.cells ⟨49, [.int .i64 2, .string (mkS t), .string (mkS o), .bool q, .slice va vn vc, .pointer none], true⟩)) b8 k0 t0 o0 q0 w0 := (blk_set_ne hne).trans h82
   have h93 : (h2.set b9 (.cells ⟨49, [.int .i64 2, .string (mkS t), .string (mkS o), .bool q, .slice va vn vc, .pointer none], true⟩)).blk b9 = some ⟨49, [.int .i64 2, .string (mkS t), .string (mkS o), .bool q, .slice va vn vc, .pointer none], true⟩ := blk_set_eq (by omega)
   have hv3 : RepW (h2.set b9 (.cells ⟨49, [.int .i64 2, .string (mkS t), .string (mkS o), .bool q, .slice va vn vc, .pointer none], true⟩)).blk (h1.next ≤ ·) (.slice va vn vc) ws := hv.mono fun b k a e => ⟨a, (blk_set_ne (by have a' : h1.next ≤ b := a; omega)).trans e⟩
   generalize (h2.set b9 (.cells ⟨49, [.int .i64 2, .string (mkS t), .string (mkS o), .bool q, .slice va vn vc, .pointer none], true⟩)) = h3 at hx3 k3 h83 h93 hv3
   have hp3 : p < h3.next := blk_lt' hx3
   unfold bracesEnd
   rcases b2 (pre [125] (l.drop j')) with g | g
   ·have hj2 := pre_i g hj'
    simp only [List.length_cons, List.length_nil] at hj2
    have hx4 := mv_lx (l := l) hp3 (j' + 1) tk wt
    have h84 : PtB (mv h3 p l (j' + 1) tk wt) b8 k0 t0 o0 q0 w0 := (blk_set_ne (by omega)).trans h83
    have h94 : (mv h3 p l (j' + 1) tk wt).blk b9 = some ⟨49, [.int .i64 2, .string (mkS t), .string (mkS o), .bool q, .slice va vn vc, .pointer none], true⟩ := (blk_set_ne (by omega)).trans h93
    simp only [passed_yes n hx3 [125] hj' (by simp; omega) g, g, if_true, List.length_cons, List.length_nil, p89_19, h94, h84, blk_set_eq (blk_lt' h84), SS, SU, Nat.reduceAdd, Nat.reduceLeDiff, Nat.reduceBEq, Nat.reduceMul]
    refine wp_some.2 ⟨_, rfl, ⟨_, rfl, ?_⟩, (blk_set_ne (by omega)).trans hx4, hj2, by rw [List.drop_drop], by omega, (k3.trans (Kp.set _ _ _)).new hb8 _⟩
    refine hv3.mono fun b k a e => ?_
    have a' : h1.next ≤ b := a
    have := kp.1
    exact ⟨by show h.next ≤ b; omega, (blk_set_ne (by omega)).trans ((blk_set_ne (by omega)).trans e)⟩
   ·simp only [passed_no n hx3 [125] hj' g, g, Bool.false_eq_true, if_false, fail_19, SS, SU, Nat.reduceAdd, Nat.reduceLeDiff, Nat.reduceBEq, Nat.reduceMul]
    exact wp_some.2 (Bad.of k3 (fail_bad 0 19 fr))
 ·intro v h2 qq
  cases rp with
  | ok x => obtain ⟨ws, j', r'⟩ := x; obtain ⟨v', e, _⟩ := qq; cases e
  | bad c a => exact wp_some.2 (Bad.of kp qq)
theorem opsL_len : ∀ {r : Bs} {k : Nat} {o : Bs}, first opsL r = some (k, o) → k < 12 ∧ o.length ≤ 2 := by
 intro r k o h
 have := (first_pre h).2
 have hk : k < opsL.length := by
  rcases Nat.lt_or_ge k opsL.length with h | h
  ·exact h
  ·simp [h] at this
 have hk' : k < 12 := hk
 refine ⟨hk', ?_⟩
 have hall : opsL.all (fun o => decide (o.length ≤ 2)) = true := by decide
 rw [List.all_eq_true] at hall
 have := hall o (List.mem_of_getElem? this)
 simpa using this
theorem br7 (hl : l.length ≤ 5000) {f : Nat} (hf : f < 100000000) (ih : PartsOk l p tk wt f) {h h1 : Heap} {b8 b9 n N : Nat} {w deep fr i j : Nat} {t t0 o0 : Bs} {q0 : Bool} {k0 : Nat} {w0 : Value} {res : Rz (Part × Nat × Bs)} (kp : Kp p h h1) (hx : LX h1 p l j tk wt) (hp : p < h.next) (hij : i ≤ j) (hj : j ≤ l.length)
  (h8 : PtB h1 b8 k0 t0 o0 q0 w0) (h9 : PtB h1 b9 2 t [] (inQ w) (.slice none 0 0)) (hb8 : h.next ≤ b8) (hb9 : h.next ≤ b9) (hne : b8 ≠ b9) (hw : w ≤ 4) (hd : deep < 20) (hn : 6 * f + 5021 ≤ n)
  (hs : (if pre [125] (l.drop j) then some (.ok ((⟨2, t, [], inQ w, []⟩ : Part), j + 1, l.drop (j + 1))) else match opsL.find? (fun o => pre o (l.drop j)) with
   | none => some (.bad 19 fr)
   | some o => match parts f (if inQ w then 4 else 3) (deep + 1) [] [] (j + o.length) (l.drop (j + o.length)) with
    | none => none
    | some (.bad a b) => some (.bad a b)
    | some (.ok (ws, i', r')) => if pre [125] r' then some (.ok (⟨2, t, o, inQ w, ws⟩, i' + 1, r'.drop 1)) else some (.bad 19 fr)) = some res) :
  wp (p89_7 (cF n) N (Pt p) (.int .i64 (fr : Int)) (.int .i64 (w : Int)) (.int .i64 (deep : Int)) (Pt b8) (Pt b9) h1) (BracesQ h p l i tk wt res) := by
 obtain ⟨n, rfl⟩ : ∃ n', n = n' + 5 := ⟨n - 5, by omega⟩
 have hp1 : p < h1.next := blk_lt' hx
 have hb8n : b8 < h1.next := blk_lt' h8
 have hb9n : b9 < h1.next := blk_lt' h9
 have e2 : ((2 : Nat) : Int) = 2 := rfl
 rcases b2 (pre [125] (l.drop j)) with g | g
 ·simp only [g, if_true] at hs
  injection hs with hs; subst hs
  have hj2 := pre_i g hj
  simp only [List.length_cons, List.length_nil] at hj2
  have hx4 := mv_lx (l := l) hp1 (j + 1) tk wt
  have h84 : PtB (mv h1 p l (j + 1) tk wt) b8 k0 t0 o0 q0 w0 := (blk_set_ne (by omega)).trans h8
  have h94 : PtB (mv h1 p l (j + 1) tk wt) b9 2 t [] (inQ w) (.slice none 0 0) := (blk_set_ne (by omega)).trans h9
  simp only [p89_7, passed_yes (n + 1) hx [125] hj (by simp; omega) g, List.length_cons, List.length_nil, h94, h84, blk_set_eq (blk_lt' h84), SS, SU, Nat.reduceAdd, Nat.reduceLeDiff, Nat.reduceBEq, Nat.reduceMul]
  exact wp_some.2 ⟨_, rfl, ⟨_, rfl, .nil⟩, (blk_set_ne (by omega)).trans hx4, hj2, rfl, by omega, (kp.trans (Kp.set _ _ _)).new hb8 _⟩
 ·simp only [g, Bool.false_eq_true, if_false, first_find] at hs
  have hx2 := alloc_lx hx (.cells ⟨9, strs opsL, true⟩)
  have hsb : (h1.alloc (.cells ⟨9, strs opsL, true⟩)).blk h1.next = some ⟨9, strs opsL, true⟩ := blk_alloc_eq
  have hif := indexFunc_eq n h1.next opsL hx2 hj (by omega) hsb (show 12 < n by omega) (by decide)
  rw [show opsL.length = 12 from rfl] at hif
  simp only [p89_7, passed_no (n + 1) hx [125] hj g, ops_eq, hif, SS, SU, Nat.reduceAdd, Nat.reduceLeDiff, Nat.reduceBEq, Nat.reduceMul]
  cases hfi : first opsL (l.drop j) with
  | none =>
   simp only [hfi, Option.map] at hs
   injection hs with hs; subst hs
   have hb : decide ((-1 : Int) < 0) = true := rfl
   simp -implicitDefEqProofs only [hb, fail_19, SS, SU, Nat.reduceAdd, Nat.reduceLeDiff, Nat.reduceBEq, Nat.reduceMul]
   exact wp_some.2 (Bad.of (kp.trans (Kp.alloc _ _ _)) (fail_bad 0 19 fr))
  | some x =>
   obtain ⟨k, o⟩ := x
   simp only [hfi, Option.map] at hs
   obtain ⟨hk, ho⟩ := opsL_len hfi
   have hj2 := pre_i (first_pre hfi).1 hj
   have hget := (first_pre hfi).2
   have hp2 : p < (h1.alloc (.cells ⟨9, strs opsL, true⟩)).next := by rw [next_alloc]; omega
   have hx3 := mv_lx (l := l) hp2 (j + o.length) tk wt
   have h83 : PtB (mv (h1.alloc (.cells ⟨9, strs opsL, true⟩)) p l (j + o.length) tk wt) b8 k0 t0 o0 q0 w0 := (blk_set_ne (by omega)).trans ((blk_alloc_lt hb8n).trans h8)
   have h93 : PtB (mv (h1.alloc (.cells ⟨9, strs opsL, true⟩)) p l (j + o.length) tk wt) b9 2 t [] (inQ w) (.slice none 0 0) := (blk_set_ne (by omega)).trans ((blk_alloc_lt hb9n).trans h9)
   have k3 : Kp p h (mv (h1.alloc (.cells ⟨9, strs opsL, true⟩)) p l (j + o.length) tk wt) := (kp.trans (Kp.alloc _ _ _)).trans (Kp.set _ _ _)
   simp -implicitDefEqProofs only [SS, SU, Nat.reduceAdd, Nat.reduceLeDiff, Nat.reduceBEq, Nat.reduceMul]
   generalize mv (h1.alloc (.cells ⟨9, strs opsL, true⟩)) p l (j + o.length) tk wt = h3 at hx3 h83 h93 k3
   have hx4 := alloc_lx hx3 (.cells ⟨9, strs opsL, true⟩)
   have h84 : PtB (h3.alloc (.cells ⟨9, strs opsL, true⟩)) b8 k0 t0 o0 q0 w0 := (blk_alloc_lt (blk_lt' h83)).trans h83
   have h94 : (h3.alloc (.cells ⟨9, strs opsL, true⟩)).blk b9 = some ⟨49, [.int .i64 2, .string (mkS t), .string (mkS []), .bool (inQ w), .slice none 0 0, .pointer none], true⟩ := (blk_alloc_lt (blk_lt' h93)).trans h93
   have k4 := k3.trans (Kp.alloc p h3 (.cells ⟨9, strs opsL, true⟩))
   have hsb4 : (h3.alloc (.cells ⟨9, strs opsL, true⟩)).blk h3.next = some ⟨9, strs opsL, true⟩ := blk_alloc_eq
   simp -implicitDefEqProofs only [p89_14, ops_eq, ia40 _ 0 12 12 k hk, hsb4, strs_get opsL k o hget, Nat.mul_one, h94, quoted_eq (n + 4) w, SS, SU, Nat.reduceAdd, Nat.reduceLeDiff, Nat.reduceBEq, Nat.reduceMul]
   have hx5 : LX ((h3.alloc (.cells ⟨9, strs opsL, true⟩)).set b9 (.cells ⟨49, [.int .i64 2, .string (mkS t), .string (mkS o), .bool (inQ w), .slice none 0 0, .pointer none], true⟩)) p l (j + o.length) tk wt := (blk_set_ne (by omega)).trans hx4
   have h85 : PtB ((h3.alloc (.cells ⟨9, strs opsL, true⟩)).set b9 (.cells ⟨49, [.int .i64 2, .string (mkS t), .string (mkS o), .bool (inQ w), .slice none 0 0, .pointer none], true⟩)) b8 k0 t0 o0 q0 w0 := (blk_set_ne hne).trans h84
   have h95 : PtB ((h3.alloc (.cells ⟨9, strs opsL, true⟩)).set b9 (.cells ⟨49, [.int .i64 2, .string (mkS t), .string (mkS o), .bool (inQ w), .slice none 0 0, .pointer none], true⟩)) b9 2 t o (inQ w) (.slice none 0 0) := blk_set_eq (blk_lt' h94)
   have k5 := k4.new hb9 (.cells ⟨49, [.int .i64 2, .string (mkS t), .string (mkS o), .bool (inQ w), .slice none 0 0, .pointer none], true⟩)
   generalize ((h3.alloc (.cells ⟨9, strs opsL, true⟩)).set b9 (.cells ⟨49, [.int .i64 2, .string (mkS t), .string (mkS o), .bool (inQ w), .slice none 0 0, .pointer none], true⟩)) = h5 at hx5 h85 h95 k5
   cases hpt : parts f (if inQ w then 4 else 3) (deep + 1) [] [] (j + o.length) (l.drop (j + o.length)) with
   | none => simp [hpt] at hs
   | some rp =>
    simp only [hpt] at hs
    have hres : res = bracesEnd fr t o (inQ w) rp := by
     unfold bracesEnd
     cases rp with
     | bad a b => simpa using hs.symm
     | ok x =>
      obtain ⟨ws, i', r'⟩ := x
      simp only at hs ⊢
      split at hs <;> (injection hs with hs; rename_i hc; simp [hc, ← hs])
    rw [hres]
    rcases b2 (inQ w) with qq | qq
    ·simp only [qq, if_true] at hpt
     rw [qq] at h95
     simp -implicitDefEqProofs only [qq, SS, SU, Nat.reduceAdd, Nat.reduceLeDiff, Nat.reduceBEq, Nat.reduceMul]
     exact br17 hl hf ih (inner := 4) k5 hx5 hp (by omega) hj2 h85 h95 hb8 hb9 hne hpt (by omega) hd (by omega)
    ·simp only [qq, Bool.false_eq_true, if_false] at hpt
     rw [qq] at h95
     simp -implicitDefEqProofs only [qq, SS, SU, Nat.reduceAdd, Nat.reduceLeDiff, Nat.reduceBEq, Nat.reduceMul]
     exact br17 hl hf ih (inner := 3) k5 hx5 hp (by omega) hj2 h85 h95 hb8 hb9 hne hpt (by omega) hd (by omega)
theorem take_nil (r : Bs) (k : Nat) (hk : k ≤ r.length) : (r.take k == []) = (k == 0) := by
 rw [Bool.eq_iff_iff, beq_iff_eq, beq_iff_eq, ← List.length_eq_zero_iff, List.length_take, Nat.min_eq_left hk]
theorem br5 (hl : l.length ≤ 5000) {f : Nat} (hf : f < 100000000) (ih : PartsOk l p tk wt f) {h h1 : Heap} {b8 b9 n N : Nat} {w deep fr i j : Nat} {t1 t0 o0 : Bs} {q0 : Bool} {k0 : Nat} {w0 : Value} {res : Rz (Part × Nat × Bs)} (kp : Kp p h h1) (hx : LX h1 p l j tk wt) (hp : p < h.next) (hij : i ≤ j) (hj : j ≤ l.length)
  (h8 : PtB h1 b8 k0 t0 o0 q0 w0) (h9 : PtB h1 b9 2 t1 [] (inQ w) (.slice none 0 0)) (hb8 : h.next ≤ b8) (hb9 : h.next ≤ b9) (hne : b8 ≠ b9) (hw : w ≤ 4) (hd : deep < 20) (hn : 6 * f + 5021 ≤ n)
  (hs : (if paramLen [63, 35, 64, 42] (l.drop j) == 0 then some (.bad 19 fr)
   else if pre [125] (l.drop (j + paramLen [63, 35, 64, 42] (l.drop j))) then some (.ok ((⟨2, (l.drop j).take (paramLen [63, 35, 64, 42] (l.drop j)), [], inQ w, []⟩ : Part), j + paramLen [63, 35, 64, 42] (l.drop j) + 1, l.drop (j + paramLen [63, 35, 64, 42] (l.drop j) + 1)))
   else match opsL.find? (fun o => pre o (l.drop (j + paramLen [63, 35, 64, 42] (l.drop j)))) with
   | none => some (.bad 19 fr)
   | some o => match parts f (if inQ w then 4 else 3) (deep + 1) [] [] (j + paramLen [63, 35, 64, 42] (l.drop j) + o.length) (l.drop (j + paramLen [63, 35, 64, 42] (l.drop j) + o.length)) with
    | none => none
    | some (.bad a b) => some (.bad a b)
    | some (.ok (ws, i', r')) => if pre [125] r' then some (.ok (⟨2, (l.drop j).take (paramLen [63, 35, 64, 42] (l.drop j)), o, inQ w, ws⟩, i' + 1, r'.drop 1)) else some (.bad 19 fr)) = some res) :
  wp (p89_5 (cF n) N (Pt p) (.int .i64 (fr : Int)) (.int .i64 (w : Int)) (.int .i64 (deep : Int)) (Pt b8) (Pt b9) h1) (BracesQ h p l i tk wt res) := by
 obtain ⟨n, rfl⟩ : ∃ n', n = n' + 6 := ⟨n - 6, by omega⟩
 have hp1 : p < h1.next := blk_lt' hx
 have hpl := paramLen_le [63, 35, 64, 42] (l.drop j)
 have hdl : (l.drop j).length = l.length - j := by simp
 have hx2 := mv_lx (l := l) hp1 (j + paramLen [63, 35, 64, 42] (l.drop j)) tk wt
 have h82 : PtB (mv h1 p l (j + paramLen [63, 35, 64, 42] (l.drop j)) tk wt) b8 k0 t0 o0 q0 w0 := (blk_set_ne (by omega)).trans h8
 have h92 : (mv h1 p l (j + paramLen [63, 35, 64, 42] (l.drop j)) tk wt).blk b9 = some ⟨49, [.int .i64 2, .string (mkS t1), .string (mkS []), .bool (inQ w), .slice none 0 0, .pointer none], true⟩ := (blk_set_ne (by omega)).trans h9
 have k2 : Kp p h (mv h1 p l (j + paramLen [63, 35, 64, 42] (l.drop j)) tk wt) := kp.trans (Kp.set _ _ _)
 simp only [p89_5, param_eq n [63, 35, 64, 42] hx hj (by omega) (by omega), SS, SU, Nat.reduceAdd, Nat.reduceLeDiff, Nat.reduceBEq, Nat.reduceMul]
 generalize paramLen [63, 35, 64, 42] (l.drop j) = k at *
 generalize mv h1 p l (j + k) tk wt = h2 at hx2 h82 h92 k2
 have hx3 : LX (h2.set b9 (.cells ⟨49, [.int .i64 2, .string (mkS ((l.drop j).take k)), .string (mkS []), .bool (inQ w), .slice none 0 0, .pointer none], true⟩)) p l (j + k) tk wt := (blk_set_ne (by omega)).trans hx2
 have h83 : PtB (h2.set b9 (.cells ⟨49, [.int .i64 2, .string (mkS ((l.drop j).take k)), .string (mkS []), .bool (inQ w), .slice none 0 0, .pointer none], true⟩)) b8 k0 t0 o0 q0 w0 := (blk_set_ne hne).trans h82
 have h93 : PtB (h2.set b9 (.cells ⟨49, [.int .i64 2, .string (mkS ((l.drop j).take k)), .string (mkS []), .bool (inQ w), .slice none 0 0, .pointer none], true⟩)) b9 2 ((l.drop j).take k) [] (inQ w) (.slice none 0 0) := blk_set_eq (blk_lt' h92)
 have k3 := k2.new hb9 (.cells ⟨49, [.int .i64 2, .string (mkS ((l.drop j).take k)), .string (mkS []), .bool (inQ w), .slice none 0 0, .pointer none], true⟩)
 simp -implicitDefEqProofs only [h92, SS, SU, Nat.reduceAdd, Nat.reduceLeDiff, Nat.reduceBEq, Nat.reduceMul]
 generalize (h2.set b9 (.cells ⟨49, [.int .i64 2, .string (mkS ((l.drop j).take k)), .string (mkS []), .bool (inQ w), .slice none 0 0, .pointer none], true⟩)) = h3 at hx3 h83 h93 k3
 have h93' : h3.blk b9 = some ⟨49, [.int .i64 2, .string (mkS ((l.drop j).take k)), .string (mkS []), .bool (inQ w), .slice none 0 0, .pointer none], true⟩ := h93
 simp -implicitDefEqProofs only [h93', take_nil _ k hpl, SS, SU, Nat.reduceAdd, Nat.reduceLeDiff, Nat.reduceBEq, Nat.reduceMul]
 rcases b2 (k == 0) with g | g
 ·simp only [g, if_true] at hs
  injection hs with hs; subst hs
  simp -implicitDefEqProofs only [g, fail_19, SS, SU, Nat.reduceAdd, Nat.reduceLeDiff, Nat.reduceBEq, Nat.reduceMul]
  exact wp_some.2 (Bad.of k3 (fail_bad 0 19 fr))
 ·simp only [g, Bool.false_eq_true, if_false] at hs
  simp -implicitDefEqProofs only [g, SS, SU, Nat.reduceAdd, Nat.reduceLeDiff, Nat.reduceBEq, Nat.reduceMul]
  exact br7 hl hf ih k3 hx3 hp (by omega) (by omega) h83 h93 hb8 hb9 hne hw hd (by omega) hs
theorem braces_step (hl : l.length ≤ 5000) {f : Nat} (hf : f < 100000000) (ih : PartsOk l p tk wt f) : BracesOk l p tk wt (f + 1) := by
 intro w deep fr i res n h hs hi hx hw hd hn
 obtain ⟨n, rfl⟩ : ∃ n', n = n' + 8 := ⟨n - 8, by omega⟩
 have hp : p < h.next := blk_lt' hx
 rw [c89]
 simp only [braces] at hs
 have k1 : Kp p h (h.alloc (.cells ⟨49, [.int .i64 0, .string (mkS []), .string (mkS []), .bool false, .slice none 0 0, .pointer none], true⟩)) := Kp.alloc _ _ _
 have hx1 := alloc_lx hx (.cells ⟨49, [.int .i64 0, .string (mkS []), .string (mkS []), .bool false, .slice none 0 0, .pointer none], true⟩)
 have h81 : PtB (h.alloc (.cells ⟨49, [.int .i64 0, .string (mkS []), .string (mkS []), .bool false, .slice none 0 0, .pointer none], true⟩)) h.next 0 [] [] false (.slice none 0 0) := blk_alloc_eq
 have hn1 : (h.alloc (.cells ⟨49, [.int .i64 0, .string (mkS []), .string (mkS []), .bool false, .slice none 0 0, .pointer none], true⟩)).next = h.next + 1 := rfl
 have e20 : decide ((20 : Int) ≤ (deep : Int)) = decide (20 ≤ deep) := n_le 20 deep
 simp -implicitDefEqProofs only [f89, p89_0, e20, SS, SU, Nat.reduceAdd, Nat.reduceLeDiff, Nat.reduceBEq, Nat.reduceMul]
 generalize (h.alloc (.cells ⟨49, [.int .i64 0, .string (mkS []), .string (mkS []), .bool false, .slice none 0 0, .pointer none], true⟩)) = h1 at *
 rcases b2 (decide (20 ≤ deep)) with g1 | g1
 ·have := of_decide_eq_true g1
  simp only [this, if_true] at hs
  injection hs with hs; subst hs
  have e3 : ∀ h : Heap, cF (n + 6 + 1) 25 [.int .i64 3, .int .i64 (fr : Int)] h = some (.panic (.iface 51 (Pt h.next)), h.alloc (.cells ⟨52, [.int .i64 ((3 : Nat) : Int), .int .i64 (fr : Int)], true⟩)) := fun h => fail_eq (n + 6) 3 fr
  simp -implicitDefEqProofs only [g1, e3, SS, SU, Nat.reduceAdd, Nat.reduceLeDiff, Nat.reduceBEq, Nat.reduceMul]
  exact wp_some.2 (Bad.of k1 (fail_bad 0 3 fr))
 ·have hd' := of_decide_eq_false g1
  simp only [hd', if_false] at hs
  have hset : ∀ cs cs', (h1.alloc (.cells ⟨49, cs, true⟩)).set h1.next (.cells ⟨49, cs', true⟩) = h1.alloc (.cells ⟨49, cs', true⟩) := by
   intro cs cs'
   have := put_lx ⟨h1.m, h1.next + 1⟩ h1.next (.cells ⟨49, cs, true⟩) (.cells ⟨49, cs', true⟩)
   exact this
  have hal : ∀ cs, (h1.alloc (.cells ⟨49, cs, true⟩)).blk h1.next = some ⟨49, cs, true⟩ := fun cs => blk_alloc_eq
  have hx2 := alloc_lx hx1 (.cells ⟨49, [.int .i64 2, .string (mkS []), .string (mkS []), .bool (inQ w), .slice none 0 0, .pointer none], true⟩)
  simp -implicitDefEqProofs only [g1, p89_2, quoted_eq (n + 6) w, hal, hset, hx2, SS, SU, Nat.reduceAdd, Nat.reduceLeDiff, Nat.reduceBEq, Nat.reduceMul]
  have k2 : Kp p h (h1.alloc (.cells ⟨49, [.int .i64 2, .string (mkS []), .string (mkS []), .bool (inQ w), .slice none 0 0, .pointer none], true⟩)) := k1.trans (Kp.alloc _ _ _)
  have h82 : PtB (h1.alloc (.cells ⟨49, [.int .i64 2, .string (mkS []), .string (mkS []), .bool (inQ w), .slice none 0 0, .pointer none], true⟩)) h.next 0 [] [] false (.slice none 0 0) := (blk_alloc_lt (by omega)).trans h81
  have h92 : PtB (h1.alloc (.cells ⟨49, [.int .i64 2, .string (mkS []), .string (mkS []), .bool (inQ w), .slice none 0 0, .pointer none], true⟩)) h1.next 2 [] [] (inQ w) (.slice none 0 0) := blk_alloc_eq
  generalize (h1.alloc (.cells ⟨49, [.int .i64 2, .string (mkS []), .string (mkS []), .bool (inQ w), .slice none 0 0, .pointer none], true⟩)) = h2 at *
  have hp2 : p < h2.next := blk_lt' hx2
  have hrest : ∀ {t1 : Bs} {h3 : Heap}, Kp p h h3 → LX h3 p l i tk wt → PtB h3 h.next 0 [] [] false (.slice none 0 0) → PtB h3 h1.next 2 t1 [] (inQ w) (.slice none 0 0) →
    (if paramLen [63, 35, 64, 42] (l.drop i) == 0 then some (.bad 19 fr)
   else if pre [125] ((l.drop i).drop (paramLen [63, 35, 64, 42] (l.drop i))) then some (.ok ((⟨2, (l.drop i).take (paramLen [63, 35, 64, 42] (l.drop i)), [], inQ w, []⟩ : Part), i + paramLen [63, 35, 64, 42] (l.drop i) + 1, (l.drop i).drop (paramLen [63, 35, 64, 42] (l.drop i) + 1)))
   else match opsL.find? (fun o => pre o ((l.drop i).drop (paramLen [63, 35, 64, 42] (l.drop i)))) with
   | none => some (.bad 19 fr)
   | some o => match parts f (if inQ w then 4 else 3) (deep + 1) [] [] (i + paramLen [63, 35, 64, 42] (l.drop i) + o.length) ((l.drop i).drop (paramLen [63, 35, 64, 42] (l.drop i) + o.length)) with
    | none => none
    | some (.bad a b) => some (.bad a b)
    | some (.ok (ws, i', r')) => if pre [125] r' then some (.ok (⟨2, (l.drop i).take (paramLen [63, 35, 64, 42] (l.drop i)), o, inQ w, ws⟩, i' + 1, r'.drop 1)) else some (.bad 19 fr)) = some res →
    wp (p89_5 (cF (n + 7)) (n + 7) (Pt p) (.int .i64 (fr : Int)) (.int .i64 (w : Int)) (.int .i64 (deep : Int)) (Pt h.next) (Pt h1.next) h3) (BracesQ h p l i tk wt res) := by
   intro t1 h3 k3 hx3 h83 h93 hs'
   refine br5 hl hf ih k3 hx3 hp (Nat.le_refl _) hi h83 h93 (Nat.le_refl _) (by omega) (by omega) hw (by omega) (by omega) ?_
   rw [← hs']
   simp only [List.drop_drop, Nat.add_assoc]
  rcases b2 (pre [35] (l.drop i)) with g2 | g2
  ·have hi2 := pre_i g2 hi
   simp only [List.length_cons, List.length_nil] at hi2
   have hx3 := mv_lx (l := l) hp2 (i + 1) tk wt
   have hpl := paramLen_le [63, 64, 42] (l.drop (i + 1))
   have hdl : (l.drop (i + 1)).length = l.length - (i + 1) := by simp
   simp only [g2, Bool.true_and, List.drop_drop] at hs
   rw [show i + (1 + paramLen [63, 64, 42] (l.drop (i + 1))) = i + 1 + paramLen [63, 64, 42] (l.drop (i + 1)) by omega, show i + (1 + paramLen [63, 64, 42] (l.drop (i + 1)) + 1) = i + 1 + paramLen [63, 64, 42] (l.drop (i + 1)) + 1 by omega] at hs
   have hx4 := mv_lx (l := l) hp2 (i + 1 + paramLen [63, 64, 42] (l.drop (i + 1))) tk wt
   have h84 : PtB (mv h2 p l (i + 1 + paramLen [63, 64, 42] (l.drop (i + 1))) tk wt) h.next 0 [] [] false (.slice none 0 0) := (blk_set_ne (by omega)).trans h82
   have h94 : (mv h2 p l (i + 1 + paramLen [63, 64, 42] (l.drop (i + 1))) tk wt).blk h1.next = some ⟨49, [.int .i64 2, .string (mkS []), .string (mkS []), .bool (inQ w), .slice none 0 0, .pointer none], true⟩ := (blk_set_ne (by omega)).trans h92
   have k4 : Kp p h (mv h2 p l (i + 1 + paramLen [63, 64, 42] (l.drop (i + 1))) tk wt) := k2.trans (Kp.set _ _ _)
   simp only [passed_yes (n + 3) hx2 [35] hi (by simp; omega) g2, List.length_cons, List.length_nil, p89_30, param_eq (n + 1) [63, 64, 42] hx3 hi2 (by omega) (by omega), put_lx, h94, SS, SU, Nat.reduceAdd, Nat.reduceLeDiff, Nat.reduceBEq, Nat.reduceMul]
   generalize hk : paramLen [63, 64, 42] (l.drop (i + 1)) = k at *
   simp only [mv] at hx4 h84 h94 k4
   generalize h2.set p (.cells (lxB l (i + 1 + k) tk wt)) = h4 at *
   have hx5 : LX (h4.set h1.next (.cells ⟨49, [.int .i64 2, .string (mkS ((l.drop (i + 1)).take k)), .string (mkS []), .bool (inQ w), .slice none 0 0, .pointer none], true⟩)) p l (i + 1 + k) tk wt := (blk_set_ne (by omega)).trans hx4
   have h85 : PtB (h4.set h1.next (.cells ⟨49, [.int .i64 2, .string (mkS ((l.drop (i + 1)).take k)), .string (mkS []), .bool (inQ w), .slice none 0 0, .pointer none], true⟩)) h.next 0 [] [] false (.slice none 0 0) := (blk_set_ne (by omega)).trans h84
   have h95 : (h4.set h1.next (.cells ⟨49, [.int .i64 2, .string (mkS ((l.drop (i + 1)).take k)), .string (mkS []), .bool (inQ w), .slice none 0 0, .pointer none], true⟩)).blk h1.next = some ⟨49, [.int .i64 2, .string (mkS ((l.drop (i + 1)).take k)), .string (mkS []), .bool (inQ w), .slice none 0 0, .pointer none], true⟩ := blk_set_eq (blk_lt' h94)
   have k5 := k4.new (show h.next ≤ h1.next by omega) (.cells ⟨49, [.int .i64 2, .string (mkS ((l.drop (i + 1)).take k)), .string (mkS []), .bool (inQ w), .slice none 0 0, .pointer none], true⟩)
   generalize (h4.set h1.next (.cells ⟨49, [.int .i64 2, .string (mkS ((l.drop (i + 1)).take k)), .string (mkS []), .bool (inQ w), .slice none 0 0, .pointer none], true⟩)) = h5 at *
   have hp5 : p < h5.next := blk_lt' hx5
   have hki : i + 1 + k ≤ l.length := by omega
   simp -implicitDefEqProofs only [h95, take_nil _ k hpl, SS, SU, Nat.reduceAdd, Nat.reduceLeDiff, Nat.reduceBEq, Nat.reduceMul]
   have hback : wp (p89_5 (cF (n + 7)) (n + 7) (Pt p) (.int .i64 (fr : Int)) (.int .i64 (w : Int)) (.int .i64 (deep : Int)) (Pt h.next) (Pt h1.next) (mv h5 p l i tk wt)) (BracesQ h p l i tk wt res) ∨ (k != 0 && pre [125] (l.drop (i + 1 + k))) = true := by
    rcases b2 (k != 0 && pre [125] (l.drop (i + 1 + k))) with g | g
    ·exact .inr g
    ·simp only [g, Bool.false_eq_true, if_false] at hs
     refine .inl (hrest (k5.trans (Kp.set _ _ _)) (mv_lx hp5 _ _ _) ((blk_set_ne (by omega)).trans h85) ((blk_set_ne (by omega)).trans h95) ?_)
     rw [← hs]
     simp only [List.drop_drop] <;> rfl
   rcases b2 (k == 0) with g3 | g3
   ·have hz : (k != 0) = false := by simp [bne, g3]
    rcases hback with hb | hb
    ·simp -implicitDefEqProofs only [g3, hx5, SS, SU, Nat.reduceAdd, Nat.reduceLeDiff, Nat.reduceBEq, Nat.reduceMul]
     exact hb
    ·rw [hz] at hb; cases hb
   ·have hz : (k != 0) = true := by simp [bne, g3]
    rcases b2 (pre [125] (l.drop (i + 1 + k))) with g4 | g4
    ·simp only [hz, g4, Bool.and_true, if_true] at hs
     injection hs with hs; subst hs
     have hi5 := pre_i g4 hki
     simp only [List.length_cons, List.length_nil] at hi5
     have hx6 := mv_lx (l := l) hp5 (i + 1 + k + 1) tk wt
     have h86 : PtB (mv h5 p l (i + 1 + k + 1) tk wt) h.next 0 [] [] false (.slice none 0 0) := (blk_set_ne (by omega)).trans h85
     have h96 : (mv h5 p l (i + 1 + k + 1) tk wt).blk h1.next = some ⟨49, [.int .i64 2, .string (mkS ((l.drop (i + 1)).take k)), .string (mkS []), .bool (inQ w), .slice none 0 0, .pointer none], true⟩ := (blk_set_ne (by omega)).trans h95
     have k6 : Kp p h (mv h5 p l (i + 1 + k + 1) tk wt) := k5.trans (Kp.set _ _ _)
     simp only [g3, passed_yes (n + 3) hx5 [125] hki (by simp; omega) g4, List.length_cons, List.length_nil, h96, SS, SU, Nat.reduceAdd, Nat.reduceLeDiff, Nat.reduceBEq, Nat.reduceMul]
     simp only [mv] at hx6 h86 h96 k6
     generalize h5.set p (.cells (lxB l (i + 1 + k + 1) tk wt)) = h6 at *
     have h97 : (h6.set h1.next (.cells ⟨49, [.int .i64 2, .string (mkS ((l.drop (i + 1)).take k)), .string (mkS [108, 101, 110]), .bool (inQ w), .slice none 0 0, .pointer none], true⟩)).blk h1.next = some ⟨49, [.int .i64 2, .string (mkS ((l.drop (i + 1)).take k)), .string (mkS [108, 101, 110]), .bool (inQ w), .slice none 0 0, .pointer none], true⟩ := blk_set_eq (blk_lt' h96)
     have h87 : PtB (h6.set h1.next (.cells ⟨49, [.int .i64 2, .string (mkS ((l.drop (i + 1)).take k)), .string (mkS [108, 101, 110]), .bool (inQ w), .slice none 0 0, .pointer none], true⟩)) h.next 0 [] [] false (.slice none 0 0) := (blk_set_ne (by omega)).trans h86
     simp -implicitDefEqProofs only [h97, h87, blk_set_eq (blk_lt' h87), SS, SU, Nat.reduceAdd, Nat.reduceLeDiff, Nat.reduceBEq, Nat.reduceMul]
     refine wp_some.2 ⟨_, rfl, ⟨_, rfl, .nil⟩, (blk_set_ne (by omega)).trans ((blk_set_ne (by omega)).trans hx6), hi5, ?_, by omega, (k6.new (by omega) _).new (Nat.le_refl _) _⟩
     rfl
    ·rcases hback with hb | hb
     ·simp only [g3, passed_no (n + 3) hx5 [125] hki g4, hx5, SS, SU, Nat.reduceAdd, Nat.reduceLeDiff, Nat.reduceBEq, Nat.reduceMul]
      exact hb
     ·rw [g4, Bool.and_false] at hb; cases hb
  ·simp only [g2, Bool.false_and, Bool.false_eq_true, if_false] at hs
   simp only [passed_no (n + 3) hx2 [35] hi g2, p89_30, SS, SU, Nat.reduceAdd, Nat.reduceLeDiff, Nat.reduceBEq, Nat.reduceMul]
   exact hrest k2 hx2 h82 h92 hs
end
end Go.Proofs.YteekjekckgpbfaaDoor.Abs
end
section
namespace Go.Proofs.YteekjekckgpbfaaDoor.Abs
open Sp
attribute [local congr] bindO_congr bindR_congr condV_congr wp_congr
section
variable {l : Bs} {p : Nat} {tk wt : Value}
theorem PartsQ.of {h : Heap} {i i' k k' : Nat} {res : Rz (List Part × Nat × Bs)} {r : Res} {h' : Heap} (hi : i ≤ i') (hk : k' ≤ k + (i' - i)) (q : PartsQ h p l i' tk wt k' res r h') : PartsQ h p l i tk wt k res r h' := by
 cases res with
 | bad c a => exact q
 | ok x =>
  obtain ⟨ps, j, r'⟩ := x
  obtain ⟨v, e, hv, hx, hj, hr, hij, hl, kk⟩ := q
  exact ⟨v, e, hv, hx, hj, hr, by omega, by omega, kk⟩
abbrev addV (bf bo : Nat) : Value := .func (.func 70) ⟨[]⟩ ⟨[Pt bf, Pt bo]⟩
def LoopOk (l : Bs) (p : Nat) (tk wt : Value) (f : Nat) : Prop := ∀ (h0 : Heap) (lo bo bt bi bf w deep : Nat) (X : List Nat) (out : List Part) (text : Bs) (i : Nat) (res : Rz (List Part × Nat × Bs)) (n N m : Nat) (h : Heap),
 parts f w deep out text i (l.drop i) = some res → i ≤ l.length → LX h p l i tk wt → PB h h0.next lo X bo bt bi bf w out text → p < h0.next → Kp p h0 h → w ≤ 4 → deep ≤ 20 → out.length + text.length ≤ i → f ≤ m → 6 * f + 5019 ≤ n →
 wp (l49_11 (cF n) N m (Pt p) (.int .i64 (w : Int)) (.int .i64 (deep : Int)) (Pt bo) (Pt bt) (Pt bi) (Pt bf) (addV bf bo) h) (PartsQ h0 p l i tk wt (out.length + text.length) res)
theorem flush_len (w : Nat) (out : List Part) (text : Bs) : (flush w out text).length ≤ out.length + text.length := by
 unfold flush
 cases text with
 | nil => simp
 | cons c t => simp
theorem callFlush {h : Heap} {base lo : Nat} {X : List Nat} {bo bt bi bf w : Nat} {out : List Part} {text : Bs} (k : PB h base lo X bo bt bi bf w out text) (n : Nat) (hmax : (out.length + 1) * 80 ≤ most) : ∃ h' X', callA E (cF (n + 1)) (.func (.func 69) ⟨[]⟩ ⟨[Pt bt, Pt bi, Pt bo]⟩) [] h = some (.ret (.tuple ⟨[]⟩), h') ∧ PB h' base lo X' bo bt bi bf w (Sp.flush w out text) [] ∧ Un base h h' := by
 obtain ⟨h', X', e, k', u, _⟩ := k.flush n hmax
 exact ⟨h', X', (callA_func _ _ _ _ _ _ _ (prim_none 69 _ _ rfl)).trans e, k', u⟩
theorem parts_end (hl : l.length ≤ 5000) {h h0 : Heap} {lo : Nat} {X : List Nat} {bo bt bi bf w : Nat} {out : List Part} {text : Bs} {i n N : Nat} (hx : LX h p l i tk wt) (hi : i ≤ l.length) (k : PB h h0.next lo X bo bt bi bf w out text) (hp : p < h0.next) (kp : Kp p h0 h) (hlen : out.length + text.length ≤ i) :
  wp (p49_7 (cF (n + 1)) N (Pt bo) (Pt bf) h) (PartsQ h0 p l i tk wt (out.length + text.length) (.ok (flush w out text, i, l.drop i))) := by
 obtain ⟨h', X', e, k', u⟩ := callFlush k n (by unfold most; omega)
 have hf := k.f
 obtain ⟨ov, ho, hov⟩ := k'.o
 simp -implicitDefEqProofs only [p49_7, hf, e, ho, SS, SU, Nat.reduceAdd, Nat.reduceLeDiff, Nat.reduceBEq, Nat.reduceMul]
 refine wp_some.2 ⟨ov, rfl, hov.rep.mono fun b k a e => ⟨?_, e⟩, PB.lx hx hp u, hi, rfl, Nat.le_refl _, ?_, ?_⟩
 ·have := k'.c1; have := k'.c2; have a' : lo ≤ b := a; show h0.next ≤ b; omega
 ·have := flush_len w out text; omega
 ·exact ⟨Nat.le_trans kp.1 u.1, fun b hb hn => (u.2 b hb).trans (kp.2 b hb hn)⟩
theorem kp_un {h0 h h' : Heap} (kp : Kp p h0 h) (u : Un h0.next h h') : Kp p h0 h' := ⟨Nat.le_trans kp.1 u.1, fun b hb hn => (u.2 b hb).trans (kp.2 b hb hn)⟩
theorem kp_un' {h0 h h' : Heap} (kp : Kp p h0 h) (h1 : h.next ≤ h'.next) (u : ∀ b, b < h0.next → b ≠ p → h'.blk b = h.blk b) : Kp p h0 h' := ⟨Nat.le_trans kp.1 h1, fun b hb hn => (u b hb hn).trans (kp.2 b hb hn)⟩
theorem bt_ne {h : Heap} {base lo : Nat} {X : List Nat} {bo bt bi bf w : Nat} {out : List Part} {text : Bs} (k : PB h base lo X bo bt bi bf w out text) (hp : p < base) : bo ≠ p ∧ bt ≠ p ∧ bi ≠ p ∧ bf ≠ p := by
 have := k.c1; omega
theorem parts_loop (hl : l.length ≤ 5000) {f : Nat} (hf : f < 100000000) (ih : LoopOk l p tk wt f) (ihp : PartsOk l p tk wt f) (ihd : DollarOk l p tk wt f) : LoopOk l p tk wt (f + 1) := by
 intro h0 lo bo bt bi bf w deep X out text i res n N m h hs hi hx k hp kp hw hd hlen hm hn
 obtain ⟨m, rfl⟩ : ∃ m', m = m' + 1 := ⟨m - 1, by omega⟩
 obtain ⟨n, rfl⟩ : ∃ n', n = n' + 8 := ⟨n - 8, by omega⟩
 have hp1 : p < h.next := blk_lt' hx
 have hne := bt_ne k hp
 have hbi := k.i
 have hbf := k.f
 have next : ∀ {X' : List Nat} {out' : List Part} {text' : Bs} {i' : Nat} {h' : Heap}, parts f w deep out' text' i' (l.drop i') = some res → i' ≤ l.length → LX h' p l i' tk wt → PB h' h0.next lo X' bo bt bi bf w out' text' → Kp p h0 h' → i < i' → out'.length + text'.length ≤ out.length + text.length + (i' - i) →
   wp (l49_11 (cF (n + 8)) N m (Pt p) (.int .i64 (w : Int)) (.int .i64 (deep : Int)) (Pt bo) (Pt bt) (Pt bi) (Pt bf) (addV bf bo) h') (PartsQ h0 p l i tk wt (out.length + text.length) res) := by
  intro X' out' text' i' h' hs' hi' hx' k' kp' hlt hle
  exact wp_mono (ih h0 lo bo bt bi bf w deep X' out' text' i' res (n + 8) N m h' hs' hi' hx' k' hp kp' hw hd (by omega) (by omega) (by omega)) fun r h'' q => PartsQ.of (by omega) hle q
 rcases b2 (decide (i < l.length)) with h1 | h1
 ·have hlt := of_decide_eq_true h1
  have hg := drop_get l i hlt
  have hdr := List.drop_eq_getElem_cons hlt
  rw [hdr] at hs
  generalize l[i] = c at hs hg hdr
  rw [parts_cons] at hs
  simp -implicitDefEqProofs only [l49_11, p49_12, more_eq (n + 7) hx, h1, hx, ix9 l i c hg, ends_eq (n + 5) w c, SS, SU, Nat.reduceAdd, Nat.reduceLeDiff, Nat.reduceBEq, Nat.reduceMul]
  rcases b2 (ends w c) with g0 | g0
  ·simp only [g0, if_true] at hs
   injection hs with hs; subst hs
   rw [← hdr]
   simp -implicitDefEqProofs only [g0, p49_15, SS, SU, Nat.reduceAdd, Nat.reduceLeDiff, Nat.reduceBEq, Nat.reduceMul]
   exact parts_end hl hx hi k hp kp hlen
  ·simp only [g0, Bool.false_eq_true, if_false, ← hdr] at hs
   simp -implicitDefEqProofs only [g0, p49_15, hx, ix9 l i c hg, SS, SU, Nat.reduceAdd, Nat.reduceLeDiff, Nat.reduceBEq, Nat.reduceMul]
   rcases b2 (pre [92, 10] (l.drop i)) with g1 | g1
   ·simp only [g1, if_true, List.drop_drop] at hs
    have hi2 := pre_i g1 hi
    simp only [List.length_cons, List.length_nil] at hi2
    simp only [passed_yes (n + 4) hx [92, 10] hi (by simp; omega) g1, List.length_cons, List.length_nil, SS, SU, Nat.reduceAdd, Nat.reduceLeDiff, Nat.reduceBEq, Nat.reduceMul]
    exact next hs hi2 (mv_lx hp1 _ _ _) (k.kp hp (Kp.set _ _ _)) (kp.trans (Kp.set _ _ _)) (by omega) (by omega)
   ·simp only [g1, Bool.false_eq_true, if_false] at hs
    have e92 : ((c.toNat : Int) == 92) = (c == 92) := u8_eqn c 92 (by decide)
    have e36 : ((c.toNat : Int) == 36) = (c == 36) := u8_eqn c 36 (by decide)
    have e96 : ((c.toNat : Int) == 96) = (c == 96) := u8_eqn c 96 (by decide)
    have e34 : ((c.toNat : Int) == 34) = (c == 34) := u8_eqn c 34 (by decide)
    have e39 : ((c.toNat : Int) == 39) = (c == 39) := u8_eqn c 39 (by decide)
    simp only [passed_no (n + 4) hx [92, 10] hi g1, e92, hbi, SS, SU, Nat.reduceAdd, Nat.reduceLeDiff, Nat.reduceBEq, Nat.reduceMul]
    rcases b2 (c == 92) with g2 | g2
    ·rcases b2 (inQ w) with g3 | g3
     ·simp only [g2, g3, Bool.and_true, if_true] at hs
      simp -implicitDefEqProofs only [g2, g3, SS, SU, Nat.reduceAdd, Nat.reduceLeDiff, Nat.reduceBEq, Nat.reduceMul]
      cases ht : l.drop (i + 1) with
      | nil =>
       simp only [ht] at hs
       injection hs with hs; subst hs
       have hle : i + 1 = l.length := by have := congrArg List.length ht; simp at this; omega
       simp -implicitDefEqProofs only [escape_no (n + 6) hx (by omega) hle, SS, SU, Nat.reduceAdd, Nat.reduceLeDiff, Nat.reduceBEq, Nat.reduceMul]
       exact wp_some.2 (Bad.of kp (fail_bad 0 19 i))
      | cons x t' =>
       simp only [ht] at hs
       have hlt2 : i + 1 < l.length := by have := congrArg List.length ht; simp at this; omega
       have hdr2 := List.drop_eq_getElem_cons hlt2
       have hgx := drop_get l (i + 1) hlt2
       rw [ht] at hdr2
       injection hdr2 with hxx htt
       rw [← hxx] at hgx
       rw [htt] at hs
       have ib : ∀ h : Heap, cF (n + 6 + 2) 73 [.string (mkS [36, 96, 92]), .int .u8 (x.toNat : Int)] h = some (.ret (.int .i64 (findI x [36, 96, 92])), h) := fun h => indexByte_eq (n + 6) _ x
       have e34x : ((x.toNat : Int) != 34) = (x != 34) := u8_nen x 34 (by decide)
       have ew2 : ((w : Int) == 2) = (w == 2) := n_eq w 2
       have hxm := mv_lx (l := l) hp1 (i + 2) tk wt
       have km : PB (mv h p l (i + 2) tk wt) h0.next lo X bo bt bi bf w out text := k.kp hp (Kp.set _ _ _)
       have kpm : Kp p h0 (mv h p l (i + 2) tk wt) := kp.trans (Kp.set _ _ _)
       simp -implicitDefEqProofs only [escape_yes (n + 6) hx (by omega) hlt2 x hgx, ib, find_lt0, e34x, ew2, SS, SU, Nat.reduceAdd, Nat.reduceLeDiff, Nat.reduceBEq, Nat.reduceMul]
       have one : ∀ {X1 : List Nat} {text1 : Bs} {h1 : Heap}, PB h1 h0.next lo X1 bo bt bi bf w out text1 → LX h1 p l (i + 2) tk wt → Kp p h0 h1 → text1.length ≤ text.length + 1 → text1 ++ [x] = text ++ esc w x →
         wp (p49_24 (cF (n + 8)) N (l49_11 (cF (n + 8)) N m) (Pt p) (.int .i64 (w : Int)) (.int .i64 (deep : Int)) (Pt bo) (Pt bt) (Pt bi) (Pt bf) (addV bf bo) (.int .u8 (x.toNat : Int)) h1) (PartsQ h0 p l i tk wt (out.length + text.length) res) := by
        intro X1 text1 h1 k1 hx1 kp1 hle he
        obtain ⟨tv, h2, a, n', c', X', e1, e2, e3, k2, u2⟩ := k1.byte x (by unfold most; omega)
        rw [he] at k2
        simp -implicitDefEqProofs only [p49_24, e1, bs79_1 (.int .u8 (x.toNat : Int)) h1 rfl, e2, e3, SS, SU, Nat.reduceAdd, Nat.reduceLeDiff, Nat.reduceBEq, Nat.reduceMul]
        refine next hs (by omega) (PB.lx hx1 hp u2) k2 (kp_un kp1 u2) (by omega) ?_
        rw [← he]; simp; omega
       have two : esc w x = [92, x] → wp (p49_26 (cF (n + 8)) N (l49_11 (cF (n + 8)) N m) (Pt p) (.int .i64 (w : Int)) (.int .i64 (deep : Int)) (Pt bo) (Pt bt) (Pt bi) (Pt bf) (addV bf bo) (.int .u8 (x.toNat : Int)) (.bool true) (mv h p l (i + 2) tk wt)) (PartsQ h0 p l i tk wt (out.length + text.length) res) := by
        intro he
        obtain ⟨tv, h2, a, n', c', X', e1, e2, e3, k2, u2⟩ := km.byte 92 (by unfold most; omega)
        have e2' : appendA E 79 tv (.slice (some ⟨(mv h p l (i + 2) tk wt).next, 0, none⟩) 1 1) ((mv h p l (i + 2) tk wt).alloc (.cells ⟨5, [.int .u8 92], true⟩)) = some (.slice a n' c', h2) := e2
        have e4 : buildSliceA E 79 1 [(0, .int .u8 92)] (mv h p l (i + 2) tk wt) = some (.slice (some ⟨(mv h p l (i + 2) tk wt).next, 0, none⟩) 1 1, (mv h p l (i + 2) tk wt).alloc (.cells ⟨5, [.int .u8 92], true⟩)) := bs79_1 _ _ rfl
        simp -implicitDefEqProofs only [p49_26, e1, e4, e2', e3, SS, SU, Nat.reduceAdd, Nat.reduceLeDiff, Nat.reduceBEq, Nat.reduceMul]
        refine one k2 (PB.lx hxm hp u2) (kp_un kpm u2) (by simp) ?_
        rw [he]; simp
       have no : esc w x = [x] → wp (p49_26 (cF (n + 8)) N (l49_11 (cF (n + 8)) N m) (Pt p) (.int .i64 (w : Int)) (.int .i64 (deep : Int)) (Pt bo) (Pt bt) (Pt bi) (Pt bf) (addV bf bo) (.int .u8 (x.toNat : Int)) (.bool false) (mv h p l (i + 2) tk wt)) (PartsQ h0 p l i tk wt (out.length + text.length) res) := by
        intro he
        simp -implicitDefEqProofs only [p49_26, SS, SU, Nat.reduceAdd, Nat.reduceLeDiff, Nat.reduceBEq, Nat.reduceMul]
        exact one km hxm kpm (by omega) (by rw [he])
       rcases b2 ([36, 96, 92].contains x) with q1 | q1
       ·simp -implicitDefEqProofs only [q1, SS, SU, Nat.reduceAdd, Nat.reduceLeDiff, Nat.reduceBEq, Nat.reduceMul]
        exact no (by simp only [esc, q1]; rfl)
       ·rcases b2 (x != 34) with q2 | q2
        ·simp -implicitDefEqProofs only [q1, e34x, q2, SS, SU, Nat.reduceAdd, Nat.reduceLeDiff, Nat.reduceBEq, Nat.reduceMul]
         exact two (by simp only [esc, q1, q2]; rfl)
        ·rcases b2 (w == 2) with q3 | q3
         ·simp -implicitDefEqProofs only [q1, e34x, q2, ew2, q3, SS, SU, Nat.reduceAdd, Nat.reduceLeDiff, Nat.reduceBEq, Nat.reduceMul]
          exact two (by simp only [esc, q1, q2, q3]; rfl)
         ·simp -implicitDefEqProofs only [q1, e34x, q2, ew2, q3, SS, SU, Nat.reduceAdd, Nat.reduceLeDiff, Nat.reduceBEq, Nat.reduceMul]
          exact no (by simp only [esc, q1, q2, q3]; rfl)
     ·simp only [g2, g3, Bool.and_false, Bool.false_eq_true, if_false, if_true] at hs
      simp -implicitDefEqProofs only [g2, g3, p49_28, SS, SU, Nat.reduceAdd, Nat.reduceLeDiff, Nat.reduceBEq, Nat.reduceMul]
      cases ht : l.drop (i + 1) with
      | nil =>
       simp only [ht] at hs
       injection hs with hs; subst hs
       have hle : i + 1 = l.length := by have := congrArg List.length ht; simp at this; omega
       simp -implicitDefEqProofs only [escape_no (n + 6) hx (by omega) hle, SS, SU, Nat.reduceAdd, Nat.reduceLeDiff, Nat.reduceBEq, Nat.reduceMul]
       exact wp_some.2 (Bad.of kp (fail_bad 0 19 i))
      | cons x t' =>
       simp only [ht] at hs
       have hlt2 : i + 1 < l.length := by have := congrArg List.length ht; simp at this; omega
       have hdr2 := List.drop_eq_getElem_cons hlt2
       have hgx := drop_get l (i + 1) hlt2
       rw [ht] at hdr2
       injection hdr2 with hxx htt
       rw [← hxx] at hgx
       rw [htt] at hs
       have hxm := mv_lx (l := l) hp1 (i + 2) tk wt
       have km : PB (mv h p l (i + 2) tk wt) h0.next lo X bo bt bi bf w out text := k.kp hp (Kp.set _ _ _)
       have kpm : Kp p h0 (mv h p l (i + 2) tk wt) := kp.trans (Kp.set _ _ _)
       simp -implicitDefEqProofs only [escape_yes (n + 6) hx (by omega) hlt2 x hgx, SS, SU, Nat.reduceAdd, Nat.reduceLeDiff, Nat.reduceBEq, Nat.reduceMul]
       generalize mv h p l (i + 2) tk wt = hm at hxm km kpm
       have hc3 := km.c3
       have c1 : convA E 79 9 (.slice (some ⟨hm.next, 0, none⟩) 1 1) (hm.alloc (.cells ⟨5, [.int .u8 (x.toNat : Int)], true⟩)) = some (.string (mkS [x]), hm.alloc (.cells ⟨5, [.int .u8 (x.toNat : Int)], true⟩)) :=
        TxtV.conv (h := hm.alloc (.cells ⟨5, [.int .u8 (x.toNat : Int)], true⟩)) (lo := 0) (X := [hm.next]) (text := [x]) (.inr ⟨hm.next, 1, rfl, rfl, by omega, blk_alloc_eq, by simp, by omega⟩)
       have e4 : buildSliceA E 79 1 [(0, .int .u8 (x.toNat : Int))] hm = some (.slice (some ⟨hm.next, 0, none⟩) 1 1, hm.alloc (.cells ⟨5, [.int .u8 (x.toNat : Int)], true⟩)) := bs79_1 _ _ rfl
       have e5 : ∀ h : Heap, buildSliceA E 37 1 [(0, .agg ⟨[.int .i64 1, .string (mkS [x]), .string (mkS []), .bool false, .slice none 0 0, .pointer none]⟩)] h = some (.slice (some ⟨h.next, 0, none⟩) 1 1, h.alloc (.cells ⟨49, [.int .i64 1, .string (mkS [x]), .string (mkS []), .bool false, .slice none 0 0, .pointer none], true⟩)) := fun h => bs37_1 _ h rfl
       have k5 : PB ((hm.alloc (.cells ⟨5, [.int .u8 (x.toNat : Int)], true⟩)).alloc (.cells ⟨49, [.int .i64 1, .string (mkS [x]), .string (mkS []), .bool false, .slice none 0 0, .pointer none], true⟩)) h0.next lo X bo bt bi bf w out text := (km.kp hp (Kp.alloc _ _ _)).kp hp (Kp.alloc _ _ _)
       have s5 : RepW ((hm.alloc (.cells ⟨5, [.int .u8 (x.toNat : Int)], true⟩)).alloc (.cells ⟨49, [.int .i64 1, .string (mkS [x]), .string (mkS []), .bool false, .slice none 0 0, .pointer none], true⟩)).blk (Al lo X) (.slice (some ⟨hm.next + 1, 0, none⟩) 1 1) [⟨1, [x], [], false, []⟩] :=
        .some _ _ 1 _ ⟨by omega, fun hm' => by have := km.c4 _ hm'; omega⟩ (blk_alloc_eq' rfl) (.cons 1 [x] [] false _ _ _ _ .nil .nil) rfl (by omega)
       obtain ⟨h6, X6, e6, k6, u6⟩ := k5.add (n + 6) s5 (by simp; unfold most; omega)
       have kp5 : Kp p h0 ((hm.alloc (.cells ⟨5, [.int .u8 (x.toNat : Int)], true⟩)).alloc (.cells ⟨49, [.int .i64 1, .string (mkS [x]), .string (mkS []), .bool false, .slice none 0 0, .pointer none], true⟩)) := (kpm.trans (Kp.alloc _ _ _)).trans (Kp.alloc _ _ _)
       have hx5 : LX ((hm.alloc (.cells ⟨5, [.int .u8 (x.toNat : Int)], true⟩)).alloc (.cells ⟨49, [.int .i64 1, .string (mkS [x]), .string (mkS []), .bool false, .slice none 0 0, .pointer none], true⟩)) p l (i + 2) tk wt := alloc_lx (alloc_lx hxm _) _
       have hnx : (hm.alloc (.cells ⟨5, [.int .u8 (x.toNat : Int)], true⟩)).next = hm.next + 1 := rfl
       simp -implicitDefEqProofs only [e4, c1, e5, hnx, e6, SS, SU, Nat.reduceAdd, Nat.reduceLeDiff, Nat.reduceBEq, Nat.reduceMul]
       have hfl := flush_len w out text
       exact next hs (by omega) (PB.lx hx5 hp u6) k6 (kp_un kp5 u6) (by omega) (by simp; omega)
    ·simp only [g2, Bool.false_and, Bool.false_eq_true, if_false] at hs
     simp -implicitDefEqProofs only [g2, p49_28, e36, SS, SU, Nat.reduceAdd, Nat.reduceLeDiff, Nat.reduceBEq, Nat.reduceMul]
     rcases b2 (c == 36) with g3 | g3
     ·simp only [g3, if_true] at hs
      simp -implicitDefEqProofs only [g3, SS, SU, Nat.reduceAdd, Nat.reduceLeDiff, Nat.reduceBEq, Nat.reduceMul]
      cases hdl : dollar f w deep i (l.drop i) with
      | none => simp [hdl] at hs
      | some rd =>
       have hcall := ihd w deep i rd (n + 8) h hdl hlt hx hw hd (by omega)
       refine wp_bindR hcall ?_ ?_
       ·intro v h2 q
        cases rd with
        | bad a b => obtain ⟨_, b, e, _⟩ := q; cases e
        | ok y =>
         obtain ⟨y, j, r'⟩ := y
         cases y with
         | none =>
          obtain ⟨e, hx2, hj, rfl, hij, kk⟩ := q
          injection e with e; subst e
          simp only [hdl] at hs
          have k2 := k.kp hp kk
          have hc : c = 36 := by simpa using g3
          subst hc
          have hset : ∀ cs cs', (h2.alloc (.cells ⟨49, cs, true⟩)).set h2.next (.cells ⟨49, cs', true⟩) = h2.alloc (.cells ⟨49, cs', true⟩) := by
           intro cs cs'
           exact put_lx ⟨h2.m, h2.next + 1⟩ h2.next (.cells ⟨49, cs, true⟩) (.cells ⟨49, cs', true⟩)
          have hal : ∀ cs, (h2.alloc (.cells ⟨49, cs, true⟩)).blk h2.next = some ⟨49, cs, true⟩ := fun cs => blk_alloc_eq
          have k3 : PB (h2.alloc (.cells ⟨49, [.int .i64 0, .string (mkS []), .string (mkS []), .bool false, .slice none 0 0, .pointer none], true⟩)) h0.next lo X bo bt bi bf w out text := k2.kp hp (Kp.alloc _ _ _)
          have hx3 := alloc_lx hx2 (.cells ⟨49, [.int .i64 0, .string (mkS []), .string (mkS []), .bool false, .slice none 0 0, .pointer none], true⟩)
          have kp3 : Kp p h0 (h2.alloc (.cells ⟨49, [.int .i64 0, .string (mkS []), .string (mkS []), .bool false, .slice none 0 0, .pointer none], true⟩)) := (kp.trans kk).trans (Kp.alloc _ _ _)
          simp -implicitDefEqProofs only [hal, hset, SS, SU, Nat.reduceAdd, Nat.reduceLeDiff, Nat.reduceBEq, Nat.reduceMul]
          generalize (h2.alloc (.cells ⟨49, [.int .i64 0, .string (mkS []), .string (mkS []), .bool false, .slice none 0 0, .pointer none], true⟩)) = h3 at *
          obtain ⟨tv, h4, a, n', c', X', e1, e2, e3, k4, u4⟩ := k3.byte 36 (by unfold most; omega)
          simp -implicitDefEqProofs only [e1, bs79_1 (.int .u8 ((36 : UInt8).toNat : Int)) h3 rfl, e2, e3, SS, SU, Nat.reduceAdd, Nat.reduceLeDiff, Nat.reduceBEq, Nat.reduceMul]
          exact next hs hj (PB.lx hx3 hp u4) k4 (kp_un kp3 u4) hij (by simp; omega)
         | some y =>
          obtain ⟨pv, e, hpv, hx2, hj, rfl, hij, kk⟩ := q
          injection e with e; subst e
          simp only [hdl] at hs
          have k2 := k.kp hp kk
          obtain ⟨yk, yt, yo, yq, yw⟩ := y
          obtain ⟨wv, rfl, hwv⟩ := hpv
          obtain ⟨wa, wn, wc, rfl⟩ := hwv.one
          have hset : ∀ cs cs', (h2.alloc (.cells ⟨49, cs, true⟩)).set h2.next (.cells ⟨49, cs', true⟩) = h2.alloc (.cells ⟨49, cs', true⟩) := by
           intro cs cs'
           exact put_lx ⟨h2.m, h2.next + 1⟩ h2.next (.cells ⟨49, cs, true⟩) (.cells ⟨49, cs', true⟩)
          have hal : ∀ cs, (h2.alloc (.cells ⟨49, cs, true⟩)).blk h2.next = some ⟨49, cs, true⟩ := fun cs => blk_alloc_eq
          have e5 : ∀ h : Heap, buildSliceA E 37 1 [(0, .agg ⟨[.int .i64 (yk : Int), .string (mkS yt), .string (mkS yo), .bool yq, .slice wa wn wc, .pointer none]⟩)] h = some (.slice (some ⟨h.next, 0, none⟩) 1 1, h.alloc (.cells ⟨49, [.int .i64 (yk : Int), .string (mkS yt), .string (mkS yo), .bool yq, .slice wa wn wc, .pointer none], true⟩)) := fun h => bs37_1 _ h rfl
          have k5 : PB ((h2.alloc (.cells ⟨49, [.int .i64 (yk : Int), .string (mkS yt), .string (mkS yo), .bool yq, .slice wa wn wc, .pointer none], true⟩)).alloc (.cells ⟨49, [.int .i64 (yk : Int), .string (mkS yt), .string (mkS yo), .bool yq, .slice wa wn wc, .pointer none], true⟩)) h0.next lo X bo bt bi bf w out text := (k2.kp hp (Kp.alloc _ _ _)).kp hp (Kp.alloc _ _ _)
          have hc3 := k2.c3
          have hn2 : h.next ≤ h2.next := kk.1
          have hX : ∀ b, h.next ≤ b → b ∉ X := fun b hb hm => by have := k.c4 b hm; omega
          have s5 : RepW ((h2.alloc (.cells ⟨49, [.int .i64 (yk : Int), .string (mkS yt), .string (mkS yo), .bool yq, .slice wa wn wc, .pointer none], true⟩)).alloc (.cells ⟨49, [.int .i64 (yk : Int), .string (mkS yt), .string (mkS yo), .bool yq, .slice wa wn wc, .pointer none], true⟩)).blk (Al lo X) (.slice (some ⟨h2.next + 1, 0, none⟩) 1 1) [⟨yk, yt, yo, yq, yw⟩] := by
           refine .some _ _ 1 _ ⟨by omega, hX _ (by omega)⟩ (blk_alloc_eq' rfl) (.cons yk yt yo yq _ _ _ _ (hwv.mono fun b k' a e => ?_) .nil) rfl (by omega)
           have a' : h.next ≤ b := a
           have hb := Heap.blk_lt e
           have := k.c3
           exact ⟨⟨by omega, hX b a'⟩, (blk_alloc_lt (by rw [next_alloc]; omega)).trans ((blk_alloc_lt hb).trans e)⟩
          obtain ⟨h6, X6, e6, k6, u6⟩ := k5.add (n + 6) s5 (by simp; unfold most; omega)
          have kp5 : Kp p h0 ((h2.alloc (.cells ⟨49, [.int .i64 (yk : Int), .string (mkS yt), .string (mkS yo), .bool yq, .slice wa wn wc, .pointer none], true⟩)).alloc (.cells ⟨49, [.int .i64 (yk : Int), .string (mkS yt), .string (mkS yo), .bool yq, .slice wa wn wc, .pointer none], true⟩)) := ((kp.trans kk).trans (Kp.alloc _ _ _)).trans (Kp.alloc _ _ _)
          have hx5 : LX ((h2.alloc (.cells ⟨49, [.int .i64 (yk : Int), .string (mkS yt), .string (mkS yo), .bool yq, .slice wa wn wc, .pointer none], true⟩)).alloc (.cells ⟨49, [.int .i64 (yk : Int), .string (mkS yt), .string (mkS yo), .bool yq, .slice wa wn wc, .pointer none], true⟩)) p l j tk wt := alloc_lx (alloc_lx hx2 _) _
          have hnx : (h2.alloc (.cells ⟨49, [.int .i64 (yk : Int), .string (mkS yt), .string (mkS yo), .bool yq, .slice wa wn wc, .pointer none], true⟩)).next = h2.next + 1 := rfl
          simp -implicitDefEqProofs only [hal, hset, e5, hnx, e6, SS, SU, Nat.reduceAdd, Nat.reduceLeDiff, Nat.reduceBEq, Nat.reduceMul]
          have hfl := flush_len w out text
          exact next hs hj (PB.lx hx5 hp u6) k6 (kp_un kp5 u6) hij (by simp; omega)
       ·intro v h2 q
        cases rd with
        | ok y =>
         obtain ⟨y, j, r'⟩ := y
         cases y with
         | none => obtain ⟨e, _⟩ := q; cases e
         | some y => obtain ⟨pv, e, _⟩ := q; cases e
        | bad a b =>
         simp only [hdl] at hs
         injection hs with hs; subst hs
         exact wp_some.2 (Bad.of kp q)
     ·simp only [g3, Bool.false_eq_true, if_false] at hs
      have ew4 : ((w : Int) == 4) = (w == 4) := n_eq w 4
      have hi1 : i + 1 ≤ l.length := by omega
      have hbad : res = .bad 19 i → wp (p49_35 (cF (n + 8)) N (l49_11 (cF (n + 8)) N m) (Pt p) (.int .i64 (w : Int)) (.int .i64 (deep : Int)) (Pt bo) (Pt bt) (Pt bi) (Pt bf) (addV bf bo) (.int .i64 (i : Int)) (.int .u8 (c.toNat : Int)) (.bool true) h) (PartsQ h0 p l i tk wt (out.length + text.length) res) := by
       rintro rfl
       simp -implicitDefEqProofs only [p49_35, fail_19, SS, SU, Nat.reduceAdd, Nat.reduceLeDiff, Nat.reduceBEq, Nat.reduceMul]
       exact wp_some.2 (Bad.of kp (fail_bad 0 19 i))
      have hrest : (c == 96 || (c == 34 && w == 4)) = false → wp (p49_35 (cF (n + 8)) N (l49_11 (cF (n + 8)) N m) (Pt p) (.int .i64 (w : Int)) (.int .i64 (deep : Int)) (Pt bo) (Pt bt) (Pt bi) (Pt bf) (addV bf bo) (.int .i64 (i : Int)) (.int .u8 (c.toNat : Int)) (.bool false) h) (PartsQ h0 p l i tk wt (out.length + text.length) res) := by
       intro g4
       simp only [g4, Bool.false_eq_true, if_false] at hs
       have hplain : (c == 39 && !inQ w) = false → (c == 34 && !inQ w) = false → ∃ tv h2 a n' c', h.blk bt = some ⟨79, [tv], true⟩ ∧ appendA E 79 tv (.slice (some ⟨h.next, 0, none⟩) 1 1) (h.alloc (.cells ⟨5, [.int .u8 (c.toNat : Int)], true⟩)) = some (.slice a n' c', h2) ∧ h2.blk bt = some ⟨79, [tv], true⟩ ∧
         wp (p49_56 (cF (n + 8)) N (l49_11 (cF (n + 8)) N m) (Pt p) (.int .i64 (w : Int)) (.int .i64 (deep : Int)) (Pt bo) (Pt bt) (Pt bi) (Pt bf) (addV bf bo) (h2.set bt (.cells ⟨79, [.slice a n' c'], true⟩))) (PartsQ h0 p l i tk wt (out.length + text.length) res) := by
        intro q1 q2
        simp only [q1, q2, Bool.false_eq_true, if_false] at hs
        obtain ⟨tv, h2, a, n', c', X', e1, e2, e3, k2, u2⟩ := k.byte c (by unfold most; omega)
        refine ⟨tv, h2, a, n', c', e1, e2, e3, ?_⟩
        have hx2 := PB.lx hx hp u2
        have kp2 := kp_un kp u2
        generalize h2.set bt (.cells ⟨79, [.slice a n' c'], true⟩) = h3 at *
        simp -implicitDefEqProofs only [p49_56, hx2, wrap_nat (i + 1) (by omega), SS, SU, Nat.reduceAdd, Nat.reduceLeDiff, Nat.reduceBEq, Nat.reduceMul]
        exact next hs hi1 (mv_lx (blk_lt' hx2) _ _ _) (k2.kp hp (Kp.set _ _ _)) (kp2.trans (Kp.set _ _ _)) (by omega) (by simp; omega)
       rcases b2 (c == 39) with q1 | q1
       ·have q34 : (c == 34) = false := by simp at q1 ⊢; subst q1; decide
        rcases b2 (inQ w) with g5 | g5
        ·obtain ⟨tv, h2, a, n', c', e1, e2, e3, hw56⟩ := hplain (by rw [g5, Bool.not_true, Bool.and_false]) (by rw [g5, Bool.not_true, Bool.and_false])
         simp -implicitDefEqProofs only [p49_35, e39, e34, q1, q34, hbi, g5, e1, bs79_1 (.int .u8 (c.toNat : Int)) h rfl, e2, e3, SS, SU, Nat.reduceAdd, Nat.reduceLeDiff, Nat.reduceBEq, Nat.reduceMul]
         exact hw56
        ·simp only [q1, g5, Bool.not_false, Bool.and_true, if_true, List.drop_drop] at hs
         simp -implicitDefEqProofs only [p49_35, e39, q1, hbi, g5, hx, wrap_nat (i + 1) (by omega), sl9_lo l (i + 1) h hi1, ib39 (n + 6), SS, SU, Nat.reduceAdd, Nat.reduceLeDiff, Nat.reduceBEq, Nat.reduceMul]
         cases hfd : find 39 (l.drop (i + 1)) with
         | none =>
          simp only [hfd] at hs
          injection hs with hs; subst hs
          have hneg : findI 39 (l.drop (i + 1)) = -1 := by simp [findI, hfd]
          have hb : decide ((-1 : Int) < 0) = true := rfl
          simp -implicitDefEqProofs only [hneg, hb, fail_19, SS, SU, Nat.reduceAdd, Nat.reduceLeDiff, Nat.reduceBEq, Nat.reduceMul]
          exact wp_some.2 (Bad.of kp (fail_bad 0 19 i))
         | some k0 =>
          simp only [hfd] at hs
          have hk0 := find_some hfd
          simp only [List.length_drop] at hk0
          have hpos : findI 39 (l.drop (i + 1)) = (k0 : Int) := by simp [findI, hfd]
          rw [show i + 1 + (k0 + 1) = i + k0 + 2 by omega] at hs
          have hsv := sl9_lh l (i + 1) (i + 1 + k0) h (by omega) (by omega)
          rw [show i + 1 + k0 - (i + 1) = k0 by omega] at hsv
          have e5 : ∀ h : Heap, buildSliceA E 37 1 [(0, .agg ⟨[.int .i64 1, .string (mkS ((l.drop (i + 1)).take k0)), .string (mkS []), .bool false, .slice none 0 0, .pointer none]⟩)] h = some (.slice (some ⟨h.next, 0, none⟩) 1 1, h.alloc (.cells ⟨49, [.int .i64 1, .string (mkS ((l.drop (i + 1)).take k0)), .string (mkS []), .bool false, .slice none 0 0, .pointer none], true⟩)) := fun h => bs37_1 _ h rfl
          have k5 : PB (h.alloc (.cells ⟨49, [.int .i64 1, .string (mkS ((l.drop (i + 1)).take k0)), .string (mkS []), .bool false, .slice none 0 0, .pointer none], true⟩)) h0.next lo X bo bt bi bf w out text := k.kp hp (Kp.alloc _ _ _)
          have s5 : RepW (h.alloc (.cells ⟨49, [.int .i64 1, .string (mkS ((l.drop (i + 1)).take k0)), .string (mkS []), .bool false, .slice none 0 0, .pointer none], true⟩)).blk (Al lo X) (.slice (some ⟨h.next, 0, none⟩) 1 1) [⟨1, (l.drop (i + 1)).take k0, [], false, []⟩] :=
           .some _ _ 1 _ ⟨k.c3, fun hm' => by have := k.c4 _ hm'; omega⟩ blk_alloc_eq (.cons 1 _ [] false _ _ _ _ .nil .nil) rfl (by omega)
          obtain ⟨h6, X6, e6, k6, u6⟩ := k5.add (n + 6) s5 (by simp; unfold most; omega)
          have kp6 := kp_un (kp.trans (Kp.alloc p h _)) u6
          have hx6 := PB.lx (alloc_lx hx _) hp u6
          simp -implicitDefEqProofs only [hpos, p49_40, hx, wrap_nat (i + 1) (by omega), wrap_nat (i + 1 + k0) (by omega), hsv, e5, e6, hx6, wrap_nat (k0 + 2) (by omega), wrap_nat (i + (k0 + 2)) (by omega), SS, SU, Nat.reduceAdd, Nat.reduceLeDiff, Nat.reduceBEq, Nat.reduceMul]
          have hfl := flush_len w out text
          rw [show i + (k0 + 2) = i + k0 + 2 by omega]
          exact next hs (by omega) (mv_lx (blk_lt' hx6) _ _ _) (k6.kp hp (Kp.set _ _ _)) (kp6.trans (Kp.set _ _ _)) (by omega) (by simp; omega)
       ·have q1' : (c == 39 && !inQ w) = false := by rw [q1, Bool.false_and]
        rcases b2 (c == 34) with q2 | q2
        ·rcases b2 (inQ w) with g5 | g5
         ·obtain ⟨tv, h2, a, n', c', e1, e2, e3, hw56⟩ := hplain q1' (by rw [g5, Bool.not_true, Bool.and_false])
          simp -implicitDefEqProofs only [p49_35, e39, e34, q1, q2, hbi, g5, e1, bs79_1 (.int .u8 (c.toNat : Int)) h rfl, e2, e3, SS, SU, Nat.reduceAdd, Nat.reduceLeDiff, Nat.reduceBEq, Nat.reduceMul]
          exact hw56
         ·simp only [q1, q2, g5, Bool.not_false, Bool.and_true, Bool.false_eq_true, if_false, if_true] at hs
          simp -implicitDefEqProofs only [p49_35, e39, e34, q1, q2, hbi, g5, hx, wrap_nat (i + 1) (by omega), p49_47, SS, SU, Nat.reduceAdd, Nat.reduceLeDiff, Nat.reduceBEq, Nat.reduceMul]
          have hx1 := mv_lx (l := l) hp1 (i + 1) tk wt
          have k1 : PB (mv h p l (i + 1) tk wt) h0.next lo X bo bt bi bf w out text := k.kp hp (Kp.set _ _ _)
          have kp1 : Kp p h0 (mv h p l (i + 1) tk wt) := kp.trans (Kp.set _ _ _)
          have hn1 : (mv h p l (i + 1) tk wt).next = h.next := rfl
          simp only [mv] at hx1 k1 kp1 hn1
          generalize h.set p (.cells (lxB l (i + 1) tk wt)) = h1 at *
          cases hin : parts f 1 deep [] [] (i + 1) (l.drop (i + 1)) with
          | none => rw [hin] at hs; cases hs
          | some rp =>
           have hcall := ihp 1 deep (i + 1) rp (n + 8) h1 hin hi1 hx1 (by omega) hd (by omega)
           have ec1 : ((1 : Nat) : Int) = 1 := rfl
           rw [ec1] at hcall
           refine wp_bindR hcall ?_ ?_
           ·intro v h2 q
            cases rp with
            | bad a b => obtain ⟨_, b, e, _⟩ := q; cases e
            | ok y =>
             obtain ⟨ps, j, r'⟩ := y
             obtain ⟨pv, e, hpv, hx2, hj, rfl, hij, hpl, kk⟩ := q
             injection e with e; subst e
             simp only [hin] at hs
             have k2 := k1.kp hp kk
             have kp2 := kp1.trans kk
             have hp2 : p < h2.next := blk_lt' hx2
             have hn2 : h1.next ≤ h2.next := kk.1
             rcases b2 (pre [34] (l.drop j)) with g6 | g6
             ·simp only [g6, if_true, List.drop_drop] at hs
              have hj2 := pre_i g6 hj
              simp only [List.length_cons, List.length_nil] at hj2
              have hx3 := mv_lx (l := l) hp2 (j + 1) tk wt
              have k3 : PB (mv h2 p l (j + 1) tk wt) h0.next lo X bo bt bi bf w out text := k2.kp hp (Kp.set _ _ _)
              have kp3 : Kp p h0 (mv h2 p l (j + 1) tk wt) := kp2.trans (Kp.set _ _ _)
              have hpv3 : RepW (mv h2 p l (j + 1) tk wt).blk (h1.next ≤ ·) v ps := hpv.mono fun b k' a e => ⟨a, (blk_set_ne (by have a' : h1.next ≤ b := a; omega)).trans e⟩
              have hn3 : (mv h2 p l (j + 1) tk wt).next = h2.next := rfl
              simp only [passed_yes (n + 4) hx2 [34] hj (by simp; omega) g6, List.length_cons, List.length_nil, p49_49, SS, SU, Nat.reduceAdd, Nat.reduceLeDiff, Nat.reduceBEq, Nat.reduceMul]
              simp only [mv] at hx3 k3 kp3 hpv3 hn3
              generalize h2.set p (.cells (lxB l (j + 1) tk wt)) = h3 at *
              have hX : ∀ b, h1.next ≤ b → b ∉ X := fun b hb hm => by have := k.c4 b hm; omega
              cases hpv3 with
              | nil =>
               simp only [List.isEmpty_nil, if_true] at hs
               have e5 : ∀ h : Heap, buildSliceA E 37 1 [(0, .agg ⟨[.int .i64 1, .string (mkS []), .string (mkS []), .bool true, .slice none 0 0, .pointer none]⟩)] h = some (.slice (some ⟨h.next, 0, none⟩) 1 1, h.alloc (.cells ⟨49, [.int .i64 1, .string (mkS []), .string (mkS []), .bool true, .slice none 0 0, .pointer none], true⟩)) := fun h => bs37_1 _ h rfl
               have k5 : PB (h3.alloc (.cells ⟨49, [.int .i64 1, .string (mkS []), .string (mkS []), .bool true, .slice none 0 0, .pointer none], true⟩)) h0.next lo X bo bt bi bf w out text := k3.kp hp (Kp.alloc _ _ _)
               have s5 : RepW (h3.alloc (.cells ⟨49, [.int .i64 1, .string (mkS []), .string (mkS []), .bool true, .slice none 0 0, .pointer none], true⟩)).blk (Al lo X) (.slice (some ⟨h3.next, 0, none⟩) 1 1) [⟨1, [], [], true, []⟩] :=
                .some _ _ 1 _ ⟨k3.c3, fun hm' => by have := k3.c4 _ hm'; omega⟩ blk_alloc_eq (.cons 1 [] [] true _ _ _ _ .nil .nil) rfl (by omega)
               obtain ⟨h6, X6, e6, k6, u6⟩ := k5.add (n + 6) s5 (by simp; unfold most; omega)
               have kp6 := kp_un (kp3.trans (Kp.alloc p h3 _)) u6
               have hx6 := PB.lx (alloc_lx hx3 _) hp u6
               simp -implicitDefEqProofs only [p49_50, e5, e6, SS, SU, Nat.reduceAdd, Nat.reduceLeDiff, Nat.reduceBEq, Nat.reduceMul]
               have hfl := flush_len w out text
               exact next hs hj2 hx6 k6 kp6 (by omega) (by simp; omega)
              | some sb cs m' _ ha hb hl' hm' hm0 =>
               have hne' : ps.isEmpty = false := by cases ps with | nil => simp at hm'; omega | cons => rfl
               have hz : (m' == 0) = false := by simp; omega
               simp only [hne', Bool.false_eq_true, if_false] at hs
               have s5 : RepW h3.blk (Al lo X) (.slice (some ⟨sb, 0, none⟩) m' m') ps := by
                have := k.c3
                refine .some sb cs m' ps ⟨by have a' : h1.next ≤ sb := ha; omega, hX sb ha⟩ hb (hl'.mono fun b k' a e => ⟨⟨by have a' : h1.next ≤ b := a; omega, hX b a⟩, e⟩) hm' hm0
               obtain ⟨h6, X6, e6, k6, u6⟩ := k3.add (n + 6) s5 (by unfold most; omega)
               have kp6 := kp_un kp3 u6
               have hx6 := PB.lx hx3 hp u6
               simp -implicitDefEqProofs only [p49_50, hz, e6, SS, SU, Nat.reduceAdd, Nat.reduceLeDiff, Nat.reduceBEq, Nat.reduceMul]
               have hfl := flush_len w out text
               exact next hs hj2 hx6 k6 kp6 (by omega) (by simp; omega)
             ·simp only [g6, Bool.false_eq_true, if_false] at hs
              injection hs with hs; subst hs
              simp only [passed_no (n + 4) hx2 [34] hj g6, fail_19, SS, SU, Nat.reduceAdd, Nat.reduceLeDiff, Nat.reduceBEq, Nat.reduceMul]
              exact wp_some.2 (Bad.of kp2 (fail_bad 0 19 i))
           ·intro v h2 q
            cases rp with
            | ok y => obtain ⟨ps, j, r'⟩ := y; obtain ⟨pv, e, _⟩ := q; cases e
            | bad a b =>
             simp only [hin] at hs
             injection hs with hs; subst hs
             exact wp_some.2 (Bad.of kp1 q)
        ·obtain ⟨tv, h2, a, n', c', e1, e2, e3, hw56⟩ := hplain q1' (by rw [q2, Bool.false_and])
         simp -implicitDefEqProofs only [p49_35, e39, e34, q1, q2, e1, bs79_1 (.int .u8 (c.toNat : Int)) h rfl, e2, e3, SS, SU, Nat.reduceAdd, Nat.reduceLeDiff, Nat.reduceBEq, Nat.reduceMul]
         exact hw56
      simp -implicitDefEqProofs only [g3, e96, SS, SU, Nat.reduceAdd, Nat.reduceLeDiff, Nat.reduceBEq, Nat.reduceMul]
      rcases b2 (c == 96) with q1 | q1
      ·simp -implicitDefEqProofs only [q1, SS, SU, Nat.reduceAdd, Nat.reduceLeDiff, Nat.reduceBEq, Nat.reduceMul]
       refine hbad ?_
       simp only [q1, Bool.true_or, if_true] at hs
       injection hs with hs; exact hs.symm
      ·rcases b2 (c == 34) with q2 | q2
       ·rcases b2 (w == 4) with q3 | q3
        ·simp -implicitDefEqProofs only [q1, e34, q2, ew4, q3, SS, SU, Nat.reduceAdd, Nat.reduceLeDiff, Nat.reduceBEq, Nat.reduceMul]
         refine hbad ?_
         simp only [q1, q2, q3, Bool.and_true, Bool.false_or, if_true] at hs
         injection hs with hs; exact hs.symm
        ·simp -implicitDefEqProofs only [q1, e34, q2, ew4, q3, SS, SU, Nat.reduceAdd, Nat.reduceLeDiff, Nat.reduceBEq, Nat.reduceMul]
         exact hrest (by simp only [q1, q2, q3]; rfl)
       ·simp -implicitDefEqProofs only [q1, e34, q2, SS, SU, Nat.reduceAdd, Nat.reduceLeDiff, Nat.reduceBEq, Nat.reduceMul]
        exact hrest (by simp only [q1, q2]; rfl)
 ·have hge := of_decide_eq_false h1
  have hd0 : l.drop i = [] := List.drop_of_length_le (by omega)
  rw [hd0] at hs
  simp only [parts] at hs
  injection hs with hs; subst hs
  have := parts_end (n := n + 7) (N := N) hl hx hi k hp kp hlen
  rw [hd0] at this
  simp -implicitDefEqProofs only [l49_11, p49_12, more_eq (n + 7) hx, h1, p49_15, SS, SU, Nat.reduceAdd, Nat.reduceLeDiff, Nat.reduceBEq, Nat.reduceMul]
  exact this
end
end Go.Proofs.YteekjekckgpbfaaDoor.Abs
end
section
namespace Go.Proofs.YteekjekckgpbfaaDoor.Abs
open Sp
attribute [local congr] bindO_congr bindR_congr condV_congr wp_congr
section
variable {l : Bs} {p : Nat} {tk wt : Value}
theorem parts_call (hl : l.length ≤ 5000) {f : Nat} (hf : f < 100000000) (ih : LoopOk l p tk wt f) : PartsOk l p tk wt f := by
 intro w deep i res n h hs hi hx hw hd hn
 obtain ⟨n, rfl⟩ : ∃ n', n = n' + 2 := ⟨n - 2, by omega⟩
 have hp : p < h.next := blk_lt' hx
 rw [c49]
 have a1 : ∀ h : Heap, (h.alloc (.cells ⟨4, [.bool false], true⟩)).blk h.next = some ⟨4, [.bool false], true⟩ := fun h => blk_alloc_eq
 have a2 : ∀ h : Heap, (h.alloc (.cells ⟨1, [.nilFunc], true⟩)).blk h.next = some ⟨1, [.nilFunc], true⟩ := fun h => blk_alloc_eq
 have hset : ∀ (h : Heap) (b b' : Blk), (h.alloc (.cells b)).set h.next (.cells b') = h.alloc (.cells b') := by
  intro h b b'
  exact put_lx ⟨h.m, h.next + 1⟩ h.next (.cells b) (.cells b')
 have kA : Kp p h (h.alloc (.cells ⟨37, [.slice none 0 0], true⟩)) := Kp.alloc _ _ _
 have xA := alloc_lx hx (.cells ⟨37, [.slice none 0 0], true⟩)
 have bA : (h.alloc (.cells ⟨37, [.slice none 0 0], true⟩)).blk h.next = some ⟨37, [.slice none 0 0], true⟩ := blk_alloc_eq
 have nA : (h.alloc (.cells ⟨37, [.slice none 0 0], true⟩)).next = h.next + 1 := rfl
 simp -implicitDefEqProofs only [f49, p49_0, quoted_eq n w, a1, hset, a2, SS, SU, Nat.reduceAdd, Nat.reduceLeDiff, Nat.reduceBEq, Nat.reduceMul]
 generalize h.alloc (.cells ⟨37, [.slice none 0 0], true⟩) = hA at *
 have kB : Kp p h (hA.alloc (.cells ⟨79, [.slice none 0 0], true⟩)) := kA.trans (Kp.alloc _ _ _)
 have xB := alloc_lx xA (.cells ⟨79, [.slice none 0 0], true⟩)
 have bB : (hA.alloc (.cells ⟨79, [.slice none 0 0], true⟩)).blk h.next = some ⟨37, [.slice none 0 0], true⟩ := (blk_alloc_lt (by omega)).trans bA
 have tB : (hA.alloc (.cells ⟨79, [.slice none 0 0], true⟩)).blk hA.next = some ⟨79, [.slice none 0 0], true⟩ := blk_alloc_eq
 have nB : (hA.alloc (.cells ⟨79, [.slice none 0 0], true⟩)).next = h.next + 2 := by rw [next_alloc]; omega
 generalize hA.alloc (.cells ⟨79, [.slice none 0 0], true⟩) = hB at *
 have kC : Kp p h (hB.alloc (.cells ⟨4, [.bool (inQ w)], true⟩)) := kB.trans (Kp.alloc _ _ _)
 have xC := alloc_lx xB (.cells ⟨4, [.bool (inQ w)], true⟩)
 have bC : (hB.alloc (.cells ⟨4, [.bool (inQ w)], true⟩)).blk h.next = some ⟨37, [.slice none 0 0], true⟩ := (blk_alloc_lt (by omega)).trans bB
 have tC : (hB.alloc (.cells ⟨4, [.bool (inQ w)], true⟩)).blk hA.next = some ⟨79, [.slice none 0 0], true⟩ := (blk_alloc_lt (by omega)).trans tB
 have iC : (hB.alloc (.cells ⟨4, [.bool (inQ w)], true⟩)).blk hB.next = some ⟨4, [.bool (inQ w)], true⟩ := blk_alloc_eq
 have nC : (hB.alloc (.cells ⟨4, [.bool (inQ w)], true⟩)).next = h.next + 3 := by rw [next_alloc]; omega
 generalize hB.alloc (.cells ⟨4, [.bool (inQ w)], true⟩) = hC at *
 have kD : Kp p h (hC.alloc (.cells ⟨1, [.func (.func 69) ⟨[]⟩ ⟨[Pt hA.next, Pt hB.next, Pt h.next]⟩], true⟩)) := kC.trans (Kp.alloc _ _ _)
 have xD := alloc_lx xC (.cells ⟨1, [.func (.func 69) ⟨[]⟩ ⟨[Pt hA.next, Pt hB.next, Pt h.next]⟩], true⟩)
 have bD : (hC.alloc (.cells ⟨1, [.func (.func 69) ⟨[]⟩ ⟨[Pt hA.next, Pt hB.next, Pt h.next]⟩], true⟩)).blk h.next = some ⟨37, [.slice none 0 0], true⟩ := (blk_alloc_lt (by omega)).trans bC
 have tD : (hC.alloc (.cells ⟨1, [.func (.func 69) ⟨[]⟩ ⟨[Pt hA.next, Pt hB.next, Pt h.next]⟩], true⟩)).blk hA.next = some ⟨79, [.slice none 0 0], true⟩ := (blk_alloc_lt (by omega)).trans tC
 have iD : (hC.alloc (.cells ⟨1, [.func (.func 69) ⟨[]⟩ ⟨[Pt hA.next, Pt hB.next, Pt h.next]⟩], true⟩)).blk hB.next = some ⟨4, [.bool (inQ w)], true⟩ := (blk_alloc_lt (by omega)).trans iC
 have fD : (hC.alloc (.cells ⟨1, [.func (.func 69) ⟨[]⟩ ⟨[Pt hA.next, Pt hB.next, Pt h.next]⟩], true⟩)).blk hC.next = some ⟨1, [.func (.func 69) ⟨[]⟩ ⟨[Pt hA.next, Pt hB.next, Pt h.next]⟩], true⟩ := blk_alloc_eq
 have nD : (hC.alloc (.cells ⟨1, [.func (.func 69) ⟨[]⟩ ⟨[Pt hA.next, Pt hB.next, Pt h.next]⟩], true⟩)).next = h.next + 4 := by rw [next_alloc]; omega
 generalize hC.alloc (.cells ⟨1, [.func (.func 69) ⟨[]⟩ ⟨[Pt hA.next, Pt hB.next, Pt h.next]⟩], true⟩) = hD at *
 exact ih h hD.next h.next hA.next hB.next hC.next w deep [] [] [] i res (n + 1) (n + 1) (n + 1) hD hs hi xD ⟨⟨_, bD, .inl ⟨rfl, rfl⟩⟩, ⟨_, tD, .inl ⟨rfl, rfl⟩⟩, iD, fD, by omega, by omega, Nat.le_refl _, fun x hx => by cases hx⟩ hp kD hw hd (by simp) (by omega) (by omega)
theorem all_ok (hl : l.length ≤ 5000) : ∀ f : Nat, f < 100000000 → LoopOk l p tk wt f ∧ PartsOk l p tk wt f ∧ DollarOk l p tk wt f ∧ BracesOk l p tk wt f := by
 intro f
 induction f with
 | zero =>
  intro _
  have hL : LoopOk l p tk wt 0 := by intro h0 lo bo bt bi bf w deep X out text i res n N m h hs; simp [parts] at hs
  exact ⟨hL, parts_call hl (by omega) hL, by intro w deep i res n h hs; simp [dollar] at hs, by intro w deep fr i res n h hs; simp [braces] at hs⟩
 | succ f ih =>
  intro hf
  obtain ⟨h1, h2, h3, h4⟩ := ih (by omega)
  have hL := parts_loop hl (by omega) h1 h2 h3
  exact ⟨hL, parts_call hl hf hL, dollar_step hl (by omega) h4, braces_step hl (by omega) h2⟩
end
end Go.Proofs.YteekjekckgpbfaaDoor.Abs
end
section
namespace Go.Proofs.YteekjekckgpbfaaDoor.Abs
open Sp
attribute [local congr] bindO_congr bindR_congr condV_congr wp_congr
def GrowV (h : Heap) (lo : Nat) (X : List Nat) (e sz : Nat) (v : Value) (cs : List Value) (n : Nat) : Prop :=
 (v = .slice none 0 0 ∧ cs = [] ∧ n = 0) ∨ ∃ b, v = .slice (some ⟨b, 0, none⟩) n n ∧ 0 < n ∧ h.blk b = some ⟨e, cs, true⟩ ∧ cs.length = n * sz ∧ b ∈ X ∧ lo ≤ b
theorem GrowV.len {h : Heap} {lo : Nat} {X : List Nat} {e sz : Nat} {v : Value} {cs : List Value} {n : Nat} (k : GrowV h lo X e sz v cs n) : (∃ a, v = .slice a n n) ∧ cs.length = n * sz := by
 rcases k with ⟨rfl, rfl, rfl⟩ | ⟨b, rfl, _, _, hl, _⟩
 ·exact ⟨⟨_, rfl⟩, by simp⟩
 ·exact ⟨⟨_, rfl⟩, hl⟩
theorem GrowV.keep {h h' : Heap} {lo : Nat} {X X' : List Nat} {e sz : Nat} {v : Value} {cs : List Value} {n : Nat} (k : GrowV h lo X e sz v cs n) (hm : ∀ b, lo ≤ b → h.blk b = some ⟨e, cs, true⟩ → h'.blk b = some ⟨e, cs, true⟩) (hX : ∀ b, b ∈ X → b ∈ X') : GrowV h' lo X' e sz v cs n := by
 rcases k with ⟨rfl, rfl, rfl⟩ | ⟨b, rfl, hn, hb, hl, hx, hlo⟩
 ·exact .inl ⟨rfl, rfl, rfl⟩
 ·exact .inr ⟨b, rfl, hn, hm b hlo hb, hl, hX _ hx, hlo⟩
theorem GrowV.snoc {E : Env} {t e : Nat} {i ie : TI} (ht : E.ty t = some i) (hd : i.desc = .slice e) (he : E.ty e = some ie) (h0 : (ie.size == 0 || ie.bytes == 0) = false) {sz bt : Nat} (hs : ie.size = sz) (hbt : ie.bytes = bt) {h : Heap} {lo : Nat} {X : List Nat} {v : Value} {cs ds : List Value} {n sb : Nat} {ow : Bool}
  (k : GrowV h lo X e sz v cs n) (hsb : h.blk sb = some ⟨e, ds, ow⟩) (hds : ds.length = sz) (hone : ds.all oneC = true) (hlo : lo ≤ h.next) (hmax : (n + 1) * bt ≤ most) :
  ∃ h', appendA E t v (.slice (some ⟨sb, 0, none⟩) 1 1) h = some (.slice (some ⟨h.next, 0, none⟩) (n + 1) (n + 1), h') ∧ GrowV h' lo (h.next :: X) e sz (.slice (some ⟨h.next, 0, none⟩) (n + 1) (n + 1)) (cs ++ ds) (n + 1) ∧ h'.next = h.next + 1 ∧ (∀ b, b < h.next → (b < lo ∨ b ∉ X) → h'.blk b = h.blk b) ∧ (∀ b k, h.blk b = some k → k.elem ≠ e → h'.blk b = some k) := by
 have hrow : (ds.drop 0).take (1 * sz) = ds := by rw [List.drop_zero, List.take_of_length_le (by omega)]
 have hone' : ((ds.drop 0).take (1 * sz)).all oneC = true := by rw [hrow]; exact hone
 have hsbn := Heap.blk_lt hsb
 rcases k with ⟨rfl, rfl, rfl⟩ | ⟨b, rfl, hn, hb, hl, hx, hlb⟩
 ·refine ⟨_, app_nil ht hd he h0 hs hbt sb 0 1 1 _ h hsb (by omega) (by simp; omega) hone' (by omega), ?_, rfl, fun b hb _ => blk_alloc_lt hb, fun b k e _ => (blk_alloc_lt (Heap.blk_lt e)).trans e⟩
  rw [hrow]
  exact .inr ⟨h.next, rfl, by omega, blk_alloc_eq, by simp; omega, List.mem_cons_self, hlo⟩
 ·refine ⟨_, app_some ht hd he h0 hs hbt b n n sb 0 1 1 cs _ h hb hl hsb (by omega) (by simp; omega) hone' hmax, ?_, rfl, ?_, ?_⟩
  ·rw [hrow]
   exact .inr ⟨h.next, rfl, by omega, blk_alloc_eq' rfl, by simp [hl, hds, Nat.add_mul], List.mem_cons_self, hlo⟩
  ·intro c hc hor
   refine (blk_alloc_lt (by rw [next_kill]; exact hc)).trans (blk_kill_ne fun eq => ?_)
   subst eq
   rcases hor with h1 | h1
   ·omega
   ·exact h1 hx
  ·intro c k ek hel
   refine (blk_alloc_lt (by rw [next_kill]; exact Heap.blk_lt ek)).trans ((blk_kill_ne fun eq => ?_).trans ek)
   subst eq
   rw [hb] at ek
   injection ek with ek
   exact hel (ek ▸ rfl)
inductive RepT (g : Nat → Option Blk) (A : Nat → Prop) : List Value → List Tok → Prop
 | nil : RepT g A [] []
 | cons (k : Nat) (t : Bs) (ps : List Part) (q : Bool) (a : Nat) (w : Value) (cs : List Value) (ts : List Tok) : RepW g A w ps → RepT g A cs ts →
   RepT g A (.int .i64 (k : Int) :: .string (mkS t) :: w :: .bool q :: .int .i64 (a : Int) :: cs) (⟨k, t, ps, q, a⟩ :: ts)
theorem RepT.mono {g g' : Nat → Option Blk} {A A' : Nat → Prop} (hm : ∀ b k, A b → g b = some k → A' b ∧ g' b = some k) {cs : List Value} {ts : List Tok} (h : RepT g A cs ts) : RepT g' A' cs ts := by
 induction h with
 | nil => exact .nil
 | cons k t ps q a w cs ts hw _ ih => exact .cons k t ps q a w cs ts (hw.mono hm) ih
theorem RepT.append {g : Nat → Option Blk} {A : Nat → Prop} {ds : List Value} {us : List Tok} (k : RepT g A ds us) {cs : List Value} {ts : List Tok} (h : RepT g A cs ts) : RepT g A (cs ++ ds) (ts ++ us) := by
 induction h with
 | nil => exact k
 | cons k t ps q a w cs ts hw _ ih => exact .cons k t ps q a w _ _ hw ih
theorem RepT.length {g : Nat → Option Blk} {A : Nat → Prop} {cs : List Value} {ts : List Tok} (h : RepT g A cs ts) : cs.length = ts.length * 5 := by
 induction h with
 | nil => rfl
 | cons k t ps q a w cs ts hw _ ih => simp [ih]; omega
theorem RepT.get {g : Nat → Option Blk} {A : Nat → Prop} {cs : List Value} {ts : List Tok} (h : RepT g A cs ts) : ∀ {j : Nat} {x : Tok}, ts[j]? = some x → ∃ w, RepW g A w x.parts ∧ cs[j * 5]? = some (.int .i64 (x.kind : Int)) ∧ cs[j * 5 + 1]? = some (.string (mkS x.text)) ∧ cs[j * 5 + 2]? = some w ∧ cs[j * 5 + 3]? = some (.bool x.quoted) ∧ cs[j * 5 + 4]? = some (.int .i64 (x.at' : Int)) ∧ (cs.drop (j * 5)).take 5 = [.int .i64 (x.kind : Int), .string (mkS x.text), w, .bool x.quoted, .int .i64 (x.at' : Int)] := by
 induction h with
 | nil => intro j x hj; cases hj
 | cons k t ps q a w cs ts hw _ ih =>
  intro j x hj
  cases j with
  | zero =>
   simp at hj; subst hj
   exact ⟨w, hw, rfl, rfl, rfl, rfl, rfl, rfl⟩
  | succ j =>
   simp at hj
   obtain ⟨w', h1, h2, h3, h4, h5, h6, h7⟩ := ih hj
   have e : ∀ m, (j + 1) * 5 + m = (j * 5 + m) + 1 + 1 + 1 + 1 + 1 := fun m => by omega
   refine ⟨w', h1, ?_, ?_, ?_, ?_, ?_, ?_⟩
   ·rw [show (j + 1) * 5 = j * 5 + 1 + 1 + 1 + 1 + 1 by omega]; simpa using h2
   ·rw [e 1]; simpa using h3
   ·rw [e 2]; simpa using h4
   ·rw [e 3]; simpa using h5
   ·rw [e 4]; simpa using h6
   ·rw [show (j + 1) * 5 = j * 5 + 1 + 1 + 1 + 1 + 1 by omega]; simpa using h7
def waitCells (ws : List (Nat × Bs)) : List Value := ws.flatMap fun x => [.int .i64 (x.1 : Int), .string (mkS x.2)]
theorem waitCells_len (ws : List (Nat × Bs)) : (waitCells ws).length = ws.length * 2 := by
 induction ws with
 | nil => rfl
 | cons x ws ih => simp [waitCells] at *; omega
structure LS (h : Heap) (lo : Nat) (X : List Nat) (p : Nat) (l : Bs) (i : Nat) (toks : List Tok) (waits : List (Nat × Bs)) (tv wv : Value) (cs : List Value) : Prop where
 x : LX h p l i tv wv
 t : GrowV h lo X 39 5 tv cs toks.length
 r : RepT h.blk (Al lo X) cs toks
 w : GrowV h lo X 89 2 wv (waitCells waits) waits.length
 c1 : p < lo
 c2 : lo ≤ h.next
 c3 : ∀ x, x ∈ X → x < h.next
theorem LS.kp {h h' : Heap} {lo : Nat} {X : List Nat} {p : Nat} {l : Bs} {i j : Nat} {toks : List Tok} {waits : List (Nat × Bs)} {tv wv : Value} {cs : List Value} (k : LS h lo X p l i toks waits tv wv cs) (hk : Kp p h h') (hx : LX h' p l j tv wv) : LS h' lo X p l j toks waits tv wv cs := by
 have st : ∀ b x, lo ≤ b → h.blk b = some x → h'.blk b = some x := fun b x hb e => hk.st e (by have := k.c1; omega)
 exact ⟨hx, k.t.keep (fun b hb e => st b _ hb e) fun _ h => h, k.r.mono fun b x a e => ⟨a, st b x a.1 e⟩, k.w.keep (fun b hb e => st b _ hb e) fun _ h => h, k.c1, Nat.le_trans k.c2 hk.1, fun x hx => Nat.lt_of_lt_of_le (k.c3 x hx) hk.1⟩
theorem LS.mv {h : Heap} {lo : Nat} {X : List Nat} {p : Nat} {l : Bs} {i : Nat} {toks : List Tok} {waits : List (Nat × Bs)} {tv wv : Value} {cs : List Value} (k : LS h lo X p l i toks waits tv wv cs) (j : Nat) : LS (mv h p l j tv wv) lo X p l j toks waits tv wv cs :=
 k.kp (Kp.set _ _ _) (mv_lx (blk_lt' k.x) _ _ _)
theorem LS.tok {h : Heap} {lo : Nat} {X : List Nat} {p : Nat} {l : Bs} {i : Nat} {toks : List Tok} {waits : List (Nat × Bs)} {tv wv : Value} {cs : List Value} (k : LS h lo X p l i toks waits tv wv cs) {x : Tok} {w : Value} {sb : Nat}
  (hw : RepW h.blk (Al lo X) w x.parts) (hsb : h.blk sb = some ⟨39, [.int .i64 (x.kind : Int), .string (mkS x.text), w, .bool x.quoted, .int .i64 (x.at' : Int)], true⟩) (hmax : toks.length ≤ 100000) :
  ∃ h', appendA E 22 tv (.slice (some ⟨sb, 0, none⟩) 1 1) h = some (.slice (some ⟨h.next, 0, none⟩) (toks.length + 1) (toks.length + 1), h') ∧ LX h' p l i tv wv ∧ h'.next = h.next + 1 ∧ (∀ b, b < lo → h'.blk b = h.blk b) ∧
   (∀ b y, h.blk b = some y → y.elem ≠ 39 → h'.blk b = some y) ∧ (∀ b y, Al lo X b → h.blk b = some y → Al lo (h.next :: X) b ∧ h'.blk b = some y) ∧
   ∀ j, LS (h'.set p (.cells (lxB l j (.slice (some ⟨h.next, 0, none⟩) (toks.length + 1) (toks.length + 1)) wv))) lo (h.next :: X) p l j (toks ++ [x]) waits (.slice (some ⟨h.next, 0, none⟩) (toks.length + 1) (toks.length + 1)) wv (cs ++ [.int .i64 (x.kind : Int), .string (mkS x.text), w, .bool x.quoted, .int .i64 (x.at' : Int)]) := by
 obtain ⟨wa, wn, wc, rfl⟩ := hw.one
 obtain ⟨h', e1, g1, hn, hsame, hsame2⟩ := k.t.snoc (t := 22) (sz := 5) (bt := 64) ty22 rfl ty39 rfl rfl rfl hsb rfl rfl k.c2 (by unfold most; omega)
 have hp := k.c1
 have hx' : LX h' p l i tv wv := hsame2 p _ k.x (show (57 : Nat) ≠ 39 by decide)
 have hAl : ∀ b y, Al lo X b → h.blk b = some y → Al lo (h.next :: X) b ∧ h'.blk b = some y := by
  intro b y a e
  have hb := Heap.blk_lt e
  refine ⟨⟨a.1, ?_⟩, (hsame b hb (.inr a.2)).trans e⟩
  simp only [List.mem_cons, not_or]
  exact ⟨by omega, a.2⟩
 refine ⟨h', e1, hx', hn, fun b hb => hsame b (by have := k.c2; omega) (.inl hb), hsame2, hAl, fun j => ?_⟩
 refine ⟨blk_set_eq (blk_lt' hx'), ?_, ?_, ?_, hp, by rw [next_set]; have := k.c2; omega, fun x hx => ?_⟩
 ·rw [List.length_append, List.length_singleton]
  exact g1.keep (fun b hb e => (blk_set_ne (by omega)).trans e) fun _ h => h
 ·refine RepT.append (.cons _ _ _ _ _ _ _ _ (hw.mono fun b y a e => ?_) .nil) (k.r.mono fun b y a e => ?_)
  ·obtain ⟨a', e'⟩ := hAl b y a e
   exact ⟨a', (blk_set_ne (by have := a.1; omega)).trans e'⟩
  ·obtain ⟨a', e'⟩ := hAl b y a e
   exact ⟨a', (blk_set_ne (by have := a.1; omega)).trans e'⟩
 ·exact k.w.keep (fun b hb e => (blk_set_ne (by omega)).trans (hsame2 b _ e (show (89 : Nat) ≠ 39 by decide))) fun _ h => List.mem_cons_of_mem _ h
 ·rw [next_set, hn]
  rcases List.mem_cons.1 hx with e | e
  ·omega
  ·have := k.c3 x e; omega
end Go.Proofs.YteekjekckgpbfaaDoor.Abs
end
section
namespace Go.Proofs.YteekjekckgpbfaaDoor.Abs
open Sp
attribute [local congr] bindO_congr bindR_congr condV_congr wp_congr
section
variable {h : Heap} {p i : Nat} {l : Bs} {tk wt : Value}
theorem indexByteI_eq (n : Nat) (r : Bs) (c : UInt8) : cF (n + 1) 87 [.string (mkS r), .int .u8 (c.toNat : Int)] h = some (.ret (.int .i64 (findI c r)), h) := by
 have e : callA E (cF n) (.func (.func 97) ⟨[]⟩ ⟨[]⟩) [.string (mkS r), .int .u8 (c.toNat : Int)] h = some (.ret (.int .i64 (findB (UInt8.ofNat (c.toNat : Int).toNat) r 0)), h) := by kernel_rfl
 have hf : findB c r 0 = findI c r := by
  rw [findB_find]; unfold findI
  cases find c r with
  | none => rfl
  | some n => simp
 rw [c87]
 simp -implicitDefEqProofs only [f87, e, u8_of, hf, SS, SU, Nat.reduceAdd, Nat.reduceLeDiff, Nat.reduceBEq, Nat.reduceMul]
theorem index1_eq (n : Nat) (r : Bs) (c : UInt8) : cF (n + 2) 85 [.string (mkS r), .string (mkS [c])] h = some (.ret (.int .i64 (findI c r)), h) := by
 have hix : indexA E 9 (.string (mkS [c])) (.int .i64 0) = some (.int .u8 (c.toNat : Int)) := ix9 [c] 0 c rfl
 have e1 : ((([c] : Bs).length : Int) == 1) = true := rfl
 rw [c85]
 rcases b2 ([c] == r) with g | g
 ·have hr : r = [c] := (beq_iff_eq.1 g).symm
  subst hr
  have h0 : findI c [c] = 0 := by simp [findI, find]
  have n0 : ([c].length == 0) = false := rfl
  simp -implicitDefEqProofs only [f85, p85_0, p85_56, n0, g, h0, SS, SU, Nat.reduceAdd, Nat.reduceLeDiff, Nat.reduceBEq, Nat.reduceMul]
 ·have n0 : ([c].length == 0) = false := rfl
  simp -implicitDefEqProofs only [f85, p85_0, p85_56, n0, g, hix, e1, indexByteI_eq, SS, SU, Nat.reduceAdd, Nat.reduceLeDiff, Nat.reduceBEq, Nat.reduceMul]
theorem row_none {r : Bs} (h : find 10 r = none) : row r = r := by
 induction r with
 | nil => rfl
 | cons b r ih =>
  simp only [find] at h
  cases hb : b == 10 with
  | true => simp [hb] at h
  | false =>
   simp only [hb, Bool.false_eq_true, if_false] at h
   cases hf : find 10 r with
   | none =>
    have := ih hf
    unfold row at this ⊢
    rw [List.takeWhile_cons, show (b != 10) = true by simp [bne, hb], if_pos rfl, this]
   | some n => simp [hf] at h
theorem row_some' {r : Bs} : ∀ {k : Nat}, find 10 r = some k → row r = r.take k ∧ k < r.length := by
 induction r with
 | nil => intro k h; cases h
 | cons b r ih =>
  intro k h
  simp only [find] at h
  cases hb : b == 10 with
  | true =>
   simp [hb] at h; subst h
   refine ⟨?_, by simp⟩
   unfold row
   rw [List.takeWhile_cons, show (b != 10) = false by simp [bne, hb]]
   simp
  | false =>
   simp only [hb, Bool.false_eq_true, if_false] at h
   cases hf : find 10 r with
   | none => simp [hf] at h
   | some n =>
    simp [hf] at h; subst h
    obtain ⟨h1, h2⟩ := ih hf
    unfold row at h1 ⊢
    rw [List.takeWhile_cons, show (b != 10) = true by simp [bne, hb], if_pos rfl, h1]
    exact ⟨rfl, by simp; omega⟩
theorem row_le (r : Bs) : (row r).length ≤ r.length := by
 cases h : find 10 r with
 | none => rw [row_none h]; exact Nat.le_refl _
 | some k => obtain ⟨h1, h2⟩ := row_some' h; rw [h1]; simp; omega
theorem cut_eq (n : Nat) (r : Bs) (hr : r.length < 4611686018427387904) : ∃ b : Value, cF (n + 4) 46 [.string (mkS r), .string (mkS [10])] h = some (.ret (.tuple ⟨[.string (mkS (row r)), b, .bool (decide ((row r).length < r.length))]⟩), h) := by
 rw [c46]
 cases hf : find 10 r with
 | none =>
  have hneg : findI 10 r = -1 := by simp [findI, hf]
  have hb : decide ((0 : Int) ≤ -1) = false := rfl
  have hd : decide ((row r).length < r.length) = false := by rw [row_none hf]; simp
  refine ⟨.string (mkS []), ?_⟩
  rw [hd, row_none hf]
  simp -implicitDefEqProofs only [f46, c66, f66, index1_eq, hneg, hb, SS, SU, Nat.reduceAdd, Nat.reduceLeDiff, Nat.reduceBEq, Nat.reduceMul]
 | some k =>
  obtain ⟨h1, h2⟩ := row_some' hf
  have hpos : findI 10 r = (k : Int) := by simp [findI, hf]
  have hd : decide ((row r).length < r.length) = true := by rw [h1]; simp; omega
  refine ⟨.string (mkS (r.drop (k + 1))), ?_⟩
  rw [hd, h1]
  simp -implicitDefEqProofs only [f46, c66, f66, index1_eq, hpos, sl9_hi r k h (by omega), wrap_nat (k + 1) (by omega), List.length_cons, List.length_nil, sl9_lo r (k + 1) h (by omega), SS, SU, Nat.reduceAdd, Nat.reduceLeDiff, Nat.reduceBEq, Nat.reduceMul]
theorem remark_no (n : Nat) (hx : LX h p l i tk wt) (hi : i ≤ l.length) (hp : pre [35] (l.drop i) = false) : cF (n + 4) 20 [Pt p] h = some (.ret (.bool false), h) := by
 rw [c20]
 simp only [f20, p20_0, next_eq n hx [35] hi, hp, SS, SU, Nat.reduceAdd, Nat.reduceLeDiff, Nat.reduceBEq, Nat.reduceMul]
theorem remark_yes (n : Nat) (hx : LX h p l i tk wt) (hi : i ≤ l.length) (hl : l.length ≤ 5000) (hp : pre [35] (l.drop i) = true) : cF (n + 5) 20 [Pt p] h = some (.ret (.bool true), mv h p l (i + (row (l.drop i)).length) tk wt) := by
 rw [c20]
 obtain ⟨b, e⟩ := cut_eq (h := h) n (l.drop i) (by simp; omega)
 have hle := row_le (l.drop i)
 simp at hle
 simp only [f20, p20_0, next_eq (n + 1) hx [35] hi, hp, hx, sl9_lo l i h hi, e, wrap_nat (i + (row (l.drop i)).length) (by omega), p20_8, SS, SU, Nat.reduceAdd, Nat.reduceLeDiff, Nat.reduceBEq, Nat.reduceMul]
end
end Go.Proofs.YteekjekckgpbfaaDoor.Abs
end
section
namespace Go.Proofs.YteekjekckgpbfaaDoor.Abs
open Sp
attribute [local congr] bindO_congr bindR_congr condV_congr wp_congr
def UnL (lo p : Nat) (h h' : Heap) : Prop := h.next ≤ h'.next ∧ ∀ b, b < lo → b ≠ p → h'.blk b = h.blk b
theorem UnL.refl (lo p : Nat) (h : Heap) : UnL lo p h h := ⟨Nat.le_refl _, fun _ _ _ => rfl⟩
theorem UnL.trans {lo p : Nat} {a b c : Heap} (h : UnL lo p a b) (k : UnL lo p b c) : UnL lo p a c := ⟨Nat.le_trans h.1 k.1, fun x hx hn => (k.2 x hx hn).trans (h.2 x hx hn)⟩
theorem Kp.unL {lo p : Nat} {h h' : Heap} (k : Kp p h h') (hlo : lo ≤ h.next) : UnL lo p h h' := ⟨k.1, fun b hb hn => k.2 b (by omega) hn⟩
def BadL (lo p : Nat) (h : Heap) (c a : Nat) (r : Res) (h' : Heap) : Prop := UnL lo p h h' ∧ ∃ b, r = .panic (.iface 51 (Pt b)) ∧ h.next ≤ b ∧ h'.blk b = some ⟨52, [.int .i64 (c : Int), .int .i64 (a : Int)], true⟩
theorem Bad.l {lo p : Nat} {h h' : Heap} {c a : Nat} {r : Res} (k : Bad p h c a r h') (hlo : lo ≤ h.next) : BadL lo p h c a r h' := by
 obtain ⟨kk, b, e, hb, hf⟩ := k
 exact ⟨kk.unL hlo, b, e, hb, hf⟩
theorem BadL.of {lo p : Nat} {h h1 h' : Heap} {c a : Nat} {r : Res} (u : UnL lo p h h1) (k : BadL lo p h1 c a r h') : BadL lo p h c a r h' := by
 obtain ⟨kk, b, e, hb, hf⟩ := k
 exact ⟨u.trans kk, b, e, Nat.le_trans u.1 hb, hf⟩
section
variable {h : Heap} {lo : Nat} {X : List Nat} {p : Nat} {l : Bs} {i : Nat} {toks : List Tok} {waits : List (Nat × Bs)} {tv wv : Value} {cs : List Value}
def MarkQ (lo p : Nat) (l : Bs) (i : Nat) (toks : List Tok) (waits : List (Nat × Bs)) (h : Heap) (r : Res) (h' : Heap) : Prop := r = .ret (.bool true) ∧ UnL lo p h h' ∧ ∃ X tv wv cs, LS h' lo X p l i toks waits tv wv cs
theorem digitOf_cases (r : Bs) : digitOf r = 0 ∨ digitOf r = 1 ∧ 2 ≤ r.length ∧ (pre [60] (r.drop 1) = true ∨ pre [62] (r.drop 1) = true) := by
 unfold digitOf
 match r with
 | [] => exact .inl rfl
 | [c] => exact .inl rfl
 | c :: d :: t =>
  simp only
  split
  ·rename_i hc
   refine .inr ⟨rfl, by simp, ?_⟩
   simp only [Bool.and_eq_true, Bool.or_eq_true, beq_iff_eq] at hc
   rcases hc.2 with rfl | rfl
   ·exact .inl (by simp [pre])
   ·exact .inr (by simp [pre])
  ·exact .inl rfl
theorem first_none {os : List Bs} {r : Bs} (h : first os r = none) : ∀ o, o ∈ os → pre o r = false := by
 induction os with
 | nil => intro o ho; cases ho
 | cons x os ih =>
  intro o ho
  simp only [first] at h
  cases hx : pre x r with
  | true => simp [hx] at h
  | false =>
   simp only [hx, Bool.false_eq_true, if_false] at h
   rcases List.mem_cons.1 ho with e | e
   ·rw [e]; exact hx
   ·refine ih ?_ o e
    cases hf : first os r with
    | none => rfl
    | some y => simp [hf] at h
theorem mark_none (r : Bs) (h : first marksL (r.drop (digitOf r)) = none) : digitOf r = 0 := by
 rcases digitOf_cases r with e | ⟨e, _, hp⟩
 ·exact e
 ·rw [e] at h
  rcases hp with hp | hp
  ·have := first_none h [60] (by decide); rw [hp] at this; cases this
  ·have := first_none h [62] (by decide); rw [hp] at this; cases this
theorem marksL_len : ∀ {r : Bs} {k : Nat} {o : Bs}, first marksL r = some (k, o) → k < 12 ∧ o.length ≤ 2 ∧ 1 ≤ o.length := by
 intro r k o h
 have := (first_pre h).2
 have hk : k < marksL.length := by
  rcases Nat.lt_or_ge k marksL.length with h | h
  ·exact h
  ·simp [h] at this
 have hk' : k < 12 := hk
 refine ⟨hk', ?_⟩
 have hall : marksL.all (fun o => decide (o.length ≤ 2 ∧ 1 ≤ o.length)) = true := by decide
 rw [List.all_eq_true] at hall
 have := hall o (List.mem_of_getElem? this)
 simpa using this
theorem mark_rest (hl : l.length ≤ 5000) (ht : toks.length ≤ 100000) {n i0 : Nat} (hn : 6000 ≤ n) (k : LS h lo X p l i toks waits tv wv cs) (hi0 : i0 ≤ i) (hi : i ≤ l.length) :
  (∀ k m, first marksL (l.drop i) = some (k, m) → wp (p21_3 (cF n) n (Pt p) (.int .i64 (i0 : Int)) h) (MarkQ lo p l (i + m.length) (toks ++ [⟨1, (l.drop i0).take (i + m.length - i0), [], false, i0⟩]) waits h)) ∧
  (first marksL (l.drop i) = none → pre [38] (l.drop i) = true → wp (p21_3 (cF n) n (Pt p) (.int .i64 (i0 : Int)) h) (BadL lo p h 19 i0)) ∧
  (first marksL (l.drop i) = none → pre [38] (l.drop i) = false → wp (p21_3 (cF n) n (Pt p) (.int .i64 (i0 : Int)) h) (fun r h' => r = .ret (.bool false) ∧ UnL lo p h h' ∧ LS h' lo X p l i toks waits tv wv cs)) := by
 obtain ⟨n, rfl⟩ : ∃ n', n = n' + 6 := ⟨n - 6, by omega⟩
 have hx := k.x
 have k2 := k.kp (Kp.alloc p h (.cells ⟨9, strs marksL, true⟩)) (alloc_lx hx _)
 have hsb : (h.alloc (.cells ⟨9, strs marksL, true⟩)).blk h.next = some ⟨9, strs marksL, true⟩ := blk_alloc_eq
 have hif := indexFunc_eq n h.next marksL k2.x hi (by omega) hsb (show 12 < n by omega) (by decide)
 rw [show marksL.length = 12 from rfl] at hif
 have u2 : UnL lo p h (h.alloc (.cells ⟨9, strs marksL, true⟩)) := (Kp.alloc _ _ _).unL k.c2
 have hbn : decide ((0 : Int) ≤ -1) = false := rfl
 refine ⟨fun kk m hf => ?_, fun hf hp => ?_, fun hf hp => ?_⟩
 ·rw [hf] at hif
  simp only at hif
  obtain ⟨hk, hm2, hm1⟩ := marksL_len hf
  have hi2 := pre_i (first_pre hf).1 hi
  have k3 := k2.mv (i + m.length)
  have hsv := sl9_lh l i0 (i + m.length) (mv (h.alloc (.cells ⟨9, strs marksL, true⟩)) p l (i + m.length) tv wv) (by omega) hi2
  have u3 : UnL lo p h (mv (h.alloc (.cells ⟨9, strs marksL, true⟩)) p l (i + m.length) tv wv) := u2.trans ((Kp.set _ _ _).unL k2.c2)
  simp -implicitDefEqProofs only [p21_3, marks_eq, c47, f47, hif, p21_4, k3.x, hsv, SS, SU, Nat.reduceAdd, Nat.reduceLeDiff, Nat.reduceBEq, Nat.reduceMul]
  generalize mv (h.alloc (.cells ⟨9, strs marksL, true⟩)) p l (i + m.length) tv wv = h3 at *
  have e5 : buildSliceA E 22 1 [(0, .agg ⟨[.int .i64 1, .string (mkS ((l.drop i0).take (i + m.length - i0))), .slice none 0 0, .bool false, .int .i64 (i0 : Int)]⟩)] h3 = some (.slice (some ⟨h3.next, 0, none⟩) 1 1, h3.alloc (.cells ⟨39, [.int .i64 1, .string (mkS ((l.drop i0).take (i + m.length - i0))), .slice none 0 0, .bool false, .int .i64 (i0 : Int)], true⟩)) := bs22_1 _ h3 rfl
  have k4 := k3.kp (Kp.alloc p h3 (.cells ⟨39, [.int .i64 1, .string (mkS ((l.drop i0).take (i + m.length - i0))), .slice none 0 0, .bool false, .int .i64 (i0 : Int)], true⟩)) (alloc_lx k3.x _)
  have u4 := u3.trans ((Kp.alloc p h3 (.cells ⟨39, [.int .i64 1, .string (mkS ((l.drop i0).take (i + m.length - i0))), .slice none 0 0, .bool false, .int .i64 (i0 : Int)], true⟩)).unL k3.c2)
  obtain ⟨h5, e6, hx5, hn5, hu5, _, _, hls⟩ := k4.tok (x := ⟨1, (l.drop i0).take (i + m.length - i0), [], false, i0⟩) (w := .slice none 0 0) (sb := h3.next) .nil blk_alloc_eq ht
  simp -implicitDefEqProofs only [e5, e6, hx5, SS, SU, Nat.reduceAdd, Nat.reduceLeDiff, Nat.reduceBEq, Nat.reduceMul]
  refine wp_some.2 ⟨rfl, u4.trans ⟨by rw [next_set]; omega, fun b hb hn => (blk_set_ne hn).trans (hu5 b hb)⟩, _, _, _, _, hls (i + m.length)⟩
 ·rw [hf] at hif
  simp only at hif
  simp only [p21_3, marks_eq, c47, f47, hif, hbn, next_eq (n + 3) k2.x [38] hi, hp, fail_19, SS, SU, Nat.reduceAdd, Nat.reduceLeDiff, Nat.reduceBEq, Nat.reduceMul]
  exact wp_some.2 (BadL.of u2 ((fail_bad 0 19 i0).l k2.c2))
 ·rw [hf] at hif
  simp only at hif
  simp only [p21_3, marks_eq, c47, f47, hif, hbn, next_eq (n + 3) k2.x [38] hi, hp, p21_10, SS, SU, Nat.reduceAdd, Nat.reduceLeDiff, Nat.reduceBEq, Nat.reduceMul]
  exact wp_some.2 ⟨rfl, u2, k2⟩
theorem mark_head (hl : l.length ≤ 5000) {n : Nat} (k : LS h lo X p l i toks waits tv wv cs) (hi : i < l.length) :
  cF (n + 1) 21 [Pt p] h = p21_16 (cF n) n (Pt p) (.int .i64 (i : Int)) (.bool (digitOf (l.drop i) == 1)) h := by
 have hx := k.x
 have hg := drop_get l i hi
 have hdr := List.drop_eq_getElem_cons hi
 rw [c21]
 generalize l[i] = c at hg hdr
 rw [hdr]
 simp -implicitDefEqProofs only [f21, p21_0, hx, ix9 l i c hg, p21_15, SS, SU, Nat.reduceAdd, Nat.reduceLeDiff, Nat.reduceBEq, Nat.reduceMul]
 cases ht : l.drop (i + 1) with
 | nil =>
  have hle : i + 1 = l.length := by have := congrArg List.length ht; simp at this; omega
  have hd : (digitOf [c] == 1) = false := rfl
  have hlt : decide (i + 1 < l.length) = false := decide_eq_false (by omega)
  rw [hd]
  rcases b2 (decide (48 ≤ (c.toNat : Int))) with g1 | g1
  ·rcases b2 (decide ((c.toNat : Int) ≤ 50)) with g2 | g2
   ·simp -implicitDefEqProofs only [g1, g2, hx, wrap_nat (i + 1) (by omega), hlt, SS, SU, Nat.reduceAdd, Nat.reduceLeDiff, Nat.reduceBEq, Nat.reduceMul]
   ·simp -implicitDefEqProofs only [g1, g2, SS, SU, Nat.reduceAdd, Nat.reduceLeDiff, Nat.reduceBEq, Nat.reduceMul]
  ·simp -implicitDefEqProofs only [g1, SS, SU, Nat.reduceAdd, Nat.reduceLeDiff, Nat.reduceBEq, Nat.reduceMul]
 | cons d t =>
  have hlt2 : i + 1 < l.length := by have := congrArg List.length ht; simp at this; omega
  have hdr2 := List.drop_eq_getElem_cons hlt2
  have hgx := drop_get l (i + 1) hlt2
  rw [ht] at hdr2
  injection hdr2 with hxx htt
  rw [← hxx] at hgx
  have hlt : decide (i + 1 < l.length) = true := decide_eq_true hlt2
  have e60 : ((d.toNat : Int) == 60) = (d == 60) := u8_eqn d 60 (by decide)
  have e62 : ((d.toNat : Int) == 62) = (d == 62) := u8_eqn d 62 (by decide)
  rcases b2 (decide (48 ≤ (c.toNat : Int))) with g1 | g1
  ·rcases b2 (decide ((c.toNat : Int) ≤ 50)) with g2 | g2
   ·rcases b2 (d == 60) with g3 | g3
    ·have hd : (digitOf (c :: d :: t) == 1) = true := by simp only [digitOf, g1, g2, g3]; rfl
     rw [hd]
     simp -implicitDefEqProofs only [g1, g2, hx, wrap_nat (i + 1) (by omega), hlt, ix9 l (i + 1) d hgx, e60, g3, SS, SU, Nat.reduceAdd, Nat.reduceLeDiff, Nat.reduceBEq, Nat.reduceMul]
    ·rcases b2 (d == 62) with g4 | g4
     ·have hd : (digitOf (c :: d :: t) == 1) = true := by simp only [digitOf, g1, g2, g3, g4]; rfl
      rw [hd]
      simp -implicitDefEqProofs only [g1, g2, hx, wrap_nat (i + 1) (by omega), hlt, ix9 l (i + 1) d hgx, e60, g3, e62, g4, SS, SU, Nat.reduceAdd, Nat.reduceLeDiff, Nat.reduceBEq, Nat.reduceMul]
     ·have hd : (digitOf (c :: d :: t) == 1) = false := by simp only [digitOf, g1, g2, g3, g4]; rfl
      rw [hd]
      simp -implicitDefEqProofs only [g1, g2, hx, wrap_nat (i + 1) (by omega), hlt, ix9 l (i + 1) d hgx, e60, g3, e62, g4, SS, SU, Nat.reduceAdd, Nat.reduceLeDiff, Nat.reduceBEq, Nat.reduceMul]
   ·have hd : (digitOf (c :: d :: t) == 1) = false := by simp only [digitOf, g1, g2]; rfl
    rw [hd]
    simp -implicitDefEqProofs only [g1, g2, SS, SU, Nat.reduceAdd, Nat.reduceLeDiff, Nat.reduceBEq, Nat.reduceMul]
  ·have hd : (digitOf (c :: d :: t) == 1) = false := by simp only [digitOf, g1]; rfl
   rw [hd]
   simp -implicitDefEqProofs only [g1, SS, SU, Nat.reduceAdd, Nat.reduceLeDiff, Nat.reduceBEq, Nat.reduceMul]
theorem mark_ok (hl : l.length ≤ 5000) (ht : toks.length ≤ 100000) {n : Nat} (hn : 6001 ≤ n) (k : LS h lo X p l i toks waits tv wv cs) (hi : i < l.length) :
  (∀ k m, first marksL ((l.drop i).drop (digitOf (l.drop i))) = some (k, m) → wp (cF n 21 [Pt p] h) (MarkQ lo p l (i + digitOf (l.drop i) + m.length) (toks ++ [⟨1, (l.drop i).take (digitOf (l.drop i) + m.length), [], false, i⟩]) waits h)) ∧
  (first marksL ((l.drop i).drop (digitOf (l.drop i))) = none → pre [38] (l.drop i) = true → wp (cF n 21 [Pt p] h) (BadL lo p h 19 i)) ∧
  (first marksL ((l.drop i).drop (digitOf (l.drop i))) = none → pre [38] (l.drop i) = false → wp (cF n 21 [Pt p] h) (fun r h' => r = .ret (.bool false) ∧ UnL lo p h h' ∧ LS h' lo X p l i toks waits tv wv cs)) := by
 obtain ⟨n, rfl⟩ : ∃ n', n = n' + 1 := ⟨n - 1, by omega⟩
 rw [mark_head hl k hi]
 have hx := k.x
 have r0 := mark_rest hl ht (n := n) (by omega) k (Nat.le_refl i) (by omega)
 refine ⟨fun kk m hf => ?_, fun hf hp => ?_, fun hf hp => ?_⟩
 ·rcases digitOf_cases (l.drop i) with e | ⟨e, hlen, _⟩
  ·rw [e] at hf ⊢
   have := r0.1 kk m (by simpa using hf)
   rw [show i + m.length - i = m.length by omega] at this
   rw [show i + 0 + m.length = i + m.length by omega, Nat.zero_add]
   have e0 : ((0 : Nat) == 1) = false := rfl
   simp -implicitDefEqProofs only [p21_16, e0, SS, SU, Nat.reduceAdd, Nat.reduceLeDiff, Nat.reduceBEq, Nat.reduceMul]
   exact this
  ·have hi1 : i + 1 ≤ l.length := by simp at hlen; omega
   rw [e] at hf ⊢
   have k1 := k.mv (i + 1)
   have := (mark_rest hl ht (n := n) (by omega) k1 (show i ≤ i + 1 by omega) hi1).1 kk m (by rw [← List.drop_drop]; exact hf)
   rw [show i + 1 + m.length - i = 1 + m.length by omega] at this
   have e0 : ((1 : Nat) == 1) = true := rfl
   simp -implicitDefEqProofs only [p21_16, e0, hx, wrap_nat (i + 1) (by omega), SS, SU, Nat.reduceAdd, Nat.reduceLeDiff, Nat.reduceBEq, Nat.reduceMul]
   refine wp_mono this fun r h' q => ⟨q.1, ((Kp.set _ _ _).unL k.c2).trans q.2.1, q.2.2⟩
 ·have e := mark_none _ hf
  rw [e] at hf ⊢
  have e0 : ((0 : Nat) == 1) = false := rfl
  simp -implicitDefEqProofs only [p21_16, e0, SS, SU, Nat.reduceAdd, Nat.reduceLeDiff, Nat.reduceBEq, Nat.reduceMul]
  exact r0.2.1 (by simpa using hf) hp
 ·have e := mark_none _ hf
  rw [e] at hf ⊢
  have e0 : ((0 : Nat) == 1) = false := rfl
  simp -implicitDefEqProofs only [p21_16, e0, SS, SU, Nat.reduceAdd, Nat.reduceLeDiff, Nat.reduceBEq, Nat.reduceMul]
  exact r0.2.2 (by simpa using hf) hp
end
end Go.Proofs.YteekjekckgpbfaaDoor.Abs
end
