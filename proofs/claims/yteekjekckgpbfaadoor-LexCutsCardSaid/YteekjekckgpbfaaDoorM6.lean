/- A part of the proof: the abstract machine, the printed functions, what they compute. -/
import Derived.Test.YteekjekckgpbfaaDoorM5
set_option linter.unusedVariables false
set_option linter.unusedSimpArgs false
set_option linter.defProp false
set_option linter.unnecessarySimpa false
section
namespace Go.Proofs.YteekjekckgpbfaaDoor.Abs
open Sp
attribute [local congr] bindO_congr bindR_congr condV_congr wp_congr
section
variable {l : Bs}
theorem rparts_call (hl : l.length ≤ 5000) {f : Nat} (hf : f < 100000000) (ih : RLoopOk l f) : RPartsOk l f := by
 intro w deep i res n h hs hi hw hd hn
 obtain ⟨n, rfl⟩ : ∃ n', n = n' + 1 := ⟨n - 1, by omega⟩
 have e3 : ((w : Int) != 3) = (w != 3) := n_ne w 3
 have r0 : RS h (h.alloc (.cells ⟨29, [.int .i64 0, .int .i64 0], true⟩)) h.next (h.next + 1) [] (.slice none 0 0) [] :=
  ⟨blk_alloc_eq, Nat.le_refl _, by omega, by rw [next_alloc]; omega, .inl ⟨rfl, rfl⟩, (fun x hx => by cases hx), un_alloc h _⟩
 have := ih h h.next (h.next + 1) [] (.slice none 0 0) [] [] w deep i res n n n _ hs hi r0 hw hd (by simp) (by omega) (by omega) (by omega)
 rw [c29]
 unfold inQ at this
 rcases b2 (w != 0) with q | q
 ·rw [q, Bool.true_and] at this
  simp -implicitDefEqProofs only [f29, p29_0, q, e3, SS, SU, Nat.reduceAdd, Nat.reduceLeDiff, Nat.reduceBEq, Nat.reduceMul]
  exact this
 ·rw [q, Bool.false_and] at this
  simp -implicitDefEqProofs only [f29, p29_0, q, SS, SU, Nat.reduceAdd, Nat.reduceLeDiff, Nat.reduceBEq, Nat.reduceMul]
  exact this
theorem r_all (hl : l.length ≤ 5000) : ∀ f : Nat, f < 100000000 → ∀ g, g ≤ f → RLoopOk l g ∧ RPartsOk l g ∧ RDollarOk l g := by
 intro f
 induction f with
 | zero =>
  intro _ g hg
  have hg : g = 0 := by omega
  subst hg
  have hL : RLoopOk l 0 := by intro h0 t10 lo X ov out text w deep i res n N m h hs; simp [parts] at hs
  exact ⟨hL, rparts_call hl (by omega) hL, by intro w deep i res n h hs; simp [dollar] at hs⟩
 | succ f ih =>
  intro hf g hg
  rcases Nat.lt_or_ge g (f + 1) with h1 | h1
  ·exact ih (by omega) g (by omega)
  ·have hg : g = f + 1 := by omega
   subst hg
   obtain ⟨h1, h2, h3⟩ := ih (by omega) f (Nat.le_refl _)
   have hL := rparts_step hl (by omega) h1 h2 h3
   exact ⟨hL, rparts_call hl hf hL, rdollar_step hl (by omega) fun g hg => (ih (by omega) g hg).2.1⟩
theorem rmark_loop (hl : l.length ≤ 5000) {h : Heap} {n N i sb : Nat} (hi : i ≤ l.length) (hsb : h.blk sb = some ⟨9, strs marksL, true⟩) : ∀ (m jx : Nat), jx ≤ 12 → 12 < jx + m →
  l30_7 (cF (n + 1)) N m (.string (mkS l)) (.int .i64 (i : Int)) (.slice (some ⟨sb, 0, none⟩) 12 12) (.int .i64 (jx : Int)) h = some (.ret (.string (mkS (match first (marksL.drop jx) (l.drop i) with | none => [] | some (_, o) => o))), h) := by
 intro m
 induction m with
 | zero => intro jx h1 h2; omega
 | succ m ih =>
  intro jx hjx hm
  rcases b2 (decide (jx < 12)) with g | g
  ·have hlt := of_decide_eq_true g
   have hlen : jx < marksL.length := hlt
   have hg : marksL[jx]? = some marksL[jx] := by simp [hlen]
   have hb : jx + 1 < 9223372036854775808 := by omega
   have hle2 : (marksL[jx]).length ≤ 2 := by
    have hall : marksL.all (fun o => decide (o.length ≤ 2)) = true := by decide
    rw [List.all_eq_true] at hall
    have := hall _ (List.getElem_mem hlen)
    simpa using this
   rw [first_drop hg]
   generalize marksL[jx] = o at hg hle2 ⊢
   have ea := rat_eq (h := h) n o hi (by omega)
   have hia := ia40 sb 0 12 12 jx hlt
   have hget := strs_get marksL jx o hg
   rcases b2 (pre o (l.drop i)) with g2 | g2
   ·simp -implicitDefEqProofs only [l30_7, p30_8, g, hia, hsb, Nat.mul_one, hget, ea, g2, if_true, SS, SU, Nat.reduceAdd, Nat.reduceLeDiff, Nat.reduceBEq, Nat.reduceMul]
   ·have := ih (jx + 1) (by omega) (by omega)
    simp -implicitDefEqProofs only [l30_7, p30_8, g, hia, hsb, Nat.mul_one, hget, ea, g2, wrap_nat (jx + 1) hb, this, Bool.false_eq_true, if_false, SS, SU, Nat.reduceAdd, Nat.reduceLeDiff, Nat.reduceBEq, Nat.reduceMul]
    cases first (marksL.drop (jx + 1)) (l.drop i) with
    | none => rfl
    | some x => rfl
  ·have hge := of_decide_eq_false g
   have hd : marksL.drop jx = [] := List.drop_of_length_le (by show 12 ≤ jx; omega)
   rw [hd]
   simp -implicitDefEqProofs only [l30_7, p30_8, g, p30_3, first, SS, SU, Nat.reduceAdd, Nat.reduceLeDiff, Nat.reduceBEq, Nat.reduceMul]
theorem rmark_eq (hl : l.length ≤ 5000) {h : Heap} {n i : Nat} (hn : 20 ≤ n) (hi : i ≤ l.length) : cF (n + 2) 30 [.string (mkS l), .int .i64 (i : Int)] h = some (.ret (.string (mkS (match first marksL (l.drop i) with | none => [] | some (_, o) => o))), h.alloc (.cells ⟨9, strs marksL, true⟩)) := by
 have hsb : (h.alloc (.cells ⟨9, strs marksL, true⟩)).blk h.next = some ⟨9, strs marksL, true⟩ := blk_alloc_eq
 have := rmark_loop (n := n) (N := n + 1) hl hi hsb (n + 1) 0 (by omega) (by omega)
 rw [List.drop_zero] at this
 rw [c30]
 refine Eq.trans ?_ this
 kernel_rfl
theorem rend_loop {ps : List Part} {h : Heap} {A : Nat → Prop} {v : Value} {n N : Nat} (hps : ps.length ≤ 100000) (hv : RepW h.blk A v ps) : ∀ (rest : List Part) (jx : Nat) (e : Bs) (q : Bool) (m : Nat), ps.drop jx = rest → jx ≤ ps.length → e.length + total rest ≤ 100000 → ps.length - jx < m →
  l31_8 (cF n) N m v (.string (mkS e)) (.bool q) (.int .i64 (jx : Int)) h = some (.ret (match wordEnd rest e q with | none => .tuple ⟨[.string (mkS []), .bool false, .bool false]⟩ | some (e', q') => .tuple ⟨[.string (mkS e'), .bool q', .bool true]⟩), h) := by
 have hlen : lenA E 37 v = some (.int .i64 (ps.length : Int)) := by
  cases hv with
  | nil => rfl
  | some b cs n _ _ _ _ hn _ => rw [ln37, hn]
 intro rest
 induction rest with
 | nil =>
  intro jx e q m hd hj he hm
  obtain ⟨m, rfl⟩ : ∃ m', m = m' + 1 := ⟨m - 1, by omega⟩
  have hge : ps.length ≤ jx := by have := congrArg List.length hd; simp at this; omega
  have hlt : decide (jx < ps.length) = false := decide_eq_false (by omega)
  simp -implicitDefEqProofs only [l31_8, p31_9, hlen, hlt, p31_4, wordEnd, SS, SU, Nat.reduceAdd, Nat.reduceLeDiff, Nat.reduceBEq, Nat.reduceMul]
 | cons x rest ih =>
  intro jx e q m hd hj he hm
  obtain ⟨m, rfl⟩ : ∃ m', m = m' + 1 := ⟨m - 1, by omega⟩
  have hlt0 : jx < ps.length := by have := congrArg List.length hd; simp at this; omega
  have hlt : decide (jx < ps.length) = true := decide_eq_true hlt0
  have hg : ps[jx]? = some x := by
   have : (ps.drop jx)[0]? = some x := by rw [hd]; rfl
   simpa using this
  have hd' : ps.drop (jx + 1) = rest := by rw [← List.drop_drop, hd]; rfl
  have hb1 : jx + 1 < 9223372036854775808 := by omega
  have htot : total (x :: rest) = x.text.length + total rest := rfl
  cases hv with
  | nil => simp at hlt0
  | some b cs' n' _ ha hb hl hn' hpos =>
   obtain ⟨o, q', w, ws, hxe, hww, hcells, hclen⟩ := hl.get hg
   have z0 : 0 + jx * 6 = jx * 6 := by omega
   have g0 : cs'[jx * 6]? = some (.int .i64 (x.kind : Int)) := by
    have := congrArg (fun l => l[0]?) hcells
    simpa using this
   have g1 : cs'[jx * 6 + 1]? = some (.string (mkS x.text)) := by
    have := congrArg (fun l => l[1]?) hcells
    simpa using this
   have e0 : ((x.kind : Int) != 0) = (x.kind != 0) := n_ne x.kind 0
   have e1 : ((x.kind : Int) != 1) = (x.kind != 1) := n_ne x.kind 1
   have e1' : ((x.kind : Int) == 1) = (x.kind == 1) := n_eq x.kind 1
   have hadd := bin_sadd E 9 e x.text (by unfold most; omega)
   have hwe : wordEnd (x :: rest) e q = if x.kind == 0 || x.kind == 1 then wordEnd rest (e ++ x.text) (q || x.kind == 1) else none := by
    rw [hxe]; simp only [wordEnd]; rfl
   have hia := ia37 b 0 n' n' jx (by omega)
   have hnext := ih (jx + 1) (e ++ x.text) (q || x.kind == 1) m hd' (by omega) (by simp; omega) (by omega)
   rw [hwe]
   have z1 : jx * 6 + 0 = jx * 6 := rfl
   have good : (x.kind == 0 || x.kind == 1) = true → p31_16 (cF n) N (l31_8 (cF n) N m) (.slice (some ⟨b, 0, none⟩) n' n') (.string (mkS e)) (.bool q) (.int .i64 (jx : Int)) h = some (.ret (match wordEnd rest (e ++ x.text) (q || x.kind == 1) with | none => .tuple ⟨[.string (mkS []), .bool false, .bool false]⟩ | some (e', q') => .tuple ⟨[.string (mkS e'), .bool q', .bool true]⟩), h) := by
    intro _
    rcases b2 q with gq | gq
    ·subst gq
     rw [Bool.true_or] at hnext ⊢
     simp -implicitDefEqProofs only [p31_16, hia, z0, hb, g1, hadd, p31_13, wrap_nat (jx + 1) hb1, SS, SU, Nat.reduceAdd, Nat.reduceLeDiff, Nat.reduceBEq, Nat.reduceMul]
     exact hnext
    ·subst gq
     rw [Bool.false_or] at hnext ⊢
     simp -implicitDefEqProofs only [p31_16, hia, z0, z1, hb, g0, g1, hadd, e1', p31_13, wrap_nat (jx + 1) hb1, SS, SU, Nat.reduceAdd, Nat.reduceLeDiff, Nat.reduceBEq, Nat.reduceMul]
     exact hnext
   rcases b2 (x.kind == 0) with q0 | q0
   ·have q0' : (x.kind != 0) = false := by simp [bne, q0]
    have hg2 := good (by rw [q0]; rfl)
    rw [if_pos (by rw [q0]; rfl)]
    simp -implicitDefEqProofs only [l31_8, p31_9, hlen, hlt, hia, z0, z1, hb, g0, e0, q0', p31_19, SS, SU, Nat.reduceAdd, Nat.reduceLeDiff, Nat.reduceBEq, Nat.reduceMul]
    exact hg2
   ·have q0' : (x.kind != 0) = true := by simp [bne, q0]
    rcases b2 (x.kind == 1) with q1 | q1
    ·have q1' : (x.kind != 1) = false := by simp [bne, q1]
     have hg2 := good (by rw [q0, q1]; rfl)
     rw [if_pos (by rw [q1]; simp)]
     simp -implicitDefEqProofs only [l31_8, p31_9, hlen, hlt, hia, z0, z1, hb, g0, e0, q0', e1, q1', p31_19, SS, SU, Nat.reduceAdd, Nat.reduceLeDiff, Nat.reduceBEq, Nat.reduceMul]
     exact hg2
    ·have q1' : (x.kind != 1) = true := by simp [bne, q1]
     rw [if_neg (by rw [q0, q1]; simp)]
     simp -implicitDefEqProofs only [l31_8, p31_9, hlen, hlt, hia, z0, z1, hb, g0, e0, q0', e1, q1', p31_19, SS, SU, Nat.reduceAdd, Nat.reduceLeDiff, Nat.reduceBEq, Nat.reduceMul]
end
end Go.Proofs.YteekjekckgpbfaaDoor.Abs
end
section
namespace Go.Proofs.YteekjekckgpbfaaDoor.Abs
open Sp
attribute [local congr] bindO_congr bindR_congr condV_congr wp_congr
def docV (res : Rz (Bs × Nat × Bs)) : Value := match res with | .bad _ _ => .tuple ⟨[.string (mkS []), .int .i64 (-1)]⟩ | .ok (text, j, _) => .tuple ⟨[.string (mkS text), .int .i64 (j : Int)]⟩
theorem mem_row {c : UInt8} {r : Bs} (h : c ∈ row r) : (c != 10) = true := by
 induction r with
 | nil => cases h
 | cons b r ih =>
  unfold row at h ih
  rw [List.takeWhile_cons] at h
  rcases b2 (b != 10) with q | q
  ·rw [q, if_pos rfl] at h
   rcases List.mem_cons.1 h with e | e
   ·rw [e]; exact q
   ·exact ih e
  ·rw [q, if_neg (by decide)] at h; cases h
theorem min2 (a b : Nat) : minL [.int .i64 (a : Int), .int .i64 (b : Int)] = some (.int .i64 ((min a b : Nat) : Int)) := by
 show (bif true then (some (.int .i64 (bif decide ((b : Int) < (a : Int)) then (b : Int) else (a : Int))) : Option Value) else none) = _
 rcases b2 (decide ((b : Int) < (a : Int))) with g | g
 ·have := of_decide_eq_true g
  rw [g, Nat.min_eq_right (by omega)]; rfl
 ·have := of_decide_eq_false g
  rw [g, Nat.min_eq_left (by omega)]; rfl
theorem max2 (n : Nat) (hn : n < 4611686018427387904) : maxL [.int .i64 (wrapA .i64 ((n : Int) - 2)), .int .i64 0] = some (.int .i64 ((n - 2 : Nat) : Int)) := by
 rw [wrap_id _ (by omega) (by omega)]
 show (bif true then (some (.int .i64 (bif decide ((n : Int) - 2 < 0) then (0 : Int) else (n : Int) - 2)) : Option Value) else none) = _
 rcases b2 (decide ((n : Int) - 2 < 0)) with g | g
 ·have := of_decide_eq_true g
  rw [g, show n - 2 = 0 by omega]; rfl
 ·have := of_decide_eq_false g
  rw [g, show ((n - 2 : Nat) : Int) = (n : Int) - 2 by omega]; rfl
section
variable {l : Bs}
theorem row_loop (hl : l.length ≤ 5000) {h : Heap} {n N i : Nat} {s2 s8 : Value} {F : Value → Value → Value → Value → Heap → Ans} (hi : i ≤ l.length) : ∀ (m k : Nat), i ≤ k → k ≤ i + (row (l.drop i)).length → l.length < k + m →
  l27_21 (cF n) N F m (.string (mkS l)) (.int .i64 (i : Int)) s2 s8 (.int .i64 (k : Int)) h = p27_13 (cF n) N F (.string (mkS l)) (.int .i64 (i : Int)) s2 s8 (.int .i64 ((i + (row (l.drop i)).length : Nat) : Int)) h := by
 have hle := row_le (l.drop i)
 simp only [List.length_drop] at hle
 intro m
 induction m with
 | zero => intro k h1 h2 h3; omega
 | succ m ih =>
  intro k hk1 hk2 hm
  have hb : k + 1 < 9223372036854775808 := by omega
  have hrow : row (l.drop i) = (l.drop i).take (row (l.drop i)).length := by
   cases hf : find 10 (l.drop i) with
   | none => rw [row_none hf, List.take_length]
   | some x => obtain ⟨e, hx⟩ := row_some' hf; rw [e]; simp
  rcases Nat.lt_or_ge k (i + (row (l.drop i)).length) with hlt | hge
  ·have hklt : k < l.length := by omega
   have h1 : decide (k < l.length) = true := decide_eq_true hklt
   have hg := drop_get l k hklt
   have hmem : l[k] ∈ row (l.drop i) := by
    rw [hrow]
    have : ((l.drop i).take (row (l.drop i)).length)[k - i]? = some l[k] := by
     rw [List.getElem?_take_of_lt (by omega), List.getElem?_drop, show i + (k - i) = k by omega]
     exact hg
    exact List.mem_of_getElem? this
   have hne : (l[k] != 10) = true := by
    exact mem_row hmem
   generalize l[k] = c at hg hne
   have e10 : ((c.toNat : Int) != 10) = (c != 10) := u8_nen c 10 (by decide)
   have := ih (k + 1) (by omega) (by omega) (by omega)
   simp -implicitDefEqProofs only [l27_21, p27_22, h1, ix9 l k c hg, e10, hne, wrap_nat (k + 1) hb, this, SS, SU, Nat.reduceAdd, Nat.reduceLeDiff, Nat.reduceBEq, Nat.reduceMul]
  ·have hkeq : k = i + (row (l.drop i)).length := by omega
   rcases b2 (decide (k < l.length)) with h1 | h1
   ·have hklt := of_decide_eq_true h1
    have hg := drop_get l k hklt
    have hc : l[k] = 10 := by
     cases hf : find 10 (l.drop i) with
     | none =>
      rw [row_none hf] at hkeq
      simp at hkeq; omega
     | some x =>
      obtain ⟨e, hx⟩ := row_some' hf
      have hxk : k = i + x := by rw [hkeq, e]; simp at hx ⊢; omega
      have hfx : ∀ (r : Bs) (x : Nat), find 10 r = some x → r[x]? = some 10 := by
       intro r
       induction r with
       | nil => intro x h; cases h
       | cons b r ih2 =>
        intro x h
        simp only [find] at h
        rcases b2 (b == 10) with q | q
        ·simp [q] at h; subst h; simpa using q
        ·simp only [q, Bool.false_eq_true, if_false] at h
         cases hf2 : find 10 r with
         | none => simp [hf2] at h
         | some y => simp [hf2] at h; subst h; simpa using ih2 y hf2
      have := hfx _ _ hf
      rw [List.getElem?_drop, ← hxk, hg] at this
      exact Option.some.inj this
    rw [hc] at hg
    have e10 : (((10 : UInt8).toNat : Int) != 10) = false := rfl
    simp -implicitDefEqProofs only [l27_21, p27_22, h1, ix9 l k 10 hg, e10, SS, SU, Nat.reduceAdd, Nat.reduceLeDiff, Nat.reduceBEq, Nat.reduceMul]
    rw [hkeq]
   ·simp -implicitDefEqProofs only [l27_21, p27_22, h1, SS, SU, Nat.reduceAdd, Nat.reduceLeDiff, Nat.reduceBEq, Nat.reduceMul]
    rw [hkeq]
theorem rdoc_loop (hl : l.length ≤ 5000) {h : Heap} {n N from' : Nat} {last : Bs} (hN : 5010 ≤ N) : ∀ (g st m : Nat) (res : Rz (Bs × Nat × Bs)),
  docRows last g ((l.drop from').take (st - from')) st (l.drop st) = some res → from' ≤ st → st ≤ l.length → g ≤ m →
  l27_6 (cF n) N m (.string (mkS l)) (.int .i64 (st : Int)) (.string (mkS last)) (.int .i64 (from' : Int)) h = some (.ret (docV res), h) ∧
   (∀ text j r', res = .ok (text, j, r') → j ≤ l.length ∧ r' = l.drop j ∧ from' ≤ j ∧ text.length ≤ l.length) ∧ (∀ c a, res = .bad c a → c = 19 ∧ a = l.length) := by
 intro g
 induction g with
 | zero => intro st m res hs; simp [docRows] at hs
 | succ g ih =>
  intro st m res hs hf hst hm
  obtain ⟨m, rfl⟩ : ∃ m', m = m' + 1 := ⟨m - 1, by omega⟩
  simp only [docRows] at hs
  rcases b2 (decide (st < l.length)) with h1 | h1
  ·have hlt := of_decide_eq_true h1
   have hne : (l.drop st).isEmpty = false := by
    cases hd : l.drop st with
    | nil => have := congrArg List.length hd; simp at this; omega
    | cons => rfl
   have hle := row_le (l.drop st)
   have hdl : (l.drop st).length = l.length - st := by simp
   have hrow : (l.drop st).take (row (l.drop st)).length = row (l.drop st) := by
    cases hf : find 10 (l.drop st) with
    | none => rw [row_none hf, List.take_length]
    | some x => obtain ⟨e, hx⟩ := row_some' hf; rw [e]; simp
   simp only [hne, Bool.false_eq_true, if_false] at hs
   have hloop := row_loop hl (h := h) (n := n) (N := N) (s2 := .string (mkS last)) (s8 := .int .i64 (from' : Int)) (F := l27_6 (cF n) N m) hst N st (Nat.le_refl _) (by omega) (by omega)
   have hb1 : st + (row (l.drop st)).length + 1 < 9223372036854775808 := by omega
   have hsv := sl9_lh l st (st + (row (l.drop st)).length) h (by omega) (by omega)
   rw [show st + (row (l.drop st)).length - st = (row (l.drop st)).length by omega, hrow] at hsv
   have hmin : min (st + (row (l.drop st)).length + 1) l.length = st + min ((row (l.drop st)).length + 1) (l.drop st).length := by omega
   have hsv2 := sl9_lh l from' st h hf (by omega)
   rcases b2 (row (l.drop st) == last) with g1 | g1
   ·simp only [g1, if_true] at hs
    have hs := Option.some.inj hs
    subst hs
    have hrl : row (l.drop st) = last := by simpa using g1
    have hml : min (st + (row (l.drop st)).length + 1) l.length = st + min (last.length + 1) (l.drop st).length := by rw [hmin, hrl]
    refine ⟨?_, ?_, fun c a e => by cases e⟩
    ·simp -implicitDefEqProofs only [l27_6, p27_7, h1, hloop, p27_13, wrap_nat (st + (row (l.drop st)).length + 1) hb1, min2, hsv, g1, hsv2, docV, SS, SU, Nat.reduceAdd, Nat.reduceLeDiff, Nat.reduceBEq, Nat.reduceMul]
     rw [hml]
    ·intro text j r' e
     injection e with e; injection e with e1 e; injection e with e2 e3
     subst e1; subst e2; subst e3
     refine ⟨by omega, ?_, by omega, by simp; omega⟩
     rw [List.drop_drop]
     rcases Nat.lt_or_ge (l.drop st).length (last.length + 1) with c | c
     ·rw [Nat.min_eq_right (by omega), List.drop_of_length_le (by omega), List.drop_of_length_le (by omega)]
     ·rw [Nat.min_eq_left c]
   ·simp only [g1, Bool.false_eq_true, if_false] at hs
    have hacc : (l.drop from').take (st - from') ++ (l.drop st).take ((row (l.drop st)).length + 1) = (l.drop from').take (st + min ((row (l.drop st)).length + 1) (l.drop st).length - from') := by
     have e1 : l.drop st = (l.drop from').drop (st - from') := by rw [List.drop_drop]; congr 1; omega
     have e2 : st + min ((row (l.drop st)).length + 1) (l.drop st).length - from' = (st - from') + min ((row (l.drop st)).length + 1) (l.drop st).length := by omega
     have h3 : ∀ (r : Bs) (a b : Nat), r.take (a + b) = r.take a ++ (r.drop a).take b := fun r a b => List.take_add
     rw [e2, h3 (l.drop from'), ← e1]
     congr 1
     rcases Nat.lt_or_ge (l.drop st).length ((row (l.drop st)).length + 1) with c | c
     ·rw [Nat.min_eq_right (by omega), List.take_of_length_le (by omega), List.take_of_length_le (by omega)]
     ·rw [Nat.min_eq_left c]
    have hdj : (l.drop st).drop ((row (l.drop st)).length + 1) = l.drop (st + min ((row (l.drop st)).length + 1) (l.drop st).length) := by
     rw [List.drop_drop]
     rcases Nat.lt_or_ge (l.drop st).length ((row (l.drop st)).length + 1) with c | c
     ·rw [Nat.min_eq_right (by omega), List.drop_of_length_le (by omega), List.drop_of_length_le (by omega)]
     ·rw [Nat.min_eq_left c]
    rw [hacc, hdj] at hs
    obtain ⟨e0, e1, e2⟩ := ih _ m res hs (by omega) (by omega) (by omega)
    refine ⟨?_, e1, e2⟩
    simp -implicitDefEqProofs only [l27_6, p27_7, h1, hloop, p27_13, wrap_nat (st + (row (l.drop st)).length + 1) hb1, min2, hsv, g1, hmin, SS, SU, Nat.reduceAdd, Nat.reduceLeDiff, Nat.reduceBEq, Nat.reduceMul]
    exact e0
  ·have hge := of_decide_eq_false h1
   have hd : (l.drop st).isEmpty = true := by rw [List.drop_of_length_le (by omega)]; rfl
   simp only [hd, if_true] at hs
   have hs := Option.some.inj hs
   subst hs
   have hsl : st = l.length := by omega
   refine ⟨?_, fun text j r' e => (by cases e), fun c a e => ?_⟩
   ·simp -implicitDefEqProofs only [l27_6, p27_7, h1, p27_3, docV, SS, SU, Nat.reduceAdd, Nat.reduceLeDiff, Nat.reduceBEq, Nat.reduceMul]
   ·injection e with e1 e2
    exact ⟨e1.symm, by omega⟩
theorem rdocument_eq (hl : l.length ≤ 5000) {h : Heap} {n i f : Nat} {last : Bs} {res : Rz (Bs × Nat × Bs)} (hs : docRows last f [] i (l.drop i) = some res) (hi : i ≤ l.length) (hf : f ≤ n) (hn : 5010 ≤ n) :
  cF (n + 1) 27 [.string (mkS l), .int .i64 (i : Int), .string (mkS last)] h = some (.ret (docV res), h) ∧
   (∀ text j r', res = .ok (text, j, r') → j ≤ l.length ∧ r' = l.drop j ∧ i ≤ j ∧ text.length ≤ l.length) ∧ (∀ c a, res = .bad c a → c = 19 ∧ a = l.length) := by
 have e0 : (l.drop i).take (i - i) = [] := by rw [Nat.sub_self]; rfl
 have := rdoc_loop hl (h := h) (n := n) (N := n) (from' := i) hn f i n res (by rw [e0]; exact hs) (Nat.le_refl _) hi hf
 refine ⟨?_, this.2⟩
 rw [c27]
 exact this.1
theorem rend_eq {ps : List Part} {h : Heap} {A : Nat → Prop} {v : Value} {n : Nat} (hps : ps.length < n) (hps' : ps.length ≤ 100000) (hv : RepW h.blk A v ps) (ht : total ps ≤ 100000) : cF (n + 1) 31 [v] h = some (.ret (match wordEnd ps [] false with | none => .tuple ⟨[.string (mkS []), .bool false, .bool false]⟩ | some (e', q') => .tuple ⟨[.string (mkS e'), .bool q', .bool true]⟩), h) := by
 rw [c31]
 exact rend_loop (n := n) (N := n) hps' hv ps 0 [] false n List.drop_zero (by omega) (by simp; omega) (by omega)
end
end Go.Proofs.YteekjekckgpbfaaDoor.Abs
end
section
namespace Go.Proofs.YteekjekckgpbfaaDoor.Abs
open Sp
attribute [local congr] bindO_congr bindR_congr condV_congr wp_congr
def wInts (ws : List (Nat × Bs)) : List Value := ws.map fun x => .int .i64 (x.1 : Int)
def wStrs (ws : List (Nat × Bs)) : List Value := ws.map fun x => .string (mkS x.2)
structure RL (h0 h : Heap) (t3 lo : Nat) (X : List Nat) (tv wv ev : Value) (toks : List Tok) (waits : List (Nat × Bs)) (cs : List Value) : Prop where
 a : h.blk t3 = some ⟨29, [.int .i64 0, .int .i64 0], true⟩
 c1 : h0.next ≤ t3
 c2 : t3 < lo
 c3 : lo ≤ h.next
 c4 : ∀ x, x ∈ X → x < h.next
 t : GrowV h lo X 39 5 tv cs toks.length
 r : RepT h.blk (Al lo X) cs toks
 w : GrowV h lo X 3 1 wv (wInts waits) waits.length
 e : GrowV h lo X 9 1 ev (wStrs waits) waits.length
 u : Un h0.next h0 h
section
variable {h0 h : Heap} {t3 lo : Nat} {X : List Nat} {tv wv ev : Value} {toks : List Tok} {waits : List (Nat × Bs)} {cs : List Value}
theorem RL.un {h' : Heap} (k : RL h0 h t3 lo X tv wv ev toks waits cs) (u : Un h.next h h') : RL h0 h' t3 lo X tv wv ev toks waits cs := by
 have st : ∀ b y, h.blk b = some y → h'.blk b = some y := fun b y e => (u.2 _ (Heap.blk_lt e)).trans e
 exact ⟨st _ _ k.a, k.c1, k.c2, Nat.le_trans k.c3 u.1, fun x hx => Nat.lt_of_lt_of_le (k.c4 x hx) u.1, k.t.keep (fun b _ e => st b _ e) fun _ h => h, k.r.mono fun b y a e => ⟨a, st b y e⟩, k.w.keep (fun b _ e => st b _ e) fun _ h => h, k.e.keep (fun b _ e => st b _ e) fun _ h => h,
  ⟨Nat.le_trans k.u.1 u.1, fun b hb => (u.2 b (Nat.lt_of_lt_of_le hb k.u.1)).trans (k.u.2 b hb)⟩⟩
theorem RL.f1 (k : RL h0 h t3 lo X tv wv ev toks waits cs) (ws : List Value) : (h.set t3 (.cells ⟨29, ws, true⟩)).blk t3 = some ⟨29, ws, true⟩ := blk_set_eq (Heap.blk_lt k.a)
theorem RL.done (k : RL h0 h t3 lo X tv wv ev toks waits cs) (ws : List Value) : Un h0.next h0 (h.set t3 (.cells ⟨29, ws, true⟩)) := un_new k.u k.c1 _
theorem RL.grown {h' : Heap} {e sz : Nat} (k : RL h0 h t3 lo X tv wv ev toks waits cs) (hn : h.next ≤ h'.next) (hnx : h.next < h'.next) (hsame : ∀ b, b < h.next → (b < lo ∨ b ∉ X) → h'.blk b = h.blk b) :
  h'.blk t3 = some ⟨29, [.int .i64 0, .int .i64 0], true⟩ ∧ lo ≤ h'.next ∧ (∀ x, x ∈ h.next :: X → x < h'.next) ∧ RepT h'.blk (Al lo (h.next :: X)) cs toks ∧ Un h0.next h0 h' ∧ (∀ b y, Al lo X b → h.blk b = some y → Al lo (h.next :: X) b ∧ h'.blk b = some y) := by
 have h1 := k.c1
 have h2 := k.c2
 have h3 := k.c3
 have hm : ∀ b y, Al lo X b → h.blk b = some y → Al lo (h.next :: X) b ∧ h'.blk b = some y := by
  intro b y a e
  have hb := Heap.blk_lt e
  refine ⟨⟨a.1, ?_⟩, (hsame b hb (.inr a.2)).trans e⟩
  simp only [List.mem_cons, not_or]
  exact ⟨by omega, a.2⟩
 refine ⟨(hsame _ (Heap.blk_lt k.a) (.inl k.c2)).trans k.a, by omega, fun x hx => ?_, k.r.mono hm, ⟨Nat.le_trans k.u.1 hn, fun b hb => (hsame b (by have := k.u.1; omega) (.inl (by omega))).trans (k.u.2 b hb)⟩, hm⟩
 rcases List.mem_cons.1 hx with e | e
 ·omega
 ·have := k.c4 x e; omega
theorem RL.tok (k : RL h0 h t3 lo X tv wv ev toks waits cs) (x : Tok) {wa : Option Addr} {wn wc : Nat} (hw : RepW h.blk (Al lo X) (.slice wa wn wc) x.parts) (hmax : toks.length ≤ 100000) :
  ∃ tv' h' X' cs', buildSliceA E 22 1 [(0, .agg ⟨[.int .i64 (x.kind : Int), .string (mkS x.text), .slice wa wn wc, .bool x.quoted, .int .i64 (x.at' : Int)]⟩)] h = some (.slice (some ⟨h.next, 0, none⟩) 1 1, h.alloc (.cells ⟨39, [.int .i64 (x.kind : Int), .string (mkS x.text), .slice wa wn wc, .bool x.quoted, .int .i64 (x.at' : Int)], true⟩)) ∧
   appendA E 22 tv (.slice (some ⟨h.next, 0, none⟩) 1 1) (h.alloc (.cells ⟨39, [.int .i64 (x.kind : Int), .string (mkS x.text), .slice wa wn wc, .bool x.quoted, .int .i64 (x.at' : Int)], true⟩)) = some (tv', h') ∧ (∃ a, tv' = .slice a (toks.length + 1) (toks.length + 1)) ∧
   RL h0 h' t3 lo X' tv' wv ev (toks ++ [x]) waits cs' ∧ RepW h'.blk (Al lo X') (.slice wa wn wc) x.parts := by
 have k1 := k.un (un_alloc h (.cells ⟨39, [.int .i64 (x.kind : Int), .string (mkS x.text), .slice wa wn wc, .bool x.quoted, .int .i64 (x.at' : Int)], true⟩))
 have hw1 : RepW (h.alloc (.cells ⟨39, [.int .i64 (x.kind : Int), .string (mkS x.text), .slice wa wn wc, .bool x.quoted, .int .i64 (x.at' : Int)], true⟩)).blk (Al lo X) (.slice wa wn wc) x.parts := hw.mono fun b y a e => ⟨a, (blk_alloc_lt (Heap.blk_lt e)).trans e⟩
 obtain ⟨h', e1, g1, hn, hsame, hsame2⟩ := k1.t.snoc (t := 22) (sz := 5) (bt := 64) ty22 rfl ty39 rfl rfl rfl (show _ = some ⟨39, [.int .i64 (x.kind : Int), .string (mkS x.text), .slice wa wn wc, .bool x.quoted, .int .i64 (x.at' : Int)], true⟩ from blk_alloc_eq) rfl rfl k1.c3 (by unfold most; omega)
 obtain ⟨q1, q2, q3, q4, q5, q6⟩ := k1.grown (e := 39) (sz := 5) (by omega) (by omega) hsame
 refine ⟨_, h', _, _, bs22_1 _ h rfl, e1, ⟨_, rfl⟩, ⟨q1, k.c1, k.c2, q2, q3, by rw [List.length_append, List.length_singleton]; exact g1, RepT.append (.cons _ _ _ _ _ _ _ _ (hw1.mono q6) .nil) q4, k1.w.keep (fun b _ e => hsame2 b _ e (show (3 : Nat) ≠ 39 by decide)) fun _ h => List.mem_cons_of_mem _ h, k1.e.keep (fun b _ e => hsame2 b _ e (show (9 : Nat) ≠ 39 by decide)) fun _ h => List.mem_cons_of_mem _ h, q5⟩, hw1.mono q6⟩
theorem RL.wait (k : RL h0 h t3 lo X tv wv ev toks waits cs) (n : Nat) (e : Bs) (hmax : waits.length ≤ 100000) :
  ∃ wv' ev' h2 h4 X' cs', buildSliceA E 60 1 [(0, .int .i64 (n : Int))] h = some (.slice (some ⟨h.next, 0, none⟩) 1 1, h.alloc (.cells ⟨3, [.int .i64 (n : Int)], true⟩)) ∧
   appendA E 60 wv (.slice (some ⟨h.next, 0, none⟩) 1 1) (h.alloc (.cells ⟨3, [.int .i64 (n : Int)], true⟩)) = some (wv', h2) ∧
   buildSliceA E 40 1 [(0, .string (mkS e))] h2 = some (.slice (some ⟨h2.next, 0, none⟩) 1 1, h2.alloc (.cells ⟨9, [.string (mkS e)], true⟩)) ∧
   appendA E 40 ev (.slice (some ⟨h2.next, 0, none⟩) 1 1) (h2.alloc (.cells ⟨9, [.string (mkS e)], true⟩)) = some (ev', h4) ∧
   RL h0 h4 t3 lo X' tv wv' ev' toks (waits ++ [(n, e)]) cs' := by
 have k1 := k.un (un_alloc h (.cells ⟨3, [.int .i64 (n : Int)], true⟩))
 obtain ⟨h2, e1, g1, hn, hsame, hsame2⟩ := k1.w.snoc (t := 60) (sz := 1) (bt := 8) ty60 rfl ty3 rfl rfl rfl (show _ = some ⟨3, [.int .i64 (n : Int)], true⟩ from blk_alloc_eq) rfl rfl k1.c3 (by unfold most; omega)
 obtain ⟨q1, q2, q3, q4, q5, q6⟩ := k1.grown (e := 3) (sz := 1) (by omega) (by omega) hsame
 have k2t := k1.t.keep (X' := (h.alloc (.cells ⟨3, [.int .i64 (n : Int)], true⟩)).next :: X) (fun b _ e => hsame2 b _ e (show (39 : Nat) ≠ 3 by decide)) fun _ h => List.mem_cons_of_mem _ h
 have k2e := k1.e.keep (X' := (h.alloc (.cells ⟨3, [.int .i64 (n : Int)], true⟩)).next :: X) (fun b _ e => hsame2 b _ e (show (9 : Nat) ≠ 3 by decide)) fun _ h => List.mem_cons_of_mem _ h
 have u3 := un_alloc h2 (.cells ⟨9, [.string (mkS e)], true⟩)
 have st3 : ∀ b y, h2.blk b = some y → (h2.alloc (.cells ⟨9, [.string (mkS e)], true⟩)).blk b = some y := fun b y e => (u3.2 _ (Heap.blk_lt e)).trans e
 obtain ⟨h4, e2, g2, hn2, hsame3, hsame4⟩ := (k2e.keep (X' := (h.alloc (.cells ⟨3, [.int .i64 (n : Int)], true⟩)).next :: X) (fun b _ e => st3 b _ e) fun _ h => h).snoc (t := 40) (sz := 1) (bt := 16) ty40 rfl ty9 rfl rfl rfl (show _ = some ⟨9, [.string (mkS e)], true⟩ from blk_alloc_eq) rfl rfl (show lo ≤ (h2.alloc (.cells ⟨9, [.string (mkS e)], true⟩)).next by rw [next_alloc]; omega) (by unfold most; omega)
 have hc1 := k.c1
 have hc2 := k.c2
 have hn3 : (h2.alloc (.cells ⟨9, [.string (mkS e)], true⟩)).next = h2.next + 1 := rfl
 refine ⟨_, _, h2, h4, (h2.alloc (.cells ⟨9, [.string (mkS e)], true⟩)).next :: (h.alloc (.cells ⟨3, [.int .i64 (n : Int)], true⟩)).next :: X, cs, bs60_1 _ h rfl, e1, bs40_1 _ h2 rfl, e2, hsame4 _ _ (st3 _ _ q1) (show (29 : Nat) ≠ 9 by decide), k.c1, k.c2, by omega, fun x hx => ?_, ?_, ?_, ?_, ?_, ?_⟩
 ·rcases List.mem_cons.1 hx with ee | ee
  ·omega
  ·have := q3 x ee; omega
 ·exact k2t.keep (fun b _ e => hsame4 b _ (st3 b _ e) (show (39 : Nat) ≠ 9 by decide)) fun _ h => List.mem_cons_of_mem _ h
 ·refine q4.mono fun b y a ee => ?_
  have hb := Heap.blk_lt ee
  refine ⟨⟨a.1, ?_⟩, (hsame3 b (by omega) (.inr a.2)).trans (st3 b y ee)⟩
  have := a.2
  simp only [List.mem_cons, not_or] at this ⊢
  exact ⟨by omega, this.1, this.2⟩
 ·have : wInts (waits ++ [(n, e)]) = wInts waits ++ [.int .i64 (n : Int)] := by simp [wInts]
  rw [this, List.length_append, List.length_singleton]
  exact g1.keep (fun b _ e => hsame4 b _ (st3 b _ e) (show (3 : Nat) ≠ 9 by decide)) fun _ h => List.mem_cons_of_mem _ h
 ·have : wStrs (waits ++ [(n, e)]) = wStrs waits ++ [.string (mkS e)] := by simp [wStrs]
  rw [this, List.length_append, List.length_singleton]
  exact g2
 ·exact ⟨Nat.le_trans q5.1 (by omega), fun b hb => (hsame3 b (by have := q5.1; omega) (.inl (by omega))).trans ((u3.2 b (by have := q5.1; omega)).trans (q5.2 b hb))⟩
theorem RL.setCells {tb : Nat} {cs' : List Value} {toks' : List Tok} (k : RL h0 h t3 lo X (.slice (some ⟨tb, 0, none⟩) toks.length toks.length) wv ev toks waits cs) (hn : 0 < toks.length) (hb : h.blk tb = some ⟨39, cs, true⟩) (hx : tb ∈ X) (hlo : lo ≤ tb) (hl : cs'.length = cs.length) (ht : toks'.length = toks.length) (hr : RepT h.blk (Al lo X) cs' toks') :
  RL h0 (h.set tb (.cells ⟨39, cs', true⟩)) t3 lo X (.slice (some ⟨tb, 0, none⟩) toks.length toks.length) wv ev toks' waits cs' := by
 have h1 := k.c1
 have h2 := k.c2
 have ne : ∀ {e : Nat} {ds : List Value} {b : Nat}, h.blk b = some ⟨e, ds, true⟩ → e ≠ 39 → b ≠ tb := by
  intro e ds b he hne eq
  subst eq
  rw [hb] at he
  injection he with he
  injection he with he
  exact hne he.symm
 refine ⟨(blk_set_ne (by omega)).trans k.a, k.c1, k.c2, by rw [next_set]; exact k.c3, fun x hx => by rw [next_set]; exact k.c4 x hx, ?_, hr.mono fun c y a e => ⟨a, (blk_set_ne fun eq => a.2 (eq ▸ hx)).trans e⟩, k.w.keep (fun b _ e => (blk_set_ne (ne e (by decide))).trans e) fun _ h => h, k.e.keep (fun b _ e => (blk_set_ne (ne e (by decide))).trans e) fun _ h => h, un_new k.u (by omega) _⟩
 obtain ⟨_, hl2⟩ := k.t.len
 exact .inr ⟨tb, by rw [ht], by omega, blk_set_eq (Heap.blk_lt hb), by rw [hl, hl2, ht], hx, hlo⟩
theorem RL.blk (k : RL h0 h t3 lo X tv wv ev toks waits cs) (hn : 0 < toks.length) : ∃ tb, tv = .slice (some ⟨tb, 0, none⟩) toks.length toks.length ∧ h.blk tb = some ⟨39, cs, true⟩ ∧ tb ∈ X ∧ lo ≤ tb ∧ cs.length = toks.length * 5 := by
 rcases k.t with ⟨_, _, h0⟩ | ⟨b, e, _, hb, hl, hx, hlo⟩
 ·omega
 ·exact ⟨b, e, hb, hx, hlo, hl⟩
end
end Go.Proofs.YteekjekckgpbfaaDoor.Abs
end
section
namespace Go.Proofs.YteekjekckgpbfaaDoor.Abs
open Sp
attribute [local congr] bindO_congr bindR_congr condV_congr wp_congr
def LRQ (h0 : Heap) (res : Rz (List Tok)) (r : Res) (h' : Heap) : Prop := Un h0.next h0 h' ∧ match res with
 | .ok toks => ∃ v, r = .ret (.tuple ⟨[v, zeroAt]⟩) ∧ RepTk h' (h0.next ≤ ·) v toks
 | .bad c a => r = .ret (.tuple ⟨[.slice none 0 0, atV c a]⟩) ∧ 0 < c
theorem sh_some {α : Type} {k : Nat} {x : Option (Rz (α × Nat × Bs))} {y : Rz (α × Nat × Bs)} (h : sh k x = some y) : ∃ z, x = some z ∧ (match z with | .ok (a, j, r) => y = .ok (a, j + k, r) | .bad c a => y = .bad c (a + k)) := by
 cases x with
 | none => cases h
 | some z =>
  refine ⟨z, rfl, ?_⟩
  cases z with
  | bad c a => exact (Option.some.inj h).symm
  | ok w => obtain ⟨a, j, r⟩ := w; exact (Option.some.inj h).symm
section
variable {l : Bs}
theorem rl_wrong {h0 h : Heap} {t3 lo : Nat} {X : List Nat} {tv wv ev : Value} {toks : List Tok} {waits : List (Nat × Bs)} {cs : List Value} (k : RL h0 h t3 lo X tv wv ev toks waits cs) (a : Nat) :
  LRQ h0 (.bad 19 a) (.ret (.tuple ⟨[.slice none 0 0, .agg ⟨[.int .i64 19, .int .i64 (a : Int)]⟩]⟩)) ((h.alloc (.cells ⟨29, [.int .i64 19, .int .i64 (a : Int)], true⟩)).set t3 (.cells ⟨29, [.int .i64 19, .int .i64 (a : Int)], true⟩)) :=
 ⟨(k.un (un_alloc h _)).done _, rfl, by omega⟩
theorem rdocs_loop (hl : l.length ≤ 5000) {h0 : Heap} {t3 lo f n N : Nat} {tv wv ev : Value} {waits : List (Nat × Bs)} {toks0 : List Tok} {F : Value → Value → Value → Value → Value → Value → Heap → Ans} {Q : Res → Heap → Prop} (hf : f < 5000) (hn : 6 * f + 12100 ≤ n) (hw : waits.length ≤ 100000) (htl : toks0.length ≤ 100000) (hwk : ∀ x, x ∈ waits → x.1 < toks0.length) (hN : 6000 ≤ N)
  (res : Rz (List Tok × Nat × Bs))
  (hok : ∀ toks' j r' h' X' cs', res = .ok (toks', j, r') → j ≤ l.length → r' = l.drop j → RL h0 h' t3 lo X' tv (.slice none 0 0) (.slice none 0 0) toks' [] cs' → wp (F (.string (mkS l)) (Pt t3) tv (.slice none 0 0) (.slice none 0 0) (.int .i64 (j : Int)) h') Q)
  (hbad : ∀ c a r h', res = .bad c a → LRQ h0 (.bad c a) r h' → Q r h') : ∀ (rest : List (Nat × Bs)) (jx i m : Nat) (h : Heap) (cs : List Value) (X : List Nat) (toks' : List Tok),
  waits.drop jx = rest → jx ≤ waits.length → docs f rest toks' i (l.drop i) = some res → toks'.length = toks0.length → i ≤ l.length → RL h0 h t3 lo X tv wv ev toks' waits cs → waits.length - jx < m →
  wp (l9_74 (cF n) N F m (.string (mkS l)) (Pt t3) tv wv ev (.int .i64 (i : Int)) (.int .i64 (jx : Int)) h) Q := by
 intro rest
 induction rest with
 | nil =>
  intro jx i m h cs X toks' hd hj hs hlen hi k hm
  obtain ⟨m, rfl⟩ : ∃ m', m = m' + 1 := ⟨m - 1, by omega⟩
  have hge : waits.length ≤ jx := by have := congrArg List.length hd; simp at this; omega
  have hlt : decide (jx < waits.length) = false := decide_eq_false (by omega)
  simp only [docs] at hs
  have hs := Option.some.inj hs
  subst hs
  obtain ⟨⟨wa, hwv⟩, _⟩ := k.w.len
  have lw : lenA E 60 wv = some (.int .i64 (waits.length : Int)) := by rw [hwv]; exact ln60 _ _ _
  simp -implicitDefEqProofs only [l9_74, p9_75, lw, hlt, p9_69, SS, SU, Nat.reduceAdd, Nat.reduceLeDiff, Nat.reduceBEq, Nat.reduceMul]
  exact hok toks' i (l.drop i) h X cs rfl hi rfl ⟨k.a, k.c1, k.c2, k.c3, k.c4, k.t, k.r, .inl ⟨rfl, rfl, rfl⟩, .inl ⟨rfl, rfl, rfl⟩, k.u⟩
 | cons x rest ih =>
  intro jx i m h cs X toks' hd hj hs hlen hi k hm
  obtain ⟨m, rfl⟩ : ∃ m', m = m' + 1 := ⟨m - 1, by omega⟩
  obtain ⟨n, rfl⟩ : ∃ n', n = n' + 6 := ⟨n - 6, by omega⟩
  obtain ⟨k0, last⟩ := x
  have hlt0 : jx < waits.length := by have := congrArg List.length hd; simp at this; omega
  have hlt : decide (jx < waits.length) = true := decide_eq_true hlt0
  have hg : waits[jx]? = some (k0, last) := by
   have : (waits.drop jx)[0]? = some (k0, last) := by rw [hd]; rfl
   simpa using this
  have hd' : waits.drop (jx + 1) = rest := by rw [← List.drop_drop, hd]; rfl
  have hb1 : jx + 1 < 9223372036854775808 := by omega
  have hk0 : k0 < toks0.length := hwk _ (List.mem_of_getElem? hg)
  simp only [docs] at hs
  rcases k.w with ⟨_, _, hz⟩ | ⟨wb, hwv, hwn, hwb, hwl, hwx, hwlo⟩
  ·omega
  rcases k.e with ⟨_, _, hz⟩ | ⟨eb, hev, hen, heb, hel, hex, helo⟩
  ·omega
  subst hwv
  subst hev
  have gi : (wInts waits)[jx]? = some (.int .i64 (k0 : Int)) := by simp [wInts, hg]
  have gs : (wStrs waits)[jx]? = some (.string (mkS last)) := by simp [wStrs, hg]
  have hiaw := ia60 wb 0 waits.length waits.length jx hlt0
  have hiae := ia40 eb 0 waits.length waits.length jx hlt0
  cases hdr : docRows last f [] i (l.drop i) with
  | none => rw [hdr] at hs; cases hs
  | some rd =>
   obtain ⟨edoc, hd1, hd2⟩ := rdocument_eq hl (h := h) (n := n + 5) hdr hi (by omega) (by omega)
   rw [hdr] at hs
   cases rd with
   | bad a b =>
    simp only at hs
    have hs := Option.some.inj hs
    obtain ⟨rfl, rfl⟩ := hd2 a b rfl
    have hb : decide ((-1 : Int) < 0) = true := rfl
    have k3 := k.un (un_alloc h (.cells ⟨29, [.int .i64 19, .int .i64 (l.length : Int)], true⟩))
    simp only [docV] at edoc
    simp -implicitDefEqProofs only [l9_74, p9_75, hlt, hiae, heb, Nat.mul_one, gs, edoc, p9_82, hb, rwrong_eq (n + 5), k3.a, k3.f1, SS, SU, Nat.reduceAdd, Nat.reduceLeDiff, Nat.reduceBEq, Nat.reduceMul]
    exact wp_some.2 (hbad _ _ _ _ hs.symm (rl_wrong k l.length))
   | ok y =>
    obtain ⟨text, j, r'⟩ := y
    obtain ⟨hj1, rfl, hj3, hj4⟩ := hd1 text j r' rfl
    simp only at hs
    obtain ⟨t, ht⟩ : ∃ t, toks'[k0]? = some t := ⟨toks'[k0]'(by omega), by simp⟩
    rw [ht] at hs
    simp only at hs
    obtain ⟨tb, htv, hb, htx, htlo, hcl⟩ := k.blk (by omega)
    subst htv
    have hk0' : k0 < toks'.length := by omega
    obtain ⟨w, hwr, g0, g1, g2, g3, g4, _⟩ := k.r.get ht
    have z0 : 0 + k0 * 5 = k0 * 5 := by omega
    have hlen1 : decide (k0 * 5 + 1 + 1 ≤ cs.length) = true := decide_eq_true (by omega)
    have hput : putL cs (k0 * 5 + 1) [.string (mkS text)] = cs.set (k0 * 5 + 1) (.string (mkS text)) := putL_set _ _ _ (by omega)
    have k2 := k.setCells (cs' := cs.set (k0 * 5 + 1) (.string (mkS text))) (toks' := toks'.set k0 { t with text := text }) (by omega) hb htx htlo (by simp) (by simp) (k.r.setText text ht)
    have hb2 : (h.set tb (.cells ⟨39, cs.set (k0 * 5 + 1) (.string (mkS text)), true⟩)).blk tb = some ⟨39, cs.set (k0 * 5 + 1) (.string (mkS text)), true⟩ := blk_set_eq (Heap.blk_lt hb)
    have g3' : (cs.set (k0 * 5 + 1) (.string (mkS text)))[k0 * 5 + 3]? = some (.bool t.quoted) := by
     rw [List.getElem?_set_ne (by omega)]; exact g3
    have hia := ia22 tb 0 toks'.length toks'.length k0 hk0'
    have hj0 : decide ((j : Int) < 0) = false := n_lt0 j
    simp only [docV] at edoc
    simp -implicitDefEqProofs only [l9_74, p9_75, hlt, hiae, heb, Nat.mul_one, gs, edoc, p9_82, hiaw, hwb, gi, hia, z0, hb, hlen1, hput, hb2, g3', SS, SU, Nat.reduceAdd, Nat.reduceLeDiff, Nat.reduceBEq, Nat.reduceMul]
    generalize h.set tb (.cells ⟨39, cs.set (k0 * 5 + 1) (.string (mkS text)), true⟩) = h2 at *
    rcases b2 t.quoted with q | q
    ·rw [if_pos q] at hs
     have hrec := ih (jx + 1) j m h2 _ _ _ hd' (by omega) hs (by simp; omega) hj1 k2 (by omega)
     simp -implicitDefEqProofs only [q, p9_92, p9_90, p9_79, wrap_nat (jx + 1) hb1, SS, SU, Nat.reduceAdd, Nat.reduceLeDiff, Nat.reduceBEq, Nat.reduceMul]
     exact hrec
    ·rw [if_neg (by rw [q]; decide)] at hs
     cases hp : parts f 2 0 [] [] i text with
     | none => rw [hp] at hs; cases hs
     | some rp =>
      rw [hp] at hs
      have hshift := (parts_shift i f).1 2 0 [] [] 0 text
      rw [Nat.zero_add, hp] at hshift
      obtain ⟨z, hz, hzz⟩ := sh_some hshift.symm
      have hcall := (r_all (l := text) (by omega) f (by omega) f (Nat.le_refl _)).2.1 2 0 0 z (n + 6) h2 (by rw [List.drop_zero]; exact hz) (by omega) (by omega) (by omega) (by omega)
      have ec0 : ((0 : Nat) : Int) = 0 := rfl
      have ec2 : ((2 : Nat) : Int) = 2 := rfl
      rw [ec0, ec2] at hcall
      simp -implicitDefEqProofs only [q, p9_92, SS, SU, Nat.reduceAdd, Nat.reduceLeDiff, Nat.reduceBEq, Nat.reduceMul]
      refine wp_bindR hcall ?_ ?_
      ·intro v h3 qq
       obtain ⟨u3, qq⟩ := qq
       have k3 := k2.un u3
       have a1 : ∀ (cs : List Value), (h3.alloc (.cells ⟨29, cs, true⟩)).blk h3.next = some ⟨29, cs, true⟩ := fun cs => blk_alloc_eq
       cases z with
       | bad c a =>
        obtain ⟨⟨e0, e⟩, hc0⟩ := qq
        injection e with e; subst e
        subst hzz
        simp only at hs
        have hs := Option.some.inj hs
        have hnz' : (c != 0) = true := by simp; omega
        have hba : a + i < 9223372036854775808 := by
         have h1 : a ≤ 0 + text.length := (parts_pos f).1 _ _ _ _ _ _ _ hz
         omega
        have k4 := k3.un (un_alloc h3 (.cells ⟨29, [.int .i64 (c : Int), .int .i64 ((a + i : Nat) : Int)], true⟩))
        simp -implicitDefEqProofs only [a1, alloc_set, hnz', wrap_nat (a + i) hba, p9_99, k4.a, k4.f1, SS, SU, Nat.reduceAdd, Nat.reduceLeDiff, Nat.reduceBEq, Nat.reduceMul]
        exact wp_some.2 (hbad _ _ _ _ hs.symm ⟨k4.done _, rfl, hc0⟩)
       | ok y =>
        obtain ⟨ps, z1, z2⟩ := y
        obtain ⟨v', e, hv, _⟩ := qq
        injection e with e; subst e
        subst hzz
        simp only at hs
        obtain ⟨va, vn, vc, rfl⟩ := hv.one
        have hz0 : ((0 : Int) != 0) = false := rfl
        have k4 := k3.un (un_alloc h3 (.cells ⟨29, [.int .i64 0, .int .i64 0], true⟩))
        have hb4 : (h3.alloc (.cells ⟨29, [.int .i64 0, .int .i64 0], true⟩)).blk tb = some ⟨39, cs.set (k0 * 5 + 1) (.string (mkS text)), true⟩ := by
         have e3 := (u3.2 _ (Heap.blk_lt hb2)).trans hb2
         exact (blk_alloc_lt (Heap.blk_lt e3)).trans e3
        have hv4 : RepW (h3.alloc (.cells ⟨29, [.int .i64 0, .int .i64 0], true⟩)).blk (Al lo X) (.slice va vn vc) ps := hv.mono fun b y a e => by
         have a' : h2.next ≤ b := a
         have := k2.c3
         exact ⟨⟨by omega, fun hm => by have := k2.c4 b hm; omega⟩, (blk_alloc_lt (Heap.blk_lt e)).trans e⟩
        have hk4 : (toks'.set k0 { t with text := text })[k0]? = some { t with text := text } := by simp [hk0']
        have hlen2 : decide (k0 * 5 + 2 + 1 ≤ (cs.set (k0 * 5 + 1) (.string (mkS text))).length) = true := decide_eq_true (by simp; omega)
        have hput2 : putL (cs.set (k0 * 5 + 1) (.string (mkS text))) (k0 * 5 + 2) [.slice va vn vc] = (cs.set (k0 * 5 + 1) (.string (mkS text))).set (k0 * 5 + 2) (.slice va vn vc) := putL_set _ _ _ (by simp; omega)
        have hlt' : (toks'.set k0 { t with text := text }).length = toks'.length := by simp
        have k4' : RL h0 (h3.alloc (.cells ⟨29, [.int .i64 0, .int .i64 0], true⟩)) t3 lo X (.slice (some ⟨tb, 0, none⟩) (toks'.set k0 { t with text := text }).length (toks'.set k0 { t with text := text }).length) (.slice (some ⟨wb, 0, none⟩) waits.length waits.length) (.slice (some ⟨eb, 0, none⟩) waits.length waits.length) (toks'.set k0 { t with text := text }) waits (cs.set (k0 * 5 + 1) (.string (mkS text))) := by rw [hlt']; exact k4
        have k5 := k4'.setCells (cs' := (cs.set (k0 * 5 + 1) (.string (mkS text))).set (k0 * 5 + 2) (.slice va vn vc)) (toks' := (toks'.set k0 { t with text := text }).set k0 { t with text := text, parts := ps }) (by simp; omega) hb4 htx htlo (by simp) (by simp) (k4.r.setParts hv4 hk4)
        rw [List.set_set] at k5
        rw [hlt'] at k5
        have hrec := ih (jx + 1) j m _ _ _ _ hd' (by omega) hs (by simp; omega) hj1 k5 (by omega)
        simp -implicitDefEqProofs only [a1, alloc_set, hz0, hb4, hlen2, hput2, p9_90, p9_79, wrap_nat (jx + 1) hb1, SS, SU, Nat.reduceAdd, Nat.reduceLeDiff, Nat.reduceBEq, Nat.reduceMul]
        exact hrec
      ·intro v h3 qq
       cases z with
       | bad c a => obtain ⟨_, ⟨e0, e⟩, _⟩ := qq; cases e
       | ok y => obtain ⟨ps, z1, z2⟩ := y; obtain ⟨_, v', e, _⟩ := qq; cases e
end
end Go.Proofs.YteekjekckgpbfaaDoor.Abs
end
section
namespace Go.Proofs.YteekjekckgpbfaaDoor.Abs
open Sp
attribute [local congr] bindO_congr bindR_congr condV_congr wp_congr
section
variable {l : Bs}
theorem rskip_loop (hl : l.length ≤ 5000) {n N : Nat} {F : Value → Value → Value → Value → Value → Value → Heap → Ans} {s3 tv wv ev : Value} {h : Heap} : ∀ (m i : Nat), i ≤ l.length → l.length < i + m →
  ∃ j, skip i (l.drop i) = (j, l.drop j) ∧ i ≤ j ∧ j ≤ l.length ∧ l9_112 (cF (n + 1)) N F m (.string (mkS l)) s3 tv wv ev (.int .i64 (i : Int)) h = p9_22 (cF (n + 1)) N F (.string (mkS l)) s3 tv wv ev (.int .i64 (j : Int)) h := by
 intro m
 induction m with
 | zero => intro i hi hm; omega
 | succ m ih =>
  intro i hi hm
  rw [skip_eq]
  rcases b2 (decide (i < l.length)) with g0 | g0
  ·have hlt := of_decide_eq_true g0
   have hg := drop_get l i hlt
   have hdr := List.drop_eq_getElem_cons hlt
   have hat := rat_eq (h := h) n [92, 10] hi (show l.length + 2 < 9223372036854775808 by omega)
   have hb1 : i + 1 < 9223372036854775808 := by omega
   have hb2 : i + 2 < 9223372036854775808 := by omega
   generalize l[i] = c at hg hdr
   have p32 : pre [32] (l.drop i) = (c == 32) := by rw [hdr]; simp [pre]
   have p9 : pre [9] (l.drop i) = (c == 9) := by rw [hdr]; simp [pre]
   have e32 : ((c.toNat : Int) == 32) = (c == 32) := u8_eqn c 32 (by decide)
   have e9 : ((c.toNat : Int) == 9) = (c == 9) := u8_eqn c 9 (by decide)
   have e92 : ((c.toNat : Int) == 92) = (c == 92) := u8_eqn c 92 (by decide)
   rcases b2 (c == 32) with g1 | g1
   ·have hc : c = 32 := by simpa using g1
    have g92 : (c == 92) = false := by rw [hc]; rfl
    obtain ⟨j, e1, e2, e3, e4⟩ := ih (i + 1) (by omega) (by omega)
    refine ⟨j, ?_, by omega, e3, ?_⟩
    ·rw [p32, g1, Bool.true_or, if_pos rfl, List.drop_drop]; exact e1
    ·rw [← e4]
     simp -implicitDefEqProofs only [l9_112, p9_113, p9_116, p9_118, g0, ix9 l i c hg, e32, g1, e92, g92, wrap_nat (i + 1) hb1, SS, SU, Nat.reduceAdd, Nat.reduceLeDiff, Nat.reduceBEq, Nat.reduceMul]
   ·rcases b2 (c == 9) with g2 | g2
    ·have hc : c = 9 := by simpa using g2
     have g92 : (c == 92) = false := by rw [hc]; rfl
     obtain ⟨j, e1, e2, e3, e4⟩ := ih (i + 1) (by omega) (by omega)
     refine ⟨j, ?_, by omega, e3, ?_⟩
     ·rw [p32, p9, g1, g2, Bool.false_or, if_pos rfl, List.drop_drop]; exact e1
     ·rw [← e4]
      simp -implicitDefEqProofs only [l9_112, p9_113, p9_116, p9_118, g0, ix9 l i c hg, e32, g1, e9, g2, e92, g92, wrap_nat (i + 1) hb1, SS, SU, Nat.reduceAdd, Nat.reduceLeDiff, Nat.reduceBEq, Nat.reduceMul]
    ·rcases b2 (pre [92, 10] (l.drop i)) with g3 | g3
     ·have hi1 := pre_i g3 hi
      simp only [List.length_cons, List.length_nil] at hi1
      have g92 : (c == 92) = true := by
       rw [hdr] at g3
       simp [pre] at g3
       simpa using g3.1
      obtain ⟨j, e1, e2, e3, e4⟩ := ih (i + 2) (by omega) (by omega)
      refine ⟨j, ?_, by omega, e3, ?_⟩
      ·rw [p32, p9, g1, g2, g3, Bool.false_or, if_neg (by decide), if_pos rfl, List.drop_drop]; exact e1
      ·rw [← e4]
       simp -implicitDefEqProofs only [l9_112, p9_113, p9_116, p9_118, g0, ix9 l i c hg, e32, g1, e9, g2, hat, g3, e92, g92, wrap_nat (i + 1) hb1, wrap_nat (i + 1 + 1) hb2, SS, SU, Nat.reduceAdd, Nat.reduceLeDiff, Nat.reduceBEq, Nat.reduceMul]
     ·refine ⟨i, ?_, Nat.le_refl _, hi, ?_⟩
      ·rw [p32, p9, g1, g2, g3, Bool.false_or, if_neg (by decide), if_neg (by decide)]
      ·simp -implicitDefEqProofs only [l9_112, p9_113, p9_116, p9_118, g0, ix9 l i c hg, e32, g1, e9, g2, hat, g3, e92, SS, SU, Nat.reduceAdd, Nat.reduceLeDiff, Nat.reduceBEq, Nat.reduceMul]
  ·have hge := of_decide_eq_false g0
   have hd : l.drop i = [] := List.drop_of_length_le (by omega)
   refine ⟨i, ?_, Nat.le_refl _, hi, ?_⟩
   ·rw [hd]; rfl
   ·simp -implicitDefEqProofs only [l9_112, p9_113, p9_116, g0, SS, SU, Nat.reduceAdd, Nat.reduceLeDiff, Nat.reduceBEq, Nat.reduceMul]
theorem rrow_loop (hl : l.length ≤ 5000) {h : Heap} {n N i : Nat} {s3 tv wv ev : Value} {F : Value → Value → Value → Value → Value → Value → Heap → Ans} (hi : i ≤ l.length) : ∀ (m k : Nat), i ≤ k → k ≤ i + (row (l.drop i)).length → l.length < k + m →
  l9_106 (cF n) N F m (.string (mkS l)) s3 tv wv ev (.int .i64 (k : Int)) h = F (.string (mkS l)) s3 tv wv ev (.int .i64 ((i + (row (l.drop i)).length : Nat) : Int)) h := by
 have hle := row_le (l.drop i)
 simp only [List.length_drop] at hle
 intro m
 induction m with
 | zero => intro k h1 h2 h3; omega
 | succ m ih =>
  intro k hk1 hk2 hm
  have hb : k + 1 < 9223372036854775808 := by omega
  have hrow : row (l.drop i) = (l.drop i).take (row (l.drop i)).length := by
   cases hf : find 10 (l.drop i) with
   | none => rw [row_none hf, List.take_length]
   | some x => obtain ⟨e, hx⟩ := row_some' hf; rw [e]; simp
  rcases Nat.lt_or_ge k (i + (row (l.drop i)).length) with hlt | hge
  ·have hklt : k < l.length := by omega
   have h1 : decide (k < l.length) = true := decide_eq_true hklt
   have hg := drop_get l k hklt
   have hmem : l[k] ∈ row (l.drop i) := by
    rw [hrow]
    have : ((l.drop i).take (row (l.drop i)).length)[k - i]? = some l[k] := by
     rw [List.getElem?_take_of_lt (by omega), List.getElem?_drop, show i + (k - i) = k by omega]
     exact hg
    exact List.mem_of_getElem? this
   have hne : (l[k] != 10) = true := by
    exact mem_row hmem
   generalize l[k] = c at hg hne
   have e10 : ((c.toNat : Int) != 10) = (c != 10) := u8_nen c 10 (by decide)
   have := ih (k + 1) (by omega) (by omega) (by omega)
   simp -implicitDefEqProofs only [l9_106, p9_107, h1, ix9 l k c hg, e10, hne, wrap_nat (k + 1) hb, this, SS, SU, Nat.reduceAdd, Nat.reduceLeDiff, Nat.reduceBEq, Nat.reduceMul]
  ·have hkeq : k = i + (row (l.drop i)).length := by omega
   rcases b2 (decide (k < l.length)) with h1 | h1
   ·have hklt := of_decide_eq_true h1
    have hg := drop_get l k hklt
    have hc : l[k] = 10 := by
     cases hf : find 10 (l.drop i) with
     | none =>
      rw [row_none hf] at hkeq
      simp at hkeq; omega
     | some x =>
      obtain ⟨e, hx⟩ := row_some' hf
      have hxk : k = i + x := by rw [hkeq, e]; simp at hx ⊢; omega
      have hfx : ∀ (r : Bs) (x : Nat), find 10 r = some x → r[x]? = some 10 := by
       intro r
       induction r with
       | nil => intro x h; cases h
       | cons b r ih2 =>
        intro x h
        simp only [find] at h
        rcases b2 (b == 10) with q | q
        ·simp [q] at h; subst h; simpa using q
        ·simp only [q, Bool.false_eq_true, if_false] at h
         cases hf2 : find 10 r with
         | none => simp [hf2] at h
         | some y => simp [hf2] at h; subst h; simpa using ih2 y hf2
      have := hfx _ _ hf
      rw [List.getElem?_drop, ← hxk, hg] at this
      exact Option.some.inj this
    rw [hc] at hg
    have e10 : (((10 : UInt8).toNat : Int) != 10) = false := rfl
    simp -implicitDefEqProofs only [l9_106, p9_107, h1, ix9 l k 10 hg, e10, SS, SU, Nat.reduceAdd, Nat.reduceLeDiff, Nat.reduceBEq, Nat.reduceMul]
    rw [hkeq]
   ·simp -implicitDefEqProofs only [l9_106, p9_107, h1, SS, SU, Nat.reduceAdd, Nat.reduceLeDiff, Nat.reduceBEq, Nat.reduceMul]
    rw [hkeq]
theorem rdigit_head (hl : l.length ≤ 5000) {n N i : Nat} {F : Value → Value → Value → Value → Value → Value → Heap → Ans} {s3 tv wv ev : Value} {h : Heap} (hi : i < l.length) :
  p9_27 (cF n) N F (.string (mkS l)) s3 tv wv ev (.int .i64 (i : Int)) h = p9_29 (cF n) N F (.string (mkS l)) s3 tv wv ev (.int .i64 (i : Int)) (.int .i64 (digitOf (l.drop i) : Int)) h := by
 have hg := drop_get l i hi
 have hdr := List.drop_eq_getElem_cons hi
 have hb : i + 1 < 9223372036854775808 := by omega
 generalize l[i] = c at hg hdr
 rw [hdr]
 cases ht : l.drop (i + 1) with
 | nil =>
  have hle : i + 1 = l.length := by have := congrArg List.length ht; simp at this; omega
  have hd : ((digitOf [c] : Nat) : Int) = 0 := rfl
  have hlt : decide (i + 1 < l.length) = false := decide_eq_false (by omega)
  rw [hd]
  rcases b2 (decide (48 ≤ (c.toNat : Int))) with g1 | g1
  ·rcases b2 (decide ((c.toNat : Int) ≤ 50)) with g2 | g2
   ·simp -implicitDefEqProofs only [p9_27, p9_63, ix9 l i c hg, g1, g2, wrap_nat (i + 1) hb, hlt, SS, SU, Nat.reduceAdd, Nat.reduceLeDiff, Nat.reduceBEq, Nat.reduceMul]
   ·simp -implicitDefEqProofs only [p9_27, p9_63, ix9 l i c hg, g1, g2, SS, SU, Nat.reduceAdd, Nat.reduceLeDiff, Nat.reduceBEq, Nat.reduceMul]
  ·simp -implicitDefEqProofs only [p9_27, p9_63, ix9 l i c hg, g1, SS, SU, Nat.reduceAdd, Nat.reduceLeDiff, Nat.reduceBEq, Nat.reduceMul]
 | cons d t =>
  have hlt2 : i + 1 < l.length := by have := congrArg List.length ht; simp at this; omega
  have hdr2 := List.drop_eq_getElem_cons hlt2
  have hgx := drop_get l (i + 1) hlt2
  have hxx := (List.cons.inj (ht.symm.trans hdr2)).1
  rw [← hxx] at hgx
  have hlt : decide (i + 1 < l.length) = true := decide_eq_true hlt2
  have e60 : ((d.toNat : Int) == 60) = (d == 60) := u8_eqn d 60 (by decide)
  have e62 : ((d.toNat : Int) == 62) = (d == 62) := u8_eqn d 62 (by decide)
  rcases b2 (decide (48 ≤ (c.toNat : Int))) with g1 | g1
  ·rcases b2 (decide ((c.toNat : Int) ≤ 50)) with g2 | g2
   ·rcases b2 (d == 60) with g3 | g3
    ·have hd : ((digitOf (c :: d :: t) : Nat) : Int) = 1 := by simp only [digitOf, g1, g2, g3]; rfl
     rw [hd]
     simp -implicitDefEqProofs only [p9_27, p9_63, ix9 l i c hg, g1, g2, wrap_nat (i + 1) hb, hlt, ix9 l (i + 1) d hgx, e60, g3, SS, SU, Nat.reduceAdd, Nat.reduceLeDiff, Nat.reduceBEq, Nat.reduceMul]
    ·rcases b2 (d == 62) with g4 | g4
     ·have hd : ((digitOf (c :: d :: t) : Nat) : Int) = 1 := by simp only [digitOf, g1, g2, g3, g4]; rfl
      rw [hd]
      simp -implicitDefEqProofs only [p9_27, p9_63, ix9 l i c hg, g1, g2, wrap_nat (i + 1) hb, hlt, ix9 l (i + 1) d hgx, e60, g3, e62, g4, SS, SU, Nat.reduceAdd, Nat.reduceLeDiff, Nat.reduceBEq, Nat.reduceMul]
     ·have hd : ((digitOf (c :: d :: t) : Nat) : Int) = 0 := by simp only [digitOf, g1, g2, g3, g4]; rfl
      rw [hd]
      simp -implicitDefEqProofs only [p9_27, p9_63, ix9 l i c hg, g1, g2, wrap_nat (i + 1) hb, hlt, ix9 l (i + 1) d hgx, e60, g3, e62, g4, SS, SU, Nat.reduceAdd, Nat.reduceLeDiff, Nat.reduceBEq, Nat.reduceMul]
   ·have hd : ((digitOf (c :: d :: t) : Nat) : Int) = 0 := by simp only [digitOf, g1, g2]; rfl
    rw [hd]
    simp -implicitDefEqProofs only [p9_27, p9_63, ix9 l i c hg, g1, g2, SS, SU, Nat.reduceAdd, Nat.reduceLeDiff, Nat.reduceBEq, Nat.reduceMul]
  ·have hd : ((digitOf (c :: d :: t) : Nat) : Int) = 0 := by simp only [digitOf, g1]; rfl
   rw [hd]
   simp -implicitDefEqProofs only [p9_27, p9_63, ix9 l i c hg, g1, SS, SU, Nat.reduceAdd, Nat.reduceLeDiff, Nat.reduceBEq, Nat.reduceMul]
end
end Go.Proofs.YteekjekckgpbfaaDoor.Abs
end
section
namespace Go.Proofs.YteekjekckgpbfaaDoor.Abs
open Sp
attribute [local congr] bindO_congr bindR_congr condV_congr wp_congr
section
variable {l : Bs}
theorem rannounce (hl : l.length ≤ 5000) {h0 h : Heap} {t3 lo n N j : Nat} {X : List Nat} {tv wv ev : Value} {toks : List Tok} {waits : List (Nat × Bs)} {cs : List Value} {F : Value → Value → Value → Value → Value → Value → Heap → Ans} (htx : ∀ t, t ∈ toks → t.text.length ≤ 5000) (htl : toks.length ≤ 100000) (k : RL h0 h t3 lo X tv wv ev toks waits cs)
  {Q : Res → Heap → Prop} (hc : wp (cF (n + 1) 29 [.string (mkS l), .int .i64 (j : Int), .int .i64 0, .int .i64 0] h) (fun r h' => ∃ (pv : Value) (jj : Nat), r = .ret (.tuple ⟨[pv, .int .i64 (jj : Int), zeroAt]⟩) ∧ Un h.next h h' ∧
   wp (p9_48 (cF (n + 1)) N F (.string (mkS l)) (Pt t3) tv wv ev (.int .i64 (j : Int)) pv (.int .i64 (jj : Int)) (.bool (announces toks)) (h'.alloc (.cells ⟨29, [.int .i64 0, .int .i64 0], true⟩))) Q)) :
  wp (p9_39 (cF (n + 1)) N F (.string (mkS l)) (Pt t3) tv wv ev (.int .i64 (j : Int)) (.bool false) h) Q := by
 simp -implicitDefEqProofs only [p9_39, SS, SU, Nat.reduceAdd, Nat.reduceLeDiff, Nat.reduceBEq, Nat.reduceMul]
 refine wp_bindR hc ?_ ?_
 ·intro v h2 q
  obtain ⟨pv, jj, e, u, q⟩ := q
  have e := Res.ret.inj e
  subst e
  have k2 := k.un u
  have k3 := k2.un (un_alloc h2 (.cells ⟨29, [.int .i64 0, .int .i64 0], true⟩))
  have a1 : ∀ (cs : List Value), (h2.alloc (.cells ⟨29, cs, true⟩)).blk h2.next = some ⟨29, cs, true⟩ := fun cs => blk_alloc_eq
  have hz : ((0 : Int) != 0) = false := rfl
  simp -implicitDefEqProofs only [a1, alloc_set, hz, SS, SU, Nat.reduceAdd, Nat.reduceLeDiff, Nat.reduceBEq, Nat.reduceMul]
  generalize h2.alloc (.cells ⟨29, [.int .i64 0, .int .i64 0], true⟩) = h3 at *
  rcases k3.t with ⟨rfl, _, hn⟩ | ⟨b, rfl, hn, hb, hl2, _, _⟩
  ·have : toks = [] := by simpa using hn
   subst this
   have ha : announces [] = false := rfl
   rw [ha] at q
   have hd : decide ((0 : Int) < ((0 : Nat) : Int)) = false := rfl
   simp -implicitDefEqProofs only [hd, SS, SU, Nat.reduceAdd, Nat.reduceLeDiff, Nat.reduceBEq, Nat.reduceMul]
   exact q
  ·have hlt : toks.length - 1 < toks.length := by omega
   have hg : toks[toks.length - 1]? = some toks[toks.length - 1] := by simp [hlt]
   have hlast : toks.getLast? = some toks[toks.length - 1] := by rw [List.getLast?_eq_getElem?]; exact hg
   have hmem : toks[toks.length - 1] ∈ toks := List.getElem_mem ..
   have htx1 := htx _ hmem
   generalize toks[toks.length - 1] = x at hg hlast htx1
   obtain ⟨w, hw, g0, g1, g2, g3, g4, _⟩ := k3.r.get hg
   have ha : announces toks = (x.kind == 1 && pre [60, 60] (x.text.drop (x.text.length - 2))) := by
    unfold announces; rw [hlast]
    have : (x.text.drop (x.text.length - 2) == [60, 60]) = pre [60, 60] (x.text.drop (x.text.length - 2)) := by
     unfold pre
     rw [List.take_of_length_le (by simp; omega)]
    simp only [this]
   rw [ha] at q
   have hd : decide (0 < toks.length) = true := decide_eq_true hn
   have e1 : ((x.kind : Int) == 1) = (x.kind == 1) := n_eq x.kind 1
   have z0 : 0 + (toks.length - 1) * 5 = (toks.length - 1) * 5 := by omega
   have z00 : (toks.length - 1) * 5 + 0 = (toks.length - 1) * 5 := rfl
   have hb1 : toks.length - 1 < 9223372036854775808 := by omega
   have hra := rat_eq (l := x.text) (i := x.text.length - 2) (h := h3) n [60, 60] (by omega) (show x.text.length + 2 < 9223372036854775808 by omega)
   have hmx := max2 x.text.length (by omega)
   rcases b2 (x.kind == 1) with q1 | q1
   ·rw [q1, Bool.true_and] at q
    simp -implicitDefEqProofs only [hd, pull_sub1 toks.length hn, wrap_nat (toks.length - 1) hb1, ia22 b 0 toks.length toks.length (toks.length - 1) hlt, z0, z00, hb, g0, g1, e1, q1, hmx, hra, SS, SU, Nat.reduceAdd, Nat.reduceLeDiff, Nat.reduceBEq, Nat.reduceMul]
    exact q
   ·rw [q1, Bool.false_and] at q
    simp -implicitDefEqProofs only [hd, pull_sub1 toks.length hn, wrap_nat (toks.length - 1) hb1, ia22 b 0 toks.length toks.length (toks.length - 1) hlt, z0, z00, hb, g0, g1, e1, q1, SS, SU, Nat.reduceAdd, Nat.reduceLeDiff, Nat.reduceBEq, Nat.reduceMul]
    exact q
 ·intro v h2 q
  obtain ⟨pv, jj, e, _⟩ := q; cases e
end
end Go.Proofs.YteekjekckgpbfaaDoor.Abs
end
section
namespace Go.Proofs.YteekjekckgpbfaaDoor.Abs
open Sp
attribute [local congr] bindO_congr bindR_congr condV_congr wp_congr
section
variable {l : Bs}
theorem rl_bad {h0 h : Heap} {t3 lo : Nat} {X : List Nat} {tv wv ev : Value} {toks : List Tok} {waits : List (Nat × Bs)} {cs : List Value} (k : RL h0 h t3 lo X tv wv ev toks waits cs) {c a : Nat} (hc : 0 < c) :
  LRQ h0 (.bad c a) (.ret (.tuple ⟨[.slice none 0 0, atV c a]⟩)) (h.set t3 (.cells ⟨29, [.int .i64 (c : Int), .int .i64 (a : Int)], true⟩)) :=
 ⟨k.done _, rfl, hc⟩
theorem rlex_loop (hl : l.length ≤ 4000) {h0 : Heap} {t3 lo n N : Nat} (hN : 6000 ≤ N) : ∀ (f : Nat) (toks : List Tok) (waits : List (Nat × Bs)) (i m : Nat) (h : Heap) (X : List Nat) (tv wv ev : Value) (cs : List Value) (res : Rz (List Tok)),
  lexL f toks waits i (l.drop i) = some res → i ≤ l.length → RL h0 h t3 lo X tv wv ev toks waits cs → f ≤ m → f < 5000 → 6 * f + 12200 ≤ n → toks.length + 2 * f ≤ 20000 → waits.length + f ≤ 5000 → (∀ t, t ∈ toks → t.text.length ≤ 5000) → (∀ x, x ∈ waits → x.1 < toks.length) →
  wp (l9_19 (cF n) N m (.string (mkS l)) (Pt t3) tv wv ev (.int .i64 (i : Int)) h) (LRQ h0 res) := by
 intro f
 induction f with
 | zero => intro toks waits i m h X tv wv ev cs res hs; simp [lexL] at hs
 | succ f ih =>
  intro toks waits i m h X tv wv ev cs res hs hi k hm hf hn htl hwl htx hwk
  obtain ⟨m, rfl⟩ : ∃ m', m = m' + 1 := ⟨m - 1, by omega⟩
  obtain ⟨n, rfl⟩ : ∃ n', n = n' + 20 := ⟨n - 20, by omega⟩
  obtain ⟨j, esk, hij, hj, esim⟩ := rskip_loop (l := l) (by omega) (n := n + 19) (N := N) (F := l9_19 (cF (n + 20)) N m) (s3 := Pt t3) (tv := tv) (wv := wv) (ev := ev) (h := h) N i hi (by omega)
  simp only [lexL, esk] at hs
  simp only [l9_19, p9_20]
  rw [esim]
  clear esim esk
  have go : ∀ {toks' : List Tok} {waits' : List (Nat × Bs)} {i' : Nat} {h' : Heap} {X' : List Nat} {tv' wv' ev' : Value} {cs' : List Value}, lexL f toks' waits' i' (l.drop i') = some res → i' ≤ l.length → RL h0 h' t3 lo X' tv' wv' ev' toks' waits' cs' → toks'.length ≤ toks.length + 2 → waits'.length ≤ waits.length + 1 → (∀ t, t ∈ toks' → t.text.length ≤ 5000) → (∀ x, x ∈ waits' → x.1 < toks'.length) →
    wp (l9_19 (cF (n + 20)) N m (.string (mkS l)) (Pt t3) tv' wv' ev' (.int .i64 (i' : Int)) h') (LRQ h0 res) := by
   intro toks' waits' i' h' X' tv' wv' ev' cs' hs' hi' k' ht' hw' htx' hwk'
   exact ih toks' waits' i' m h' X' tv' wv' ev' cs' res hs' hi' k' (by omega) (by omega) (by omega) (by omega) (by omega) htx' hwk'
  generalize l9_19 (cF (n + 20)) N m = F at *
  obtain ⟨⟨wa, hwv⟩, _⟩ := k.w.len
  have lw : lenA E 60 wv = some (.int .i64 (waits.length : Int)) := by rw [hwv]; exact ln60 _ _ _
  rcases b2 (decide (j < l.length)) with g1 | g1
  ·have hlt := of_decide_eq_true g1
   have gn1 : decide (l.length ≤ j) = false := decide_eq_false (by omega)
   have hdr := List.drop_eq_getElem_cons hlt
   have hg := drop_get l j hlt
   rw [hdr] at hs
   generalize l[j] = c at hdr hg hs
   simp only [← hdr] at hs
   have e10 : ((c.toNat : Int) == 10) = (c == 10) := u8_eqn c 10 (by decide)
   have e35 : ((c.toNat : Int) == 35) = (c == 35) := u8_eqn c 35 (by decide)
   have e38 : ((c.toNat : Int) == 38) = (c == 38) := u8_eqn c 38 (by decide)
   rcases b2 (c == 10) with g2 | g2
   ·have g35 : (c == 35) = false := by rw [show c = 10 by simpa using g2]; rfl
    simp only [g2, if_true] at hs
    have hb1 : j + 1 < 9223372036854775808 := by omega
    obtain ⟨tv2, h2, X2, cs2, e1, e2, ⟨ta, etv⟩, k2, _⟩ := k.tok (x := ⟨2, [], [], false, j⟩) (wa := none) (wn := 0) (wc := 0) .nil (by omega)
    have ec2 : ((2 : Nat) : Int) = 2 := rfl
    simp only [ec2] at e1 e2
    cases hd : docs f waits (toks ++ [⟨2, [], [], false, j⟩]) (j + 1) (l.drop (j + 1)) with
    | none => rw [hd] at hs; cases hs
    | some rd =>
     rw [hd] at hs
     have hloop := rdocs_loop (l := l) (by omega) (n := n + 20) (N := N) (F := F) (tv := tv2) (wv := wv) (ev := ev) (waits := waits) (toks0 := toks ++ [⟨2, [], [], false, j⟩]) (f := f) (Q := LRQ h0 res) (h0 := h0) (t3 := t3) (lo := lo) (by omega) (by omega) (by omega) (by simp; omega) (fun x hx => by have := hwk x hx; simp; omega) hN rd
      (fun toks' j' r' h' X' cs' e hj' er k' => by
       subst e
       simp only at hs
       obtain ⟨hlen, htx', _⟩ := docs_len f 5000 _ _ _ _ _ _ _ hd (by simp; omega) (fun t ht => by
        rcases List.mem_append.1 ht with e | e
        ·exact htx t e
        ·simp at e; subst e; simp)
       simp only [List.length_append, List.length_singleton] at hlen
       subst er
       exact go hs hj' k' (by omega) (by simp) htx' (fun x hx => by cases hx))
      (fun c' a' r' h' e q => by
       subst e
       simp only at hs
       have hs := Option.some.inj hs
       subst hs
       exact q)
      waits 0 (j + 1) N h2 cs2 X2 _ List.drop_zero (by omega) hd rfl (by omega) k2 (by omega)
     simp -implicitDefEqProofs only [p9_22, gn1, ix9 l j c hg, e35, g35, p9_26, e10, g2, p9_65, e1, e2, wrap_nat (j + 1) hb1, p9_73, SS, SU, Nat.reduceAdd, Nat.reduceLeDiff, Nat.reduceBEq, Nat.reduceMul]
     exact hloop
   ·simp only [g2, Bool.false_eq_true, if_false] at hs
    rcases b2 (c == 35) with g3 | g3
    ·simp only [g3, if_true] at hs
     have hle := row_le (l.drop j)
     simp only [List.length_drop] at hle
     have hloop := rrow_loop (l := l) (by omega) (h := h) (n := n + 20) (N := N) (i := j) (s3 := Pt t3) (tv := tv) (wv := wv) (ev := ev) (F := F) hj N j (Nat.le_refl _) (by omega) (by omega)
     rw [List.drop_drop] at hs
     simp -implicitDefEqProofs only [p9_22, gn1, ix9 l j c hg, e35, g3, hloop, SS, SU, Nat.reduceAdd, Nat.reduceLeDiff, Nat.reduceBEq, Nat.reduceMul]
     exact go hs (by omega) k (by omega) (by omega) htx hwk
    ·simp only [g3, Bool.false_eq_true, if_false] at hs
     have hdg : digitOf (l.drop j) ≤ 1 := by
      unfold digitOf
      split
      ·split <;> omega
      ·omega
     have hhead := rdigit_head (l := l) (by omega) (n := n + 20) (N := N) (i := j) (F := F) (s3 := Pt t3) (tv := tv) (wv := wv) (ev := ev) (h := h) hlt
     have hdd : j + digitOf (l.drop j) ≤ l.length := by omega
     have hbd : j + digitOf (l.drop j) < 9223372036854775808 := by omega
     have hmk := rmark_eq (l := l) (by omega) (h := h) (n := n + 18) (i := j + digitOf (l.drop j)) (by omega) hdd
     have k1 := k.un (un_alloc h (.cells ⟨9, strs marksL, true⟩))
     rw [first_find] at hs
     cases hfm : first marksL ((l.drop j).drop (digitOf (l.drop j))) with
     | some x =>
      obtain ⟨kk, mm⟩ := x
      have hfm' := hfm
      rw [List.drop_drop] at hfm'
      rw [hfm'] at hmk
      simp only at hmk
      rw [hfm] at hs
      simp only [Option.map] at hs
      have hm1 := (marksL_len hfm).2.2
      have hi2 : j + digitOf (l.drop j) + mm.length ≤ l.length := by
       have h1 := pre_len (first_pre hfm).1
       simp only [List.length_drop] at h1
       omega
      have hne : (!(mm == [])) = true := by cases mm with | nil => simp at hm1 | cons => rfl
      have hb2 : j + digitOf (l.drop j) + mm.length < 9223372036854775808 := by omega
      have hsv := sl9_lh l j (j + digitOf (l.drop j) + mm.length) (h.alloc (.cells ⟨9, strs marksL, true⟩)) (by omega) hi2
      rw [show j + digitOf (l.drop j) + mm.length - j = digitOf (l.drop j) + mm.length by omega] at hsv
      obtain ⟨tv2, h2, X2, cs2, e1, e2, _, k2, _⟩ := k1.tok (x := ⟨1, (l.drop j).take (digitOf (l.drop j) + mm.length), [], false, j⟩) (wa := none) (wn := 0) (wc := 0) .nil (by omega)
      have ec1 : ((1 : Nat) : Int) = 1 := rfl
      simp only [ec1] at e1 e2
      simp -implicitDefEqProofs only [p9_22, gn1, ix9 l j c hg, e35, g3, p9_26, e10, g2, p9_65, hhead, p9_29, wrap_nat (j + digitOf (l.drop j)) hbd, hmk, hne, p9_33, wrap_nat (j + digitOf (l.drop j) + mm.length) hb2, hsv, e1, e2, SS, SU, Nat.reduceAdd, Nat.reduceLeDiff, Nat.reduceBEq, Nat.reduceMul]
      refine go (i' := j + digitOf (l.drop j) + mm.length) (by rw [← hs, List.drop_drop, Nat.add_assoc]) hi2 k2 (by simp) (by omega) ?_ ?_
      ·intro t ht
       rcases List.mem_append.1 ht with e | e
       ·exact htx t e
       ·simp at e; subst e
        simp; omega
      ·intro x hx
       have := hwk x hx
       simp; omega
     | none =>
      have hfm' := hfm
      rw [List.drop_drop] at hfm'
      rw [hfm'] at hmk
      simp only at hmk
      rw [hfm] at hs
      simp only [Option.map] at hs
      have hne : (([] : Bs) != []) = false := rfl
      rcases b2 (c == 38) with g4 | g4
      ·simp only [g4, if_true] at hs
       have hs := Option.some.inj hs
       subst hs
       have k3 := k1.un (un_alloc _ (.cells ⟨29, [.int .i64 19, .int .i64 (j : Int)], true⟩))
       simp -implicitDefEqProofs only [p9_22, gn1, ix9 l j c hg, e35, g3, p9_26, e10, g2, p9_65, hhead, p9_29, wrap_nat (j + digitOf (l.drop j)) hbd, hmk, hne, p9_33, e38, g4, p9_39, rwrong_eq (n + 19), k3.a, k3.f1, SS, SU, Nat.reduceAdd, Nat.reduceLeDiff, Nat.reduceBEq, Nat.reduceMul]
       exact wp_some.2 (rl_wrong k1 j)
      ·simp only [g4, Bool.false_eq_true, if_false] at hs
       simp -implicitDefEqProofs only [p9_22, gn1, ix9 l j c hg, e35, g3, p9_26, e10, g2, p9_65, hhead, p9_29, wrap_nat (j + digitOf (l.drop j)) hbd, hmk, hne, p9_33, e38, g4, SS, SU, Nat.reduceAdd, Nat.reduceLeDiff, Nat.reduceBEq, Nat.reduceMul]
       generalize h.alloc (.cells ⟨9, strs marksL, true⟩) = h1 at *
       cases hp : parts f 0 0 [] [] j (l.drop j) with
       | none => rw [hp] at hs; cases hs
       | some rp =>
        rw [hp] at hs
        have hcall := (r_all (l := l) (by omega) f (by omega) f (Nat.le_refl _)).2.1 0 0 j rp (n + 20) h1 hp (by omega) (by omega) (by omega) (by omega)
        have ec0 : ((0 : Nat) : Int) = 0 := rfl
        rw [ec0] at hcall
        cases rp with
        | bad c' a' =>
         simp only at hs
         have hs := Option.some.inj hs
         subst hs
         simp -implicitDefEqProofs only [p9_39, SS, SU, Nat.reduceAdd, Nat.reduceLeDiff, Nat.reduceBEq, Nat.reduceMul]
         refine wp_bindR hcall ?_ ?_
         ·intro v h2 qq
          obtain ⟨u2, ⟨e0, e⟩, hc0⟩ := qq
          have e := Res.ret.inj e
          subst e
          have k2 := k1.un u2
          have k3 := k2.un (un_alloc h2 (.cells ⟨29, [.int .i64 (c' : Int), .int .i64 (a' : Int)], true⟩))
          have a1 : ∀ (cs : List Value), (h2.alloc (.cells ⟨29, cs, true⟩)).blk h2.next = some ⟨29, cs, true⟩ := fun cs => blk_alloc_eq
          have hz : ((c' : Int) != 0) = true := by
           have : (c' : Int) ≠ 0 := by omega
           simpa using this
          simp -implicitDefEqProofs only [atV, a1, alloc_set, hz, k3.a, k3.f1, SS, SU, Nat.reduceAdd, Nat.reduceLeDiff, Nat.reduceBEq, Nat.reduceMul]
          exact wp_some.2 (rl_bad k3 hc0)
         ·intro v h2 qq
          obtain ⟨u2, ⟨e0, e⟩, hc0⟩ := qq; cases e
        | ok y =>
         obtain ⟨ps, jj, r'⟩ := y
         simp only at hs
         have hps := (parts_len f).1 _ _ _ _ _ _ _ _ _ hp
         simp only [total, List.length_nil, Nat.zero_add, Nat.add_zero] at hps
         have hdl : (l.drop j).length ≤ 5000 := by simp; omega
         have hnew : ∀ t, t ∈ toks ++ [(⟨0, [], ps, false, j⟩ : Tok)] → t.text.length ≤ 5000 := by
          intro t ht
          rcases List.mem_append.1 ht with e | e
          ·exact htx t e
          ·simp at e; subst e; simp
         refine rannounce (l := l) (n := n + 19) (by omega) htx (by omega) k1 (wp_mono hcall ?_)
         intro r h2 qq
         obtain ⟨u2, v, e, hv, hjj, rfl, hij2, hpl⟩ := qq
         refine ⟨v, jj, e, u2, ?_⟩
         have k2 := k1.un u2
         have k3 := k2.un (un_alloc h2 (.cells ⟨29, [.int .i64 0, .int .i64 0], true⟩))
         have hv3 : RepW (h2.alloc (.cells ⟨29, [.int .i64 0, .int .i64 0], true⟩)).blk (Al lo X) v ps := hv.mono fun b y a e => by
          have a' : h1.next ≤ b := a
          have := k1.c3
          exact ⟨⟨by omega, fun hm => by have := k1.c4 b hm; omega⟩, (blk_alloc_lt (Heap.blk_lt e)).trans e⟩
         generalize h2.alloc (.cells ⟨29, [.int .i64 0, .int .i64 0], true⟩) = h3 at *
         obtain ⟨va, vn, vc, rfl⟩ := hv3.one
         obtain ⟨tv4, h4, X4, cs4, e1, e2, ⟨ta, etv⟩, k4, hv4⟩ := k3.tok (x := ⟨0, [], ps, false, j⟩) hv3 (by omega)
         simp only [ec0] at e1 e2
         rcases b2 (announces toks) with g5 | g5
         ·rw [g5, if_pos rfl] at hs
          have hrend := rend_eq (ps := ps) (n := n + 19) (h := h4) (by omega) (by omega) hv4 (by omega)
          cases hwe : wordEnd ps [] false with
          | none =>
           rw [hwe] at hrend
           simp only [hwe] at hs
           have hs := Option.some.inj hs
           subst hs
           have k5 := k4.un (un_alloc _ (.cells ⟨29, [.int .i64 19, .int .i64 (j : Int)], true⟩))
           simp -implicitDefEqProofs only [p9_48, e1, e2, p9_52, g5, hrend, rwrong_eq (n + 19), k5.a, k5.f1, SS, SU, Nat.reduceAdd, Nat.reduceLeDiff, Nat.reduceBEq, Nat.reduceMul]
           exact wp_some.2 (rl_wrong k4 j)
          | some x =>
           obtain ⟨e0, q0⟩ := x
           rw [hwe] at hrend
           simp only [hwe] at hs
           obtain ⟨wv5, ev5, h5, h6, X6, cs6, f1, f2, f3, f4, k6⟩ := k4.wait (toks.length + 1) e0 (by omega)
           obtain ⟨tv7, h7, X7, cs7, d1, d2, _, k7, _⟩ := k6.tok (x := ⟨3, [], [], q0, j⟩) (wa := none) (wn := 0) (wc := 0) .nil (by simp; omega)
           have ec3 : ((3 : Nat) : Int) = 3 := rfl
           simp only [ec3] at d1 d2
           have lt4 : lenA E 22 tv4 = some (.int .i64 ((toks.length + 1 : Nat) : Int)) := by rw [etv]; exact ln22 _ _ _
           simp -implicitDefEqProofs only [p9_48, e1, e2, p9_52, g5, hrend, lt4, f1, f2, f3, f4, p9_61, d1, d2, p9_50, SS, SU, Nat.reduceAdd, Nat.reduceLeDiff, Nat.reduceBEq, Nat.reduceMul]
           refine go (by rw [← hs, List.append_assoc]; rfl) hjj k7 (by simp) (by simp) ?_ ?_
           ·intro t ht
            rcases List.mem_append.1 ht with e | e
            ·exact hnew t e
            ·simp at e; subst e; simp
           ·intro x hx
            rcases List.mem_append.1 hx with e | e
            ·have := hwk x e; simp; omega
            ·simp at e; subst e; simp
         ·rw [g5, if_neg (by decide)] at hs
          simp -implicitDefEqProofs only [p9_48, e1, e2, p9_52, g5, p9_50, SS, SU, Nat.reduceAdd, Nat.reduceLeDiff, Nat.reduceBEq, Nat.reduceMul]
          exact go hs hjj k4 (by simp) (by omega) hnew (fun x hx => by have := hwk x hx; simp; omega)
  ·have hge := of_decide_eq_false g1
   have gn1 : decide (l.length ≤ j) = true := decide_eq_true (by omega)
   have hd0 : l.drop j = [] := List.drop_of_length_le (by omega)
   rw [hd0] at hs
   have hjl : j = l.length := by omega
   rcases b2 (decide (0 < waits.length)) with g2 | g2
   ·have hw0 := of_decide_eq_true g2
    have hne : waits.isEmpty = false := by cases waits with | nil => simp at hw0 | cons => rfl
    simp only [hne, Bool.false_eq_true, if_false] at hs
    have hs := Option.some.inj hs
    subst hs
    have k3 := k.un (un_alloc _ (.cells ⟨29, [.int .i64 19, .int .i64 (l.length : Int)], true⟩))
    simp -implicitDefEqProofs only [p9_22, gn1, p9_11, lw, g2, rwrong_eq (n + 19), k3.a, k3.f1, SS, SU, Nat.reduceAdd, Nat.reduceLeDiff, Nat.reduceBEq, Nat.reduceMul]
    rw [hjl]
    exact wp_some.2 (rl_wrong k l.length)
   ·have hw0 := of_decide_eq_false g2
    have hne : waits.isEmpty = true := by cases waits with | nil => rfl | cons => simp at hw0
    simp only [hne, if_true] at hs
    have hs := Option.some.inj hs
    subst hs
    simp -implicitDefEqProofs only [p9_22, gn1, p9_11, lw, g2, k.a, k.f1, SS, SU, Nat.reduceAdd, Nat.reduceLeDiff, Nat.reduceBEq, Nat.reduceMul]
    refine wp_some.2 ⟨k.done _, tv, rfl, ?_⟩
    have hc1 := k.c1
    have hc2 := k.c2
    have hA : ∀ b y, Al lo X b → h.blk b = some y → h0.next ≤ b ∧ (h.set t3 (.cells ⟨29, [.int .i64 0, .int .i64 0], true⟩)).blk b = some y := by
     intro b y a e
     have := a.1
     exact ⟨by omega, (blk_set_ne (by omega)).trans e⟩
    rcases k.t with ⟨e1, e2, e3⟩ | ⟨b, e1, e2, e3, e4, e5, e6⟩
    ·exact .inl ⟨e1, by simpa using e3⟩
    ·exact .inr ⟨b, cs, toks.length, e1, rfl, e2, by omega, (blk_set_ne (by omega)).trans e3, k.r.mono hA⟩
end
end Go.Proofs.YteekjekckgpbfaaDoor.Abs
end
section
namespace Go.Proofs.YteekjekckgpbfaaDoor.Abs
open Sp
attribute [local congr] bindO_congr bindR_congr condV_congr wp_congr
theorem rlex_ok {l : Bs} {f n : Nat} {h : Heap} {res : Rz (List Tok)} (hs : lex f l = some res) (hf : f < 5000) (hn : 6 * f + 12300 ≤ n) (hl : l.length < 4611686018427387904) : wp (cF n 9 [.string (mkS l)] h) (LRQ h res) := by
 obtain ⟨n, rfl⟩ : ∃ n', n = n' + 1 := ⟨n - 1, by omega⟩
 have e40 : decide ((4000 : Int) < (l.length : Int)) = decide (4000 < l.length) := n_lt 4000 l.length
 have r0 : RL h (h.alloc (.cells ⟨29, [.int .i64 0, .int .i64 0], true⟩)) h.next (h.next + 1) [] (.slice none 0 0) (.slice none 0 0) (.slice none 0 0) [] [] [] :=
  ⟨blk_alloc_eq, Nat.le_refl _, by omega, by rw [next_alloc]; omega, fun x hx => (by cases hx), .inl ⟨rfl, rfl, rfl⟩, .nil, .inl ⟨rfl, rfl, rfl⟩, .inl ⟨rfl, rfl, rfl⟩, un_alloc h _⟩
 rw [c9]
 simp -implicitDefEqProofs only [f9, p9_0, e40, SS, SU, Nat.reduceAdd, Nat.reduceLeDiff, Nat.reduceBEq, Nat.reduceMul]
 unfold lex at hs
 rcases b2 (decide (4000 < l.length)) with g | g
 ·have := of_decide_eq_true g
  simp only [this, if_true] at hs
  have hs := Option.some.inj hs
  subst hs
  simp -implicitDefEqProofs only [g, r0.a, r0.f1, SS, SU, Nat.reduceAdd, Nat.reduceLeDiff, Nat.reduceBEq, Nat.reduceMul]
  exact wp_some.2 (rl_bad (c := 3) (a := 4000) r0 (by omega))
 ·have := of_decide_eq_false g
  simp only [this, if_false] at hs
  simp -implicitDefEqProofs only [g, SS, SU, Nat.reduceAdd, Nat.reduceLeDiff, Nat.reduceBEq, Nat.reduceMul]
  exact rlex_loop (l := l) (by omega) (N := n) (n := n) (by omega) f [] [] 0 n _ _ _ _ _ _ res (by rw [List.drop_zero]; exact hs) (by omega) r0 (by omega) hf (by omega) (by simp; omega) (by simp; omega) (fun t ht => by cases ht) (fun x hx => by cases hx)
end Go.Proofs.YteekjekckgpbfaaDoor.Abs
end
section
namespace Go.Proofs.YteekjekckgpbfaaDoor.Sp
mutual
def wtP : Part → Nat
 | ⟨_, _, _, _, ws⟩ => 1 + wtL ws
def wtL : List Part → Nat
 | [] => 0
 | p :: ps => wtP p + wtL ps
end
theorem wtL_append (a b : List Part) : wtL (a ++ b) = wtL a + wtL b := by
 induction a with
 | nil => simp [wtL]
 | cons x a ih => simp [wtL, ih]; omega
theorem wtL_flush (w : Nat) (out : List Part) (text : Bs) : wtL (flush w out text) ≤ wtL out + text.length := by
 unfold flush
 cases text with
 | nil => simp
 | cons c t => simp [wtL_append, wtL, wtP]
theorem wtL_len : ∀ ps : List Part, ps.length ≤ wtL ps := by
 intro ps
 induction ps with
 | nil => simp
 | cons x ps ih => obtain ⟨k, t, o, q, ws⟩ := x; simp [wtL, wtP]; omega
theorem parts_wt : ∀ f : Nat,
  (∀ w d out text i r ps j r', parts f w d out text i r = some (.ok (ps, j, r')) → wtL ps + r'.length ≤ wtL out + text.length + r.length ∧ r'.length ≤ r.length) ∧
  (∀ w d i c t x j r', dollar f w d i (c :: t) = some (.ok (x, j, r')) → r'.length < (c :: t).length ∧ ∀ p, x = some p → wtP p + r'.length ≤ (c :: t).length) ∧
  (∀ w d fr i r p j r', braces f w d fr i r = some (.ok (p, j, r')) → wtP p + r'.length ≤ r.length) := by
 intro f
 induction f with
 | zero => exact ⟨fun w d out text i r ps j r' h => by simp [parts] at h, fun w d i c t x j r' h => by simp [dollar] at h, fun w d fr i r p j r' h => by simp [braces] at h⟩
 | succ f ih =>
  obtain ⟨ihp, ihd, ihb⟩ := ih
  refine ⟨?_, ?_, ?_⟩
  ·intro w d out text i r ps j r' h
   cases r with
   | nil =>
    simp only [parts] at h
    injection h with h; injection h with h; injection h with h1 h; injection h with h2 h3
    subst h1; subst h3
    have hfl := wtL_flush w out text; simp; omega
   | cons c t =>
    rw [parts_cons] at h
    split at h
    ·injection h with h; injection h with h; injection h with h1 h; injection h with h2 h3
     subst h1; subst h3
     have hfl := wtL_flush w out text; simp; omega
    split at h
    ·have := ihp _ _ _ _ _ _ _ _ _ h; simp at this ⊢; omega
    split at h
    ·split at h
     ·injection h with h; cases h
     ·rename_i x t' _
      have := ihp _ _ _ _ _ _ _ _ _ h; have he := esc_le w x; simp at this ⊢; omega
    split at h
    ·split at h
     ·injection h with h; cases h
     ·have := ihp _ _ _ _ _ _ _ _ _ h; have hfl := wtL_flush w out text; simp [wtL_append, wtL, wtP] at this ⊢; omega
    split at h
    ·split at h
     ·cases h
     ·injection h with h; cases h
     ·rename_i p i' r'' hd
      have h1 := ihd _ _ _ _ _ _ _ _ hd
      have h2 := h1.2 p rfl
      have := ihp _ _ _ _ _ _ _ _ _ h; have hfl := wtL_flush w out text; simp [wtL_append, wtL] at this h1 h2 ⊢; omega
     ·rename_i i' r'' hd
      have h1 := ihd _ _ _ _ _ _ _ _ hd
      have := ihp _ _ _ _ _ _ _ _ _ h; simp at this h1 ⊢; omega
    split at h
    ·injection h with h; cases h
    split at h
    ·split at h
     ·injection h with h; cases h
     ·rename_i n hf
      have hn := find_lt hf
      have := ihp _ _ _ _ _ _ _ _ _ h; have hfl := wtL_flush w out text; simp [wtL_append, wtL, wtP] at this ⊢; omega
    split at h
    ·split at h
     ·cases h
     ·injection h with h; cases h
     ·rename_i qs i' r'' hq
      have h1 := ihp _ _ _ _ _ _ _ _ _ hq
      split at h
      ·rename_i hp
       have h2 := pre_le hp
       have := ihp _ _ _ _ _ _ _ _ _ h
       have h3 : wtL (if qs.isEmpty = true then [⟨1, [], [], true, []⟩] else qs) ≤ wtL qs + 1 := by
        split
        ·simp [wtL, wtP]
        ·omega
       have hfl := wtL_flush w out text; simp [wtL_append, wtL] at this h1 h2 h3 ⊢; omega
      ·injection h with h; cases h
    ·have := ihp _ _ _ _ _ _ _ _ _ h; simp at this ⊢; omega
  ·intro w d i c t x j r' h
   simp only [dollar] at h
   split at h
   ·injection h with h; cases h
   split at h
   ·split at h
    ·cases h
    ·injection h with h; cases h
    ·rename_i r'' hc
     have h1 := (closed_len f).1 _ _ _ hc
     injection h with h; injection h with h; injection h with h1' h; injection h with h2 h3
     subst h1'; subst h3
     simp at h1
     refine ⟨by simp; omega, fun p hp => ?_⟩
     injection hp with hp; subst hp
     simp [wtP, wtL]; omega
   split at h
   ·split at h
    ·cases h
    ·injection h with h; cases h
    ·rename_i p i' r'' hb
     have h1 := ihb _ _ _ _ _ _ _ _ hb
     injection h with h; injection h with h; injection h with h1' h; injection h with h2 h3
     subst h1'; subst h3
     simp at h1
     have h2 := pre_le (show pre [36, 123] (c :: t) = true by assumption)
     refine ⟨by simp at h2 ⊢; omega, fun q hq => ?_⟩
     injection hq with hq; subst hq
     simp; omega
   split at h
   ·injection h with h; injection h with h; injection h with h1' h; injection h with h2 h3
    subst h1'; subst h3
    exact ⟨by simp, fun p hp => by cases hp⟩
   ·injection h with h; injection h with h; injection h with h1' h; injection h with h2 h3
    subst h1'; subst h3
    refine ⟨by simp; omega, fun p hp => ?_⟩
    injection hp with hp; subst hp
    have := paramLen_le' [63, 35, 64, 42] t
    simp [wtP, wtL] at this ⊢; omega
  ·intro w d fr i r p j r' h
   simp only [braces] at h
   split at h
   ·injection h with h; cases h
   split at h
   ·rename_i hc
    injection h with h; injection h with h; injection h with h1' h; injection h with h2 h3
    subst h1'; subst h3
    have := paramLen_le' [63, 64, 42] (r.drop 1)
    have h2 := pre_le (show pre [35] r = true from (Bool.and_eq_true_iff.1 hc).1)
    simp [wtP, wtL] at this h2 ⊢; omega
   split at h
   ·injection h with h; cases h
   split at h
   ·injection h with h; injection h with h; injection h with h1' h; injection h with h2 h3
    subst h1'; subst h3
    have := paramLen_le' [63, 35, 64, 42] r
    have h2 := pre_le (show pre [125] (r.drop (paramLen [63, 35, 64, 42] r)) = true by assumption)
    simp [wtP, wtL] at this h2 ⊢; omega
   split at h
   ·injection h with h; cases h
   ·split at h
    ·cases h
    ·injection h with h; cases h
    ·rename_i ws i' r'' hq
     have h1 := ihp _ _ _ _ _ _ _ _ _ hq
     split at h
     ·injection h with h; injection h with h; injection h with h1' h; injection h with h2 h3
      subst h1'; subst h3
      have := paramLen_le' [63, 35, 64, 42] r
      have h2 := pre_le (show pre [125] r'' = true by assumption); simp [wtP, wtL] at this h1 h2 ⊢; omega
     ·injection h with h; cases h
end Go.Proofs.YteekjekckgpbfaaDoor.Sp
end
section
namespace Go.Proofs.YteekjekckgpbfaaDoor.Abs
open Sp
attribute [local congr] bindO_congr bindR_congr condV_congr wp_congr
theorem n_nes (a : Nat) : ((a : Int) != (a : Int)) = false := by simp
theorem s_nes (a : Bs) : (!(a == a)) = false := by simp
theorem s_nes' (a : Bs) : (a == a) = true := by simp
theorem b_nes (a : Bool) : (a != a) = false := by simp
theorem b_neq (a b : Bool) : binA E 4 .neq (.bool a) (.bool b) = some (.bool (a != b)) := by kernel_rfl
theorem RepL.cell {g : Nat → Option Blk} {A : Nat → Prop} {cs : List Value} {ps : List Part} (h : RepL g A cs ps) {j : Nat} {k : Nat} {t o : Bs} {q : Bool} {ws : List Part} (hj : ps[j]? = some ⟨k, t, o, q, ws⟩) :
  ∃ w, RepW g A w ws ∧ cs[j * 6]? = some (.int .i64 (k : Int)) ∧ cs[j * 6 + 1]? = some (.string (mkS t)) ∧ cs[j * 6 + 2]? = some (.string (mkS o)) ∧ cs[j * 6 + 3]? = some (.bool q) ∧ cs[j * 6 + 4]? = some w := by
 obtain ⟨o', q', w, ws', e, hw, hc, hl⟩ := h.get hj
 injection e with e1 e2 e3 e4 e5
 subst e3; subst e4; subst e5
 have g : ∀ i, i < 6 → cs[j * 6 + i]? = ((cs.drop (j * 6)).take 6)[i]? := fun i hi => by rw [List.getElem?_take_of_lt hi, List.getElem?_drop]
 rw [hc] at g
 exact ⟨w, hw, g 0 (by omega), g 1 (by omega), g 2 (by omega), g 3 (by omega), g 4 (by omega)⟩
theorem wtL_mem {x : Part} {ps : List Part} (h : x ∈ ps) : wtP x ≤ wtL ps := by
 induction ps with
 | nil => cases h
 | cons y ps ih =>
  simp only [wtL]
  rcases List.mem_cons.1 h with e | e
  ·subst e; omega
  ·have := ih e; omega
theorem sameParts_loop {ps : List Part} {h : Heap} {A B : Nat → Prop} {v v' : Value} {n N : Nat} (hps : ps.length ≤ 100000) (hv : RepW h.blk A v ps) (hv' : RepW h.blk B v' ps)
  (hin : ∀ x, x ∈ ps → ∀ w w', RepW h.blk A w (match x with | ⟨_, _, _, _, ws⟩ => ws) → RepW h.blk B w' (match x with | ⟨_, _, _, _, ws⟩ => ws) → cF n 34 [w, w'] h = some (.ret (.bool true), h)) : ∀ (m jx : Nat), jx ≤ ps.length → ps.length - jx < m →
  l34_11 (cF n) N m v v' (.int .i64 (jx : Int)) h = some (.ret (.bool true), h) := by
 have hlen : lenA E 37 v = some (.int .i64 (ps.length : Int)) := by
  cases hv with
  | nil => rfl
  | some b cs n _ _ _ _ hn _ => rw [ln37, hn]
 intro m
 induction m with
 | zero => intro jx _ h; omega
 | succ m ih =>
  intro jx hj hm
  rcases b2 (decide (jx < ps.length)) with hlt | hlt
  ·have hlt0 := of_decide_eq_true hlt
   have hg : ps[jx]? = some ps[jx] := by simp [hlt0]
   have hmem : ps[jx] ∈ ps := List.getElem_mem ..
   have hin1 := hin _ hmem
   generalize ps[jx] = x at hg hin1
   obtain ⟨k, t, o, q, ws⟩ := x
   have hb1 : jx + 1 < 9223372036854775808 := by omega
   have hrec := ih (jx + 1) (by omega) (by omega)
   cases hv with
   | nil => simp at hlt0
   | some b cs n1 _ ha hb hl hn hpos =>
    cases hv' with
    | nil => simp at hlt0
    | some b' cs' n2 _ ha' hb' hl' hn' hpos' =>
     obtain ⟨w, hw, g0, g1, g2, g3, g4⟩ := hl.cell hg
     obtain ⟨w', hw', d0, d1, d2, d3, d4⟩ := hl'.cell hg
     have hcall := hin1 w w' hw hw'
     have z0 : 0 + jx * 6 = jx * 6 := by omega
     have z00 : jx * 6 + 0 = jx * 6 := rfl
     simp -implicitDefEqProofs only [l34_11, p34_12, hlen, hlt, ia37 b 0 n1 n1 jx (by omega), ia37 b' 0 n2 n2 jx (by omega), z0, z00, hb, hb', g0, g1, g2, g3, g4, d0, d1, d2, d3, d4, n_nes, s_nes, s_nes', b_neq, b_nes, hcall, p34_19, p34_16, wrap_nat (jx + 1) hb1, hrec, SS, SU, Nat.reduceAdd, Nat.reduceLeDiff, Nat.reduceBEq, Nat.reduceMul]
  ·simp -implicitDefEqProofs only [l34_11, p34_12, hlen, hlt, p34_7, SS, SU, Nat.reduceAdd, Nat.reduceLeDiff, Nat.reduceBEq, Nat.reduceMul]
theorem sameParts_ok {h : Heap} {A B : Nat → Prop} : ∀ (M : Nat) (ps : List Part) (v v' : Value) (n : Nat), wtL ps ≤ M → RepW h.blk A v ps → RepW h.blk B v' ps → M ≤ 100000 → M + 2 ≤ n → cF n 34 [v, v'] h = some (.ret (.bool true), h) := by
 intro M
 induction M with
 | zero =>
  intro ps v v' n hw hv hv' hM hn
  have : ps = [] := by
   have := wtL_len ps
   exact List.length_eq_zero_iff.1 (by omega)
  subst this
  obtain ⟨n, rfl⟩ : ∃ n', n = n' + 1 := ⟨n - 1, by omega⟩
  cases hv with
  | nil =>
   cases hv' with
   | nil =>
    have := sameParts_loop (h := h) (A := A) (B := B) (n := n) (N := n) (ps := []) (by simp) .nil .nil (fun x hx => by cases hx) n 0 (by simp) (by simp; omega)
    have hl : lenA E 37 (.slice none 0 0) = some (.int .i64 0) := rfl
    have e0 : ((0 : Nat) : Int) = 0 := rfl
    rw [e0] at this
    have z : ((0 : Int) != 0) = false := rfl
    rw [c34]
    simp -implicitDefEqProofs only [f34, p34_0, hl, z, p34_10, this, SS, SU, Nat.reduceAdd, Nat.reduceLeDiff, Nat.reduceBEq, Nat.reduceMul]
   | some _ _ _ _ _ _ _ h1 h2 => simp at h1; omega
  | some _ _ _ _ _ _ _ h1 h2 => simp at h1; omega
 | succ M ih =>
  intro ps v v' n hw hv hv' hM hn
  obtain ⟨n, rfl⟩ : ∃ n', n = n' + 1 := ⟨n - 1, by omega⟩
  have hl := wtL_len ps
  have hloop := sameParts_loop (h := h) (A := A) (B := B) (n := n) (N := n) (ps := ps) (v := v) (v' := v') (by omega) hv hv' (fun x hx w w' hw1 hw2 => by
   obtain ⟨k, t, o, q, ws⟩ := x
   have := wtL_mem hx
   simp only [wtP] at this
   exact ih ws w w' n (by omega) hw1 hw2 (by omega) (by omega)) n 0 (by omega) (by omega)
  have e0 : ((0 : Nat) : Int) = 0 := rfl
  rw [e0] at hloop
  have l1 : lenA E 37 v = some (.int .i64 (ps.length : Int)) := by
   cases hv with
   | nil => rfl
   | some b cs n _ _ _ _ hn _ => rw [ln37, hn]
  have l2 : lenA E 37 v' = some (.int .i64 (ps.length : Int)) := by
   cases hv' with
   | nil => rfl
   | some b cs n _ _ _ _ hn _ => rw [ln37, hn]
  rw [c34]
  simp -implicitDefEqProofs only [f34, p34_0, l1, l2, n_nes, p34_10, hloop, SS, SU, Nat.reduceAdd, Nat.reduceLeDiff, Nat.reduceBEq, Nat.reduceMul]
theorem same_loop {ts : List Tok} {h : Heap} {A B : Nat → Prop} {v v' : Value} {n N : Nat} (hps : ts.length ≤ 100000) (hv : RepTk h A v ts) (hv' : RepTk h B v' ts)
  (hin : ∀ x, x ∈ ts → wtL x.parts ≤ 90000) (hn : 90002 ≤ n) : ∀ (m jx : Nat), jx ≤ ts.length → ts.length - jx < m →
  l11_11 (cF n) N m v v' (.int .i64 (jx : Int)) h = some (.ret (.bool true), h) := by
 have hlen : lenA E 22 v = some (.int .i64 (ts.length : Int)) := by
  rcases hv with ⟨rfl, rfl⟩ | ⟨b, cs, n1, rfl, hn, hpos, ha, hb, hl⟩
  ·rfl
  ·rw [ln22, hn]
 intro m
 induction m with
 | zero => intro jx _ h; omega
 | succ m ih =>
  intro jx hj hm
  rcases b2 (decide (jx < ts.length)) with hlt | hlt
  ·have hlt0 := of_decide_eq_true hlt
   have hg : ts[jx]? = some ts[jx] := by simp [hlt0]
   have hmem : ts[jx] ∈ ts := List.getElem_mem ..
   have hin1 := hin _ hmem
   generalize ts[jx] = x at hg hin1
   have hb1 : jx + 1 < 9223372036854775808 := by omega
   have hrec := ih (jx + 1) (by omega) (by omega)
   rcases hv with ⟨rfl, rfl⟩ | ⟨b, cs, n1, rfl, hn1, hpos, ha, hb, hl⟩
   ·simp at hlt0
   ·rcases hv' with ⟨rfl, rfl⟩ | ⟨b', cs', n2, rfl, hn2, hpos', ha', hb', hl'⟩
    ·simp at hlt0
    ·obtain ⟨w, hw, g0, g1, g2, g3, g4, _⟩ := hl.get hg
     obtain ⟨w', hw', d0, d1, d2, d3, d4, _⟩ := hl'.get hg
     have hcall := sameParts_ok 90000 x.parts w w' n hin1 hw hw' (by omega) (by omega)
     have z0 : 0 + jx * 5 = jx * 5 := by omega
     have z00 : jx * 5 + 0 = jx * 5 := rfl
     simp -implicitDefEqProofs only [l11_11, p11_12, hlen, hlt, ia22 b 0 n1 n1 jx (by omega), ia22 b' 0 n2 n2 jx (by omega), z0, z00, hb, hb', g0, g1, g2, g3, g4, d0, d1, d2, d3, d4, n_nes, s_nes, s_nes', b_neq, b_nes, hcall, p11_19, p11_16, wrap_nat (jx + 1) hb1, hrec, SS, SU, Nat.reduceAdd, Nat.reduceLeDiff, Nat.reduceBEq, Nat.reduceMul]
  ·simp -implicitDefEqProofs only [l11_11, p11_12, hlen, hlt, p11_7, SS, SU, Nat.reduceAdd, Nat.reduceLeDiff, Nat.reduceBEq, Nat.reduceMul]
theorem same_ok {ts : List Tok} {h : Heap} {A B : Nat → Prop} {v v' : Value} {n : Nat} (hps : ts.length ≤ 90000) (hv : RepTk h A v ts) (hv' : RepTk h B v' ts)
  (hin : ∀ x, x ∈ ts → wtL x.parts ≤ 90000) (hn : 90003 ≤ n) : cF n 11 [v, v'] h = some (.ret (.bool true), h) := by
 obtain ⟨n, rfl⟩ : ∃ n', n = n' + 1 := ⟨n - 1, by omega⟩
 have hloop := same_loop (n := n) (N := n) (by omega) hv hv' hin (by omega) n 0 (by omega) (by omega)
 have e0 : ((0 : Nat) : Int) = 0 := rfl
 rw [e0] at hloop
 have l1 : lenA E 22 v = some (.int .i64 (ts.length : Int)) := by
  rcases hv with ⟨rfl, rfl⟩ | ⟨b, cs, n1, rfl, hn, hpos, ha, hb, hl⟩
  ·rfl
  ·rw [ln22, hn]
 have l2 : lenA E 22 v' = some (.int .i64 (ts.length : Int)) := by
  rcases hv' with ⟨rfl, rfl⟩ | ⟨b, cs, n1, rfl, hn, hpos, ha, hb, hl⟩
  ·rfl
  ·rw [ln22, hn]
 clear hin hv hv' hn hps
 refine Eq.trans (c11 ..) ?_
 simp -implicitDefEqProofs only [f11, p11_0, l1, l2, n_nes, p11_10, hloop, SS, SU, Nat.reduceAdd, Nat.reduceLeDiff, Nat.reduceBEq, Nat.reduceMul]
end Go.Proofs.YteekjekckgpbfaaDoor.Abs
end
section
namespace Go.Proofs.YteekjekckgpbfaaDoor.Abs
open Sp
attribute [local congr] bindO_congr bindR_congr condV_congr wp_congr
theorem c32 (n : Nat) (x y : Value) (h : Heap) : cF (n + 1) 32 [x, y] h = asA x y h := by kernel_rfl
theorem c33 (n : Nat) (x y : Value) (h : Heap) : cF (n + 1) 33 [x, y] h = isA x y h := by kernel_rfl
theorem st0 (p v : Value) (h : Heap) : storeA E0 51 p v h = storeA E 51 p v h := by kernel_rfl
theorem st_pf (b : Nat) (v : Addr) (h : Heap) (hb : h.blk b = some ⟨51, [.pointer none], true⟩) : storeA E 51 (.pointer (some ⟨b, 0, none⟩)) (.pointer (some v)) h = some (h.set b (.cells ⟨51, [.pointer (some v)], true⟩)) := by
 refine (store_at ty51 b 0 _ h).trans ?_
 rw [hb]; rfl
theorem ld0 (p : Value) (h : Heap) : loadA E0 27 p h = loadA E 27 p h := by kernel_rfl
theorem eq_nil : binA E 24 .eql .nilIface .nilIface = some (.bool true) := by kernel_rfl
theorem eq_if (t : Nat) (v : Value) : binA E 24 .eql (.iface t v) .nilIface = some (.bool false) := by kernel_rfl
theorem as_e (e : Addr) (p : Value) (h : Heap) : asA (.iface 51 (.pointer (some e))) (.iface 71 p) h = match storeA E 51 p (.pointer (some e)) h with | none => none | some h' => some (.ret (.bool true), h') := by kernel_rfl
theorem is_e (p : Value) (n : Int) (h : Heap) : isA (.iface 51 p) (.iface 27 (.int .i64 n)) h = match loadA E 27 p h with | some (.int .i64 m) => some (.ret (.bool (m == n)), h) | _ => none := by kernel_rfl
theorem i_eqs (a : Nat) : ((a : Int) == (a : Int)) = true := by simp
theorem told_nil (n : Nat) (h : Heap) : cF (n + 3) 10 [.nilIface, zeroAt] h = some (.ret (.bool true), h.alloc (.cells ⟨29, [.int .i64 0, .int .i64 0], true⟩)) := by
 have hbox : boxA 29 (.agg ⟨[.int .i64 0, .int .i64 0]⟩) h = (.pointer (some ⟨h.next, 0, none⟩), h.alloc (.cells ⟨29, [.int .i64 0, .int .i64 0], true⟩)) := rfl
 have a1 : ∀ (cs : List Value), (h.alloc (.cells ⟨29, cs, true⟩)).blk h.next = some ⟨29, cs, true⟩ := fun cs => blk_alloc_eq
 have z : ((0 : Int) == 0) = true := rfl
 rw [c10]
 simp -implicitDefEqProofs only [f10, p10_0, hbox, a1, eq_nil, z, SS, SU, Nat.reduceAdd, Nat.reduceLeDiff, Nat.reduceBEq, Nat.reduceMul]
theorem told_is (n : Nat) {h : Heap} {b c a : Nat} (hb : h.blk b = some ⟨52, [.int .i64 (c : Int), .int .i64 (a : Int)], true⟩) (hc : 0 < c) : wp (cF (n + 3) 10 [.iface 51 (Pt b), atV c a] h) (fun r h' => r = .ret (.bool true) ∧ Un h.next h h') := by
 have hbox : boxA 29 (.agg ⟨[.int .i64 (c : Int), .int .i64 (a : Int)]⟩) h = (.pointer (some ⟨h.next, 0, none⟩), h.alloc (.cells ⟨29, [.int .i64 (c : Int), .int .i64 (a : Int)], true⟩)) := rfl
 have a1 : (h.alloc (.cells ⟨29, [.int .i64 (c : Int), .int .i64 (a : Int)], true⟩)).blk h.next = some ⟨29, [.int .i64 (c : Int), .int .i64 (a : Int)], true⟩ := blk_alloc_eq
 have hc0 : ((c : Int) == 0) = false := by
  have : (c : Int) ≠ 0 := by omega
  simpa using this
 have b1 : (h.alloc (.cells ⟨29, [.int .i64 (c : Int), .int .i64 (a : Int)], true⟩)).blk b = some ⟨52, [.int .i64 (c : Int), .int .i64 (a : Int)], true⟩ := (blk_alloc_lt (Heap.blk_lt hb)).trans hb
 have u1 := un_alloc h (.cells ⟨29, [.int .i64 (c : Int), .int .i64 (a : Int)], true⟩)
 have n1 : (h.alloc (.cells ⟨29, [.int .i64 (c : Int), .int .i64 (a : Int)], true⟩)).next = h.next + 1 := rfl
 rw [c10]
 simp -implicitDefEqProofs only [f10, p10_0, atV, hbox, a1, eq_if, hc0, SS, SU, Nat.reduceAdd, Nat.reduceLeDiff, Nat.reduceBEq, Nat.reduceMul]
 generalize h.alloc (.cells ⟨29, [.int .i64 (c : Int), .int .i64 (a : Int)], true⟩) = h1 at *
 have a2 : (h1.alloc (.cells ⟨51, [.pointer none], true⟩)).blk h.next = some ⟨29, [.int .i64 (c : Int), .int .i64 (a : Int)], true⟩ := (blk_alloc_lt (Heap.blk_lt a1)).trans a1
 have b2 : (h1.alloc (.cells ⟨51, [.pointer none], true⟩)).blk b = some ⟨52, [.int .i64 (c : Int), .int .i64 (a : Int)], true⟩ := (blk_alloc_lt (Heap.blk_lt b1)).trans b1
 have g2 : (h1.alloc (.cells ⟨51, [.pointer none], true⟩)).blk h1.next = some ⟨51, [.pointer none], true⟩ := blk_alloc_eq
 have u2 := un_trans u1 (un_alloc h1 (.cells ⟨51, [.pointer none], true⟩))
 have n2 : (h1.alloc (.cells ⟨51, [.pointer none], true⟩)).next = h1.next + 1 := rfl
 simp -implicitDefEqProofs only [p10_7, if71, c32, as_e, st_pf _ _ _ g2, SS, SU, Nat.reduceAdd, Nat.reduceLeDiff, Nat.reduceBEq, Nat.reduceMul]
 generalize h1.alloc (.cells ⟨51, [.pointer none], true⟩) = h2 at *
 have hbn := Heap.blk_lt hb
 have a3 : (h2.set h1.next (.cells ⟨51, [Pt b], true⟩)).blk h.next = some ⟨29, [.int .i64 (c : Int), .int .i64 (a : Int)], true⟩ := (blk_set_ne (by omega)).trans a2
 have b3 : (h2.set h1.next (.cells ⟨51, [Pt b], true⟩)).blk b = some ⟨52, [.int .i64 (c : Int), .int .i64 (a : Int)], true⟩ := (blk_set_ne (by omega)).trans b2
 have g3 : (h2.set h1.next (.cells ⟨51, [Pt b], true⟩)).blk h1.next = some ⟨51, [Pt b], true⟩ := blk_set_eq (by omega)
 simp -implicitDefEqProofs only [a3, b3, g3, i_eqs, if27, c33, is_e, SS, SU, Nat.reduceAdd, Nat.reduceLeDiff, Nat.reduceBEq, Nat.reduceMul]
 refine wp_some.2 (And.intro rfl ?_)
 exact un_new u2 (by omega) _
end Go.Proofs.YteekjekckgpbfaaDoor.Abs
end
section
namespace Go.Proofs.YteekjekckgpbfaaDoor.Sp
theorem closed_some : ∀ f : Nat, (∀ d r, r.length < f → ∃ x, closed f d r = some x) ∧ (∀ r, r.length < f → ∃ x, closedQ f r = some x) := by
 intro f
 induction f with
 | zero => exact ⟨fun d r h => by omega, fun r h => by omega⟩
 | succ f ih =>
  constructor
  ·intro d r h
   cases r with
   | nil => exact ⟨_, rfl⟩
   | cons c t =>
    simp only [List.length_cons] at h
    simp only [closed]
    split
    ·exact ih.1 _ _ (by simp; omega)
    split
    ·split
     ·exact ⟨_, rfl⟩
     ·exact ih.1 _ _ (by simp; omega)
    split
    ·split
     ·rename_i hq
      obtain ⟨x, hx⟩ := ih.2 t (by omega)
      rw [hx] at hq; cases hq
     ·exact ⟨_, rfl⟩
     ·rename_i t' hq
      have := (closed_len f).2 _ _ hq
      exact ih.1 _ _ (by omega)
    split
    ·exact ih.1 _ _ (by omega)
    split
    ·split
     ·exact ⟨_, rfl⟩
     ·exact ih.1 _ _ (by omega)
    ·exact ih.1 _ _ (by omega)
  ·intro r h
   cases r with
   | nil => exact ⟨_, rfl⟩
   | cons c t =>
    simp only [List.length_cons] at h
    simp only [closedQ]
    split
    ·exact ih.2 _ (by simp; omega)
    split
    ·exact ⟨_, rfl⟩
    split
    ·split
     ·rename_i hq
      obtain ⟨x, hx⟩ := ih.1 1 (t.drop 1) (by simp; omega)
      rw [hx] at hq; cases hq
     ·exact ⟨_, rfl⟩
     ·rename_i t' hq
      have := (closed_len f).1 _ _ _ hq
      simp at this
      exact ih.2 _ (by omega)
    ·exact ih.2 _ (by omega)
theorem ops_pos {o : Bs} {r : Bs} (h : opsL.find? (fun o => pre o r) = some o) : 1 ≤ o.length := by
 have hm := List.mem_of_find?_eq_some h
 have hall : opsL.all (fun o => decide (1 ≤ o.length)) = true := by decide
 rw [List.all_eq_true] at hall
 simpa using hall o hm
theorem parts_some : ∀ f : Nat,
  (∀ w d out text i r, r.length < f → ∃ x, parts f w d out text i r = some x) ∧
  (∀ w d i c t, (c :: t).length ≤ f → ∃ x, dollar f w d i (c :: t) = some x) ∧
  (∀ w d fr i r, r.length < f → ∃ x, braces f w d fr i r = some x) := by
 intro f
 induction f with
 | zero => exact ⟨fun w d out text i r h => by omega, fun w d i c t h => by simp at h, fun w d fr i r h => by omega⟩
 | succ f ih =>
  obtain ⟨ihp, ihd, ihb⟩ := ih
  refine ⟨?_, ?_, ?_⟩
  ·intro w d out text i r h
   cases r with
   | nil => exact ⟨_, parts.eq_2 ..⟩
   | cons c t =>
    simp only [List.length_cons] at h
    rw [parts_cons]
    split
    ·exact ⟨_, rfl⟩
    split
    ·exact ihp _ _ _ _ _ _ (by simp; omega)
    split
    ·split
     ·exact ⟨_, rfl⟩
     ·exact ihp _ _ _ _ _ _ (by simp at h; omega)
    split
    ·split
     ·exact ⟨_, rfl⟩
     ·exact ihp _ _ _ _ _ _ (by simp at h; omega)
    split
    ·split
     ·rename_i hq
      obtain ⟨x, hx⟩ := ihd w d i c t (by simp; omega)
      rw [hx] at hq; cases hq
     ·exact ⟨_, rfl⟩
     ·rename_i p i' r'' hd
      have h1 := ((parts_len f).2.1 _ _ _ _ _ _ _ _ hd).1
      simp at h1
      exact ihp _ _ _ _ _ _ (by omega)
     ·rename_i i' r'' hd
      have h1 := ((parts_len f).2.1 _ _ _ _ _ _ _ _ hd).1
      simp at h1
      exact ihp _ _ _ _ _ _ (by omega)
    split
    ·exact ⟨_, rfl⟩
    split
    ·split
     ·exact ⟨_, rfl⟩
     ·exact ihp _ _ _ _ _ _ (by simp; omega)
    split
    ·split
     ·rename_i hq
      obtain ⟨x, hx⟩ := ihp 1 d [] [] (i + 1) t (by omega)
      rw [hx] at hq; cases hq
     ·exact ⟨_, rfl⟩
     ·rename_i qs i' r'' hq
      have h1 := ((parts_len f).1 _ _ _ _ _ _ _ _ _ hq).2
      split
      ·exact ihp _ _ _ _ _ _ (by simp; omega)
      ·exact ⟨_, rfl⟩
    ·exact ihp _ _ _ _ _ _ (by omega)
  ·intro w d i c t h
   simp only [List.length_cons] at h
   simp only [dollar]
   split
   ·exact ⟨_, rfl⟩
   split
   ·rename_i hp
    have := pre_le hp
    simp at this
    split
    ·rename_i hq
     obtain ⟨x, hx⟩ := (closed_some f).1 1 ((c :: t).drop 2) (by simp; omega)
     rw [hx] at hq; cases hq
    ·exact ⟨_, rfl⟩
    ·exact ⟨_, rfl⟩
   split
   ·rename_i hp
    have := pre_le hp
    simp at this
    split
    ·rename_i hq
     obtain ⟨x, hx⟩ := ihb w d i (i + 2) ((c :: t).drop 2) (by simp; omega)
     rw [hx] at hq; cases hq
    ·exact ⟨_, rfl⟩
    ·exact ⟨_, rfl⟩
   split
   ·exact ⟨_, rfl⟩
   ·exact ⟨_, rfl⟩
  ·intro w d fr i r h
   simp only [braces]
   split
   ·exact ⟨_, rfl⟩
   split
   ·exact ⟨_, rfl⟩
   split
   ·exact ⟨_, rfl⟩
   split
   ·exact ⟨_, rfl⟩
   split
   ·exact ⟨_, rfl⟩
   ·rename_i hk _ o ho
    have h1 := ops_pos ho
    have h2 := pre_le (show (pre o (r.drop (paramLen [63, 35, 64, 42] r)) = true) by have := List.find?_some ho; simpa using this)
    simp at h2
    split
    ·rename_i hq
     obtain ⟨x, hx⟩ := ihp (if inQ w = true then 4 else 3) (d + 1) [] [] (i + paramLen [63, 35, 64, 42] r + o.length) (r.drop (paramLen [63, 35, 64, 42] r + o.length)) (by simp; omega)
     rw [hx] at hq; cases hq
    ·exact ⟨_, rfl⟩
    ·split <;> exact ⟨_, rfl⟩
theorem docRows_some (last : Bs) : ∀ (f : Nat) (acc : Bs) (i : Nat) (r : Bs), r.length < f → ∃ x, docRows last f acc i r = some x := by
 intro f
 induction f with
 | zero => intro acc i r h; omega
 | succ f ih =>
  intro acc i r h
  simp only [docRows]
  split
  ·exact ⟨_, rfl⟩
  split
  ·exact ⟨_, rfl⟩
  ·rename_i h1 h2
   refine ih _ _ _ ?_
   have : r.length ≠ 0 := by intro e; exact h1 (by simp [List.length_eq_zero_iff.1 e])
   simp only [List.length_drop]; omega
theorem docs_some (f : Nat) : ∀ (ws : List (Nat × Bs)) (toks : List Tok) (i : Nat) (r : Bs), r.length < f → (∀ x, x ∈ ws → x.1 < toks.length) → ∃ x, docs f ws toks i r = some x := by
 intro ws
 induction ws with
 | nil => intro toks i r h hw; exact ⟨_, rfl⟩
 | cons w ws ih =>
  intro toks i r h hw
  obtain ⟨k, last⟩ := w
  have hk : k < toks.length := hw (k, last) List.mem_cons_self
  have hw' : ∀ x, x ∈ ws → x.1 < toks.length := fun x hx => hw x (List.mem_cons_of_mem _ hx)
  simp only [docs]
  split
  ·rename_i hq
   obtain ⟨x, hx⟩ := docRows_some last f [] i r h
   rw [hx] at hq; cases hq
  ·exact ⟨_, rfl⟩
  ·rename_i text i1 r1 hd
   have h1 := docRows_len last _ _ _ _ _ _ _ hd
   simp at h1
   split
   ·rename_i hn
    simp at hn; omega
   ·split
    ·exact ih _ _ _ (by omega) (by simpa using hw')
    ·split
     ·rename_i hq
      obtain ⟨x, hx⟩ := (parts_some f).1 2 0 [] [] i text (by omega)
      rw [hx] at hq; cases hq
     ·exact ⟨_, rfl⟩
     ·exact ih _ _ _ (by omega) (by simpa using hw')
theorem parts_go {f w d i : Nat} {out : List Part} {text : Bs} {c : UInt8} {t : Bs} {ps : List Part} {j : Nat} {r' : Bs} (h : parts f w d out text i (c :: t) = some (.ok (ps, j, r'))) (he : ends w c = false) : r'.length < (c :: t).length := by
 cases f with
 | zero => simp [parts] at h
 | succ f =>
  rw [parts_cons] at h
  simp only [he, Bool.false_eq_true, if_false] at h
  split at h
  ·have := ((parts_len f).1 _ _ _ _ _ _ _ _ _ h).2; simp at this ⊢; omega
  split at h
  ·split at h
   ·injection h with h; cases h
   ·have := ((parts_len f).1 _ _ _ _ _ _ _ _ _ h).2; simp at this ⊢; omega
  split at h
  ·split at h
   ·injection h with h; cases h
   ·have := ((parts_len f).1 _ _ _ _ _ _ _ _ _ h).2; simp at this ⊢; omega
  split at h
  ·split at h
   ·cases h
   ·injection h with h; cases h
   ·rename_i p i' r'' hd
    have h1 := ((parts_len f).2.1 _ _ _ _ _ _ _ _ hd).1
    have := ((parts_len f).1 _ _ _ _ _ _ _ _ _ h).2; simp at this h1 ⊢; omega
   ·rename_i i' r'' hd
    have h1 := ((parts_len f).2.1 _ _ _ _ _ _ _ _ hd).1
    have := ((parts_len f).1 _ _ _ _ _ _ _ _ _ h).2; simp at this h1 ⊢; omega
  split at h
  ·injection h with h; cases h
  split at h
  ·split at h
   ·injection h with h; cases h
   ·have := ((parts_len f).1 _ _ _ _ _ _ _ _ _ h).2; simp at this ⊢; omega
  split at h
  ·split at h
   ·cases h
   ·injection h with h; cases h
   ·rename_i qs i' r'' hq
    have h1 := ((parts_len f).1 _ _ _ _ _ _ _ _ _ hq).2
    split at h
    ·have := ((parts_len f).1 _ _ _ _ _ _ _ _ _ h).2; simp at this ⊢; omega
    ·injection h with h; cases h
  ·have := ((parts_len f).1 _ _ _ _ _ _ _ _ _ h).2; simp at this ⊢; omega
theorem skip_len : ∀ (n i : Nat) (r : Bs), r.length ≤ n → (skip i r).2.length ≤ r.length ∧ ∀ c t, (skip i r).2 = c :: t → (c == 32) = false ∧ (c == 9) = false := by
 intro n
 induction n with
 | zero =>
  intro i r h
  have : r = [] := List.length_eq_zero_iff.1 (by omega)
  subst this
  exact ⟨Nat.le_refl _, fun c t e => by cases e⟩
 | succ n ih =>
  intro i r h
  cases r with
  | nil => exact ⟨Nat.le_refl _, fun c t e => by cases e⟩
  | cons c t =>
   simp only [List.length_cons] at h
   unfold skip
   split
   ·have := ih (i + 1) t (by omega)
    exact ⟨by simp; omega, this.2⟩
   ·rename_i g
    have g2 : (c == 32) = false ∧ (c == 9) = false := by
     rcases bb (c == 32) with a | a <;> rcases bb (c == 9) with b | b <;> simp [a, b] at g ⊢
    split
    ·split
     ·refine ⟨Nat.le_refl _, fun d u e => ?_⟩
      injection e with e1 e2; subst e1; exact g2
     ·rename_i d t'
      split
      ·have := ih (i + 2) t' (by simp at h; omega)
       exact ⟨by simp; omega, this.2⟩
      ·refine ⟨Nat.le_refl _, fun d u e => ?_⟩
       injection e with e1 e2; subst e1; exact g2
    ·refine ⟨Nat.le_refl _, fun d u e => ?_⟩
     injection e with e1 e2; subst e1; exact g2
theorem marks_none {c : UInt8} {t : Bs} (h : marksL.find? (fun m => pre m ((c :: t).drop (digitOf (c :: t)))) = none) (h32 : (c == 32) = false) (h9 : (c == 9) = false) (h10 : (c == 10) = false) (h38 : (c == 38) = false) : ends 0 c = false := by
 have hm : ∀ b : UInt8, [b] ∈ marksL → pre [b] ((c :: t).drop (digitOf (c :: t))) = false := fun b hb => by
  have := List.find?_eq_none.1 h [b] hb
  simpa using this
 by_cases hd : digitOf (c :: t) = 0
 ·rw [hd] at hm
  have hx : ∀ b : UInt8, [b] ∈ marksL → (c == b) = false := fun b hb => by
   have := hm b hb
   simpa [pre] using this
  have e59 := hx 59 (by decide)
  have e124 := hx 124 (by decide)
  have e40 := hx 40 (by decide)
  have e41 := hx 41 (by decide)
  have e60 := hx 60 (by decide)
  have e62 := hx 62 (by decide)
  show ([32, 9, 10, 59, 38, 124, 40, 41, 60, 62] : List UInt8).contains c = false
  simp only [List.contains_cons, List.contains_nil, h32, h9, h10, e59, h38, e124, e40, e41, e60, e62]
  rfl
 ·cases t with
  | nil => exact absurd rfl hd
  | cons d t =>
   simp only [digitOf] at hd
   split at hd
   ·rename_i g
    simp only [Bool.and_eq_true, decide_eq_true_eq] at g
    have h1 : 48 ≤ c.toNat := by omega
    have h2 : c.toNat ≤ 50 := by omega
    have hne : ∀ b : UInt8, (b.toNat < 48 ∨ 50 < b.toNat) → (c == b) = false := fun b hb => by
     have : c ≠ b := fun e => by subst e; omega
     simpa using this
    show ([32, 9, 10, 59, 38, 124, 40, 41, 60, 62] : List UInt8).contains c = false
    simp only [List.contains_cons, List.contains_nil, hne 32 (by decide), hne 9 (by decide), hne 10 (by decide), hne 59 (by decide), hne 38 (by decide), hne 124 (by decide), hne 40 (by decide), hne 41 (by decide), hne 60 (by decide), hne 62 (by decide)]
    rfl
   ·exact absurd rfl hd
theorem marks_pos {m r : Bs} (h : marksL.find? (fun m => pre m r) = some m) : 1 ≤ m.length := by
 have hm := List.mem_of_find?_eq_some h
 have hall : marksL.all (fun o => decide (1 ≤ o.length)) = true := by decide
 rw [List.all_eq_true] at hall
 simpa using hall m hm
theorem row_pos {c : UInt8} {t : Bs} (h : (c == 10) = false) : 1 ≤ (row (c :: t)).length := by
 unfold row
 rw [List.takeWhile_cons]
 have : (c != 10) = true := by simp only [bne, h]; rfl
 rw [this, if_pos rfl]; simp
theorem lexL_some : ∀ (f : Nat) (toks : List Tok) (waits : List (Nat × Bs)) (i : Nat) (r : Bs), r.length + 1 < f → (∀ x, x ∈ waits → x.1 < toks.length) → ∃ x, lexL f toks waits i r = some x := by
 intro f
 induction f with
 | zero => intro toks waits i r h; omega
 | succ f ih =>
  intro toks waits i0 r0 h hw
  have hsk := skip_len _ i0 r0 (Nat.le_refl _)
  simp only [lexL]
  generalize skip i0 r0 = z at hsk
  obtain ⟨i, r⟩ := z
  cases r with
  | nil => simp only; split <;> exact ⟨_, rfl⟩
  | cons c t =>
   simp only [List.length_cons] at hsk
   obtain ⟨hl, hc⟩ := hsk
   obtain ⟨h32, h9⟩ := hc c t rfl
   have hw2 : ∀ (k : Tok), ∀ x, x ∈ waits → x.1 < (toks ++ [k]).length := fun k x hx => by have := hw x hx; simp; omega
   simp only
   split
   ·split
    ·rename_i hq
     obtain ⟨x, hx⟩ := docs_some f waits (toks ++ [⟨2, [], [], false, i⟩]) (i + 1) t (by omega) (hw2 _)
     rw [hx] at hq; cases hq
    ·exact ⟨_, rfl⟩
    ·rename_i toks' i' r' hd
     obtain ⟨_, _, h3⟩ := docs_len f (r0.length + (List.foldr (fun (t : Tok) n => t.text.length + n) 0 (toks ++ [⟨2, [], [], false, i⟩]))) _ _ _ _ _ _ _ hd (by omega) (fun x hx => by
      have : ∀ (l : List Tok), x ∈ l → x.text.length ≤ List.foldr (fun (t : Tok) n => t.text.length + n) 0 l := by
       intro l
       induction l with
       | nil => intro h; cases h
       | cons y l ih2 =>
        intro h
        simp only [List.foldr_cons]
        rcases List.mem_cons.1 h with e | e
        ·subst e; omega
        ·have := ih2 e; omega
      have := this _ hx
      omega)
     exact ih _ _ _ _ (by omega) (fun x hx => by cases hx)
   ·rename_i g10
    have g10 : (c == 10) = false := by simpa using g10
    split
    ·have := row_pos (t := t) g10
     exact ih _ _ _ _ (by simp only [List.length_drop, List.length_cons]; omega) hw
    ·split
     ·rename_i m hm
      have := marks_pos hm
      exact ih _ _ _ _ (by simp only [List.length_drop, List.length_cons]; omega) (hw2 _)
     ·rename_i hm
      split
      ·exact ⟨_, rfl⟩
      ·rename_i g38
       have g38 : (c == 38) = false := by simpa using g38
       have he := marks_none hm h32 h9 g10 g38
       split
       ·rename_i hq
        obtain ⟨x, hx⟩ := (parts_some f).1 0 0 [] [] i (c :: t) (by simp; omega)
        rw [hx] at hq; cases hq
       ·exact ⟨_, rfl⟩
       ·rename_i ps i' r' hp
        have hgo := parts_go hp he
        simp only [List.length_cons] at hgo
        split
        ·split
         ·exact ⟨_, rfl⟩
         ·refine ih _ _ _ _ (by omega) (fun x hx => ?_)
          rcases List.mem_append.1 hx with e | e
          ·have := hw x e; simp; omega
          ·simp at e; subst e; simp
        ·exact ih _ _ _ _ (by omega) (hw2 _)
theorem lex_some (s : Bs) : ∃ x, lex 4003 s = some x := by
 unfold lex
 split
 ·exact ⟨_, rfl⟩
 ·exact lexL_some 4003 [] [] 0 s (by omega) (fun x hx => by cases hx)
end Go.Proofs.YteekjekckgpbfaaDoor.Sp
end
section
namespace Go.Proofs.YteekjekckgpbfaaDoor.Sp
theorem docs_wt (f M : Nat) : ∀ (ws : List (Nat × Bs)) (toks : List Tok) (i : Nat) (r : Bs) (toks' : List Tok) (j : Nat) (r' : Bs), docs f ws toks i r = some (.ok (toks', j, r')) → r.length ≤ M → (∀ t, t ∈ toks → wtL t.parts ≤ M) → toks'.length = toks.length ∧ (∀ t, t ∈ toks' → wtL t.parts ≤ M) ∧ r'.length ≤ r.length := by
 intro ws
 induction ws with
 | nil =>
  intro toks i r toks' j r' h hr ht
  simp only [docs] at h
  injection h with h; injection h with h; injection h with h1 h; injection h with h2 h3
  subst h1; subst h3
  exact ⟨rfl, ht, Nat.le_refl _⟩
 | cons w ws ih =>
  intro toks i r toks' j r' h hr ht
  obtain ⟨k, last⟩ := w
  simp only [docs] at h
  split at h
  ·cases h
  ·injection h with h; cases h
  ·rename_i text i1 r1 hd
   have h1 := docRows_len last _ _ _ _ _ _ _ hd
   simp at h1
   split at h
   ·cases h
   ·rename_i t hk
    have hset : ∀ (x : Tok), wtL x.parts ≤ M → ∀ y, y ∈ toks.set k x → wtL y.parts ≤ M := by
     intro x hx y hy
     rcases List.mem_or_eq_of_mem_set hy with h | h
     ·exact ht y h
     ·rw [h]; exact hx
    split at h
    ·obtain ⟨a, b, c⟩ := ih _ _ _ _ _ _ h (by omega) (hset _ (ht t (List.mem_of_getElem? hk)))
     exact ⟨by simpa using a, b, by omega⟩
    ·split at h
     ·cases h
     ·injection h with h; cases h
     ·rename_i ps _ _ hp
      have h2 := ((parts_wt f).1 _ _ _ _ _ _ _ _ _ hp).1
      simp [wtL] at h2
      obtain ⟨a, b, c⟩ := ih _ _ _ _ _ _ h (by omega) (hset _ (by simp only; omega))
      exact ⟨by simpa using a, b, by omega⟩
theorem lexL_wt (M : Nat) : ∀ (f : Nat) (toks : List Tok) (waits : List (Nat × Bs)) (i : Nat) (r : Bs) (toks' : List Tok), lexL f toks waits i r = some (.ok toks') → r.length ≤ M → (∀ t, t ∈ toks → wtL t.parts ≤ M) → toks'.length ≤ toks.length + 2 * f ∧ ∀ t, t ∈ toks' → wtL t.parts ≤ M := by
 intro f
 induction f with
 | zero => intro toks waits i r toks' h; simp [lexL] at h
 | succ f ih =>
  intro toks waits i0 r0 toks' h hr ht
  have hsk := (skip_len _ i0 r0 (Nat.le_refl _)).1
  simp only [lexL] at h
  generalize skip i0 r0 = z at hsk h
  obtain ⟨i, r⟩ := z
  cases r with
  | nil =>
   simp only at h
   split at h
   ·injection h with h; injection h with h; subst h
    exact ⟨by omega, ht⟩
   ·injection h with h; cases h
  | cons c t =>
   simp only [List.length_cons] at hsk
   have hadd : ∀ (k : Tok), wtL k.parts ≤ M → ∀ x, x ∈ toks ++ [k] → wtL x.parts ≤ M := fun k hk x hx => by
    rcases List.mem_append.1 hx with e | e
    ·exact ht x e
    ·simp at e; subst e; exact hk
   simp only at h
   split at h
   ·split at h
    ·cases h
    ·injection h with h; cases h
    ·rename_i toks1 i' r' hd
     obtain ⟨a, b, c⟩ := docs_wt f M _ _ _ _ _ _ _ hd (by omega) (hadd _ (by simp [wtL]))
     have := ih _ _ _ _ _ h (by omega) b
     simp at a
     exact ⟨by omega, this.2⟩
   ·split at h
    ·have := ih _ _ _ _ _ h (by simp only [List.length_drop, List.length_cons]; omega) ht
     exact ⟨by omega, this.2⟩
    ·split at h
     ·rename_i m hm
      have := ih _ _ _ _ _ h (by simp only [List.length_drop, List.length_cons]; omega) (hadd _ (by simp [wtL]))
      simp at this
      exact ⟨by omega, this.2⟩
     ·split at h
      ·injection h with h; cases h
      ·split at h
       ·cases h
       ·injection h with h; cases h
       ·rename_i ps i' r' hp
        have h2 := (parts_wt f).1 _ _ _ _ _ _ _ _ _ hp
        simp [wtL] at h2
        split at h
        ·split at h
         ·injection h with h; cases h
         ·rename_i e q _
          have hb : ∀ x, x ∈ toks ++ [⟨0, [], ps, false, i⟩, ⟨3, [], [], q, i⟩] → wtL x.parts ≤ M := fun x hx => by
           rcases List.mem_append.1 hx with e | e
           ·exact ht x e
           ·simp at e
            rcases e with e | e
            ·subst e; simp only; omega
            ·subst e; simp [wtL]
          have := ih _ _ _ _ _ h (by omega) hb
          simp at this
          exact ⟨by omega, by simpa using this.2⟩
        ·have := ih _ _ _ _ _ h (by omega) (hadd _ (by simp only; omega))
         simp at this
         exact ⟨by omega, by simpa using this.2⟩
theorem lex_wt {f : Nat} {s : Bs} {toks : List Tok} (h : lex f s = some (.ok toks)) : toks.length ≤ 2 * f ∧ ∀ t, t ∈ toks → wtL t.parts ≤ 4000 := by
 unfold lex at h
 split at h
 ·injection h with h; cases h
 ·rename_i g
  have := lexL_wt 4000 _ _ _ _ _ _ h (by omega) (fun t ht => by cases ht)
  simp at this
  exact ⟨by omega, this.2⟩
end Go.Proofs.YteekjekckgpbfaaDoor.Sp
end
section
namespace Go.Proofs.YteekjekckgpbfaaDoor.Abs
open Sp
attribute [local congr] bindO_congr bindR_congr condV_congr wp_congr
theorem RepTk.keep {h h' : Heap} {A : Nat → Prop} {v : Value} {ts : List Tok} (k : RepTk h A v ts) (u : Un h.next h h') : RepTk h' A v ts := by
 have st : ∀ b y, h.blk b = some y → h'.blk b = some y := fun b y e => (u.2 _ (Heap.blk_lt e)).trans e
 rcases k with e | ⟨b, cs, n, e1, e2, e3, e4, e5, e6⟩
 ·exact .inl e
 ·exact .inr ⟨b, cs, n, e1, e2, e3, e4, st _ _ e5, e6.mono fun b y a e => ⟨a, st b y e⟩⟩
theorem cuts_run (s : List UInt8) (h : Heap) : wp (cF 100101 3 [.string (mkS s)] h) (fun r _ => r = .ret (.bool true)) := by
 obtain ⟨n, hn⟩ : ∃ n, n = 100000 := ⟨_, rfl⟩
 have hN : 100101 = n + 100 + 1 := by omega
 rw [hN]
 have hmin := min2 s.length 4100
 have ec : ((4100 : Nat) : Int) = 4100 := rfl
 rw [ec] at hmin
 have hsl := sl9_hi s (min s.length 4100) h (by omega)
 have htl : (s.take (min s.length 4100)).length < 4611686018427387904 := by simp; omega
 obtain ⟨res, hres⟩ := lex_some (s.take (min s.length 4100))
 have hlex := lex_ok (n := n + 100) (h := h) hres (by omega) (by omega) htl
 rw [c3]
 simp -implicitDefEqProofs only [f3, hmin, hsl, SS, SU, Nat.reduceAdd, Nat.reduceLeDiff, Nat.reduceBEq, Nat.reduceMul]
 generalize s.take (min s.length 4100) = l at *
 refine wp_bindR hlex ?_ ?_
 ·intro v h1 q
  obtain ⟨u1, q⟩ := q
  have hr := rlex_ok (n := n + 100) (h := h1) hres (by omega) (by omega) htl
  clear hmin ec hlex
  cases res with
  | ok toks =>
   obtain ⟨v1, e, hv⟩ := q
   have e := Res.ret.inj e
   subst e
   simp -implicitDefEqProofs only [SS, SU, Nat.reduceAdd, Nat.reduceLeDiff, Nat.reduceBEq, Nat.reduceMul]
   refine wp_bindR hr ?_ ?_
   ·intro v h2 q
    obtain ⟨u2, v2, e, hv2⟩ := q
    have e := Res.ret.inj e
    subst e
    have a1 : ∀ (cs : List Value), (h2.alloc (.cells ⟨29, cs, true⟩)).blk h2.next = some ⟨29, cs, true⟩ := fun cs => blk_alloc_eq
    have u3 := un_alloc h2 (.cells ⟨29, [.int .i64 0, .int .i64 0], true⟩)
    have u4 := un_alloc (h2.alloc (.cells ⟨29, [.int .i64 0, .int .i64 0], true⟩)) (.cells ⟨29, [.int .i64 0, .int .i64 0], true⟩)
    have k1 := ((hv.keep u2).keep u3).keep u4
    have k2 := (hv2.keep u3).keep u4
    have ht := told_nil (n + 97) (h2.alloc (.cells ⟨29, [.int .i64 0, .int .i64 0], true⟩))
    obtain ⟨w1, w2⟩ := lex_wt hres
    have hs := same_ok (n := n + 100) (by omega) k1 k2 (fun x hx => by have := w2 x hx; omega) (by omega)
    clear w1 w2 hres hn hN htl
    simp -implicitDefEqProofs only [a1, alloc_set, ht, hs, m12, SS, SU, Nat.reduceAdd, Nat.reduceLeDiff, Nat.reduceBEq, Nat.reduceMul]
    exact wp_some.2 rfl
   ·intro v h2 q
    obtain ⟨_, _, e, _⟩ := q; cases e
  | bad c a =>
   obtain ⟨b, e, hb0, hb⟩ := q
   have e := Res.ret.inj e
   subst e
   simp -implicitDefEqProofs only [SS, SU, Nat.reduceAdd, Nat.reduceLeDiff, Nat.reduceBEq, Nat.reduceMul]
   refine wp_bindR hr ?_ ?_
   ·intro v h2 q
    obtain ⟨u2, e, hc⟩ := q
    have e := Res.ret.inj e
    subst e
    have a1 : ∀ (cs : List Value), (h2.alloc (.cells ⟨29, cs, true⟩)).blk h2.next = some ⟨29, cs, true⟩ := fun cs => blk_alloc_eq
    have u3 := un_alloc h2 (.cells ⟨29, [.int .i64 (c : Int), .int .i64 (a : Int)], true⟩)
    have st : ∀ b y, h1.blk b = some y → (h2.alloc (.cells ⟨29, [.int .i64 (c : Int), .int .i64 (a : Int)], true⟩)).blk b = some y := fun b y e => by
     have e2 := (u2.2 _ (Heap.blk_lt e)).trans e
     exact (u3.2 _ (Heap.blk_lt e2)).trans e2
    have ht := told_is (n + 97) (st _ _ hb) hc
    have hs := fun h3 => same_ok (n := n + 100) (h := h3) (A := fun _ => True) (B := fun _ => True) (ts := []) (by simp) (.inl ⟨rfl, rfl⟩) (.inl ⟨rfl, rfl⟩) (fun x hx => by cases hx) (by omega)
    clear hres hn hN htl
    simp -implicitDefEqProofs only [atV, a1, alloc_set, SS, SU, Nat.reduceAdd, Nat.reduceLeDiff, Nat.reduceBEq, Nat.reduceMul]
    refine wp_bindR ht ?_ ?_
    ·intro v h3 q
     obtain ⟨e, u4⟩ := q
     have e := Res.ret.inj e
     subst e
     have hs := hs h3
     simp -implicitDefEqProofs only [hs, m12, SS, SU, Nat.reduceAdd, Nat.reduceLeDiff, Nat.reduceBEq, Nat.reduceMul]
     exact wp_some.2 rfl
    ·intro v h3 q
     obtain ⟨e, _⟩ := q; cases e
   ·intro v h2 q
    obtain ⟨_, e, _⟩ := q; cases e
 ·intro v h1 q
  obtain ⟨_, q⟩ := q
  cases res with
  | ok toks => obtain ⟨_, e, _⟩ := q; cases e
  | bad c a => obtain ⟨_, e, _⟩ := q; cases e
end Go.Proofs.YteekjekckgpbfaaDoor.Abs
end
