/- A part of the proof: the abstract machine, the printed functions, what they compute. -/
import Derived.Test.YteekjekckgpbfaaDoorM4
import Derived.Test.YteekjekckgpbfaaDoorM3
import Derived.SliceStrings
set_option linter.unusedVariables false
set_option linter.unusedSimpArgs false
set_option linter.defProp false
set_option linter.unnecessarySimpa false
section
namespace Go.Proofs.YteekjekckgpbfaaDoor.Abs
open Sp
attribute [local congr] bindO_congr bindR_congr condV_congr wp_congr
theorem one_len {ts : List Bs} (h : ∀ t ∈ ts, t.length ≤ 100) : (ts.flatMap oneOf1).length ≤ 103 * ts.length := by
 induction ts with
 | nil => simp
 | cons t ts ih =>
  have h1 := h t (by simp)
  have h2 := ih fun u hu => h u (by simp [hu])
  rw [List.flatMap_cons, List.length_append]
  have : (oneOf1 t).length = t.length + 3 := by simp [oneOf1]
  simp only [List.length_cons]; omega
theorem two_len {ts : List Bs} (h : ∀ t ∈ ts, t.length ≤ 100) : (ts.flatMap twoOf1).length ≤ 203 * ts.length := by
 induction ts with
 | nil => simp
 | cons t ts ih =>
  have h1 := h t (by simp)
  have h2 := ih fun u hu => h u (by simp [hu])
  rw [List.flatMap_cons, List.length_append]
  have h3 := escT_len t
  have : (twoOf1 t).length = (escT t).length + 3 := by simp [twoOf1]
  simp only [List.length_cons]; omega
theorem quotes_end {ts : List Bs} {h : Heap} {vw : Value} {n : Nat} (hts : ∀ t ∈ ts, t.contains 39 = false ∧ t.length ≤ 100) (hl : ts.length ≤ 20) (kw : RepO h vw ts) (hn : 90003 ≤ n) :
  wp (p6_9 (cF n) n (.string (mkS (ts.flatMap oneOf1))) (.string (mkS (ts.flatMap twoOf1))) vw h) (fun r _ => r = .ret (.bool true)) := by
 have ho := one_len fun t ht => (hts t ht).2
 have ht := two_len fun t ht => (hts t ht).2
 obtain ⟨x, hx1, hx2⟩ := lex_singles hts hl (by omega)
 have lex1 := lex_ok (n := n) (h := h) hx1 (by omega) (by omega) (by omega)
 have hd : ∃ r, lex 400 (ts.flatMap twoOf1) = some r ∧ ((decide (4000 < (ts.flatMap twoOf1).length) = true ∧ ∃ c a, r = .bad c a) ∨ (decide (4000 < (ts.flatMap twoOf1).length) = false ∧ ∃ y, r = .ok y ∧ Words true y ts)) := by
  rcases b2 (decide (4000 < (ts.flatMap twoOf1).length)) with g | g
  ·refine ⟨.bad 3 4000, ?_, .inl ⟨g, _, _, rfl⟩⟩
   unfold lex
   rw [if_pos (of_decide_eq_true g)]
  ·have := of_decide_eq_false g
   obtain ⟨y, hy1, hy2⟩ := lex_doubles (fun t ht => (hts t ht).2) hl (by omega)
   exact ⟨_, hy1, .inr ⟨g, y, rfl, hy2⟩⟩
 obtain ⟨r2, hr2, hd⟩ := hd
 have lex2 := fun h => lex_ok (n := n) (h := h) hr2 (by omega) (by omega) (by omega)
 have e1 : decide ((4000 : Int) < ((ts.flatMap oneOf1).length : Int)) = decide (4000 < (ts.flatMap oneOf1).length) := n_lt 4000 _
 have e2 : decide ((4000 : Int) < ((ts.flatMap twoOf1).length : Int)) = decide (4000 < (ts.flatMap twoOf1).length) := n_lt 4000 _
 have e3 : decide (4000 < (ts.flatMap oneOf1).length) = false := decide_eq_false (by omega)
 have lw := kw.v.1
 simp -implicitDefEqProofs only [p6_9, SS, SU, Nat.reduceAdd, Nat.reduceLeDiff, Nat.reduceBEq, Nat.reduceMul]
 refine wp_bindR lex1 ?_ ?_
 ·intro v h1 q
  obtain ⟨u1, vx, e, kx⟩ := q
  have e := Res.ret.inj e
  subst e
  simp -implicitDefEqProofs only [SS, SU, Nat.reduceAdd, Nat.reduceLeDiff, Nat.reduceBEq, Nat.reduceMul]
  refine wp_bindR (lex2 h1) ?_ ?_
  ·intro v h2 q
   obtain ⟨u2, q⟩ := q
   rcases hd with ⟨g, c, a, rfl⟩ | ⟨g, y, rfl, hy⟩
   ·obtain ⟨b, e, _, _⟩ := q
    have e := Res.ret.inj e
    subst e
    clear lex1 lex2 hx1 hr2 hts ho ht hn
    simp -implicitDefEqProofs only [e1, e2, e3, g, p6_14, SS, SU, Nat.reduceAdd, Nat.reduceLeDiff, Nat.reduceBEq, Nat.reduceMul]
    exact wp_some.2 rfl
   ·obtain ⟨vy, e, ky⟩ := q
    have e := Res.ret.inj e
    subst e
    have kx2 := (kx.keep' u2).v
    have lx := kx2.1
    have ly := ky.v.1
    have hxl := (words_get hx2).1
    have hyl := (words_get hy).1
    have f1 : ((x.length : Int) != (ts.length : Int)) = false := by rw [hxl]; simp
    have f2 : ((y.length : Int) != (ts.length : Int)) = false := by rw [hyl]; simp
    have hloop := quotes_loop (n := n) (N := n) hx2 hy kx2 ky.v ((kw.v.keep u1).keep u2) hl n 0 (by omega) (by omega)
    have e0 : ((0 : Nat) : Int) = 0 := rfl
    rw [e0] at hloop
    clear lex1 lex2 hx1 hr2 hts ho ht hn
    simp -implicitDefEqProofs only [e1, e2, e3, g, p6_14, oneq_nil, lx, ly, lw, f1, f2, p6_19, p6_25, hloop, SS, SU, Nat.reduceAdd, Nat.reduceLeDiff, Nat.reduceBEq, Nat.reduceMul]
    exact wp_some.2 rfl
  ·intro v h2 q
   obtain ⟨_, q⟩ := q
   rcases hd with ⟨g, c, a, rfl⟩ | ⟨g, y, rfl, hy⟩
   ·obtain ⟨_, e, _⟩ := q; cases e
   ·obtain ⟨_, e, _⟩ := q; cases e
 ·intro v h1 q
  obtain ⟨_, _, e, _⟩ := q; cases e
def RepI (h : Heap) (v : Value) (l : List Bs) : Prop :=
 lenA E 40 v = some (.int .i64 (l.length : Int)) ∧ (l ≠ [] → ∃ b off c k, v = .slice (some ⟨b, off, none⟩) l.length c ∧ h.blk b = some k ∧ k.own = false ∧ ∀ j t, l[j]? = some t → k.cells[off + j * 1]? = some (.string (mkS t)))
theorem take1 (a : Value) : ([a].drop 0).take (1 * 1) = [a] := rfl
theorem text_app {l ts : List Bs} {h : Heap} {v vw : Value} {t : Bs} (kv : RepI h v l) (kw : RepO h vw ts) (hl : ts.length ≤ 20) :
  ∃ vw' h', appendA E 40 vw (.slice (some ⟨h.next, 0, none⟩) 1 1) (h.alloc (.cells ⟨9, [.string (mkS t)], true⟩)) = some (vw', h') ∧ RepO h' vw' (ts ++ [t]) ∧ RepI h' v l := by
 have bA : (h.alloc (.cells ⟨9, [.string (mkS t)], true⟩)).blk h.next = some ⟨9, [.string (mkS t)], true⟩ := blk_alloc_eq
 have st : ∀ b, b < h.next → (h.alloc (.cells ⟨9, [.string (mkS t)], true⟩)).blk b = h.blk b := fun b hb => blk_alloc_lt hb
 have nA : (h.alloc (.cells ⟨9, [.string (mkS t)], true⟩)).next = h.next + 1 := rfl
 rcases kw with ⟨rfl, rfl⟩ | ⟨w, rfl, h0, hw⟩
 ·refine ⟨_, _, ap40_nil h.next 0 1 1 _ _ bA (by omega) (Nat.le_refl _) rfl (by decide), ?_, ?_⟩
  ·rw [take1]
   exact .inr ⟨_, rfl, by simp, blk_alloc_eq⟩
  ·refine ⟨kv.1, fun hne => ?_⟩
   obtain ⟨b, off, c, k, e1, e2, e3, e4⟩ := kv.2 hne
   have hb := Heap.blk_lt e2
   exact ⟨b, off, c, k, e1, (blk_alloc_lt (by omega)).trans ((st b hb).trans e2), e3, e4⟩
 ·have hwn := Heap.blk_lt hw
  refine ⟨_, _, ap40_some w ts.length ts.length h.next 0 1 1 _ _ _ ((st w hwn).trans hw) (by simp) bA (by omega) (Nat.le_refl _) rfl (by simp only [most]; omega), ?_, ?_⟩
  ·rw [take1]
   refine .inr ⟨(h.alloc (.cells ⟨9, [.string (mkS t)], true⟩)).next, by simp, by simp, ?_⟩
   have e : (ts ++ [t]).map (fun t => Value.string (mkS t)) = ts.map (fun t => Value.string (mkS t)) ++ [.string (mkS t)] := by simp
   rw [e]
   exact blk_alloc_eq' (h := (h.alloc (.cells ⟨9, [.string (mkS t)], true⟩)).kill w) rfl
  ·refine ⟨kv.1, fun hne => ?_⟩
   obtain ⟨b, off, c, k, e1, e2, e3, e4⟩ := kv.2 hne
   have hb := Heap.blk_lt e2
   have hbw : b ≠ w := by
    intro hbw
    subst hbw
    rw [hw] at e2
    injection e2 with e2
    subst e2
    cases e3
   exact ⟨b, off, c, k, e1, (blk_alloc_lt (by rw [next_kill, nA]; omega)).trans ((blk_kill_ne hbw).trans ((st b hb).trans e2)), e3, e4⟩
def cleanT (t : Bs) : Bs := putFor 39 [] (t.take (min t.length 100))
theorem cleanT_ok (t : Bs) : (cleanT t).contains 39 = false ∧ (cleanT t).length ≤ 100 := by
 refine ⟨putFor_none _, ?_⟩
 have := putFor_len 39 (t.take (min t.length 100))
 unfold cleanT
 simp at this ⊢
 omega
theorem quotes_build {l : List Bs} {v : Value} {n : Nat} (hn : 90003 ≤ n) : ∀ (m i : Nat) (h : Heap) (ts : List Bs) (vw : Value), RepI h v l → i ≤ 20 → 20 - i < m → ts = (l.take i).map cleanT → ts.length = i → RepO h vw ts →
  wp (l6_44 (cF n) n m v (.string (mkS (ts.flatMap oneOf1))) (.string (mkS (ts.flatMap twoOf1))) vw (.int .i64 (i : Int)) h) (fun r _ => r = .ret (.bool true)) := by
 intro m
 induction m with
 | zero => intro i h ts vw _ _ h0; omega
 | succ m ih =>
  intro i h ts vw kv hi hm hts hlen kw
  have hok : ∀ t ∈ ts, t.contains 39 = false ∧ t.length ≤ 100 := by
   intro t ht
   rw [hts] at ht
   obtain ⟨u, _, rfl⟩ := List.mem_map.1 ht
   exact cleanT_ok u
  have hend := fun hl => quotes_end (n := n) hok hl kw hn
  have lv := kv.1
  have i20 : decide ((i : Int) < 20) = decide (i < 20) := n_lt i 20
  rcases b2 (decide (i < l.length)) with g1 | g1
  ·rcases b2 (decide (i < 20)) with g2 | g2
   ·have h1 := of_decide_eq_true g1
    have h2 := of_decide_eq_true g2
    have hg : l[i]? = some l[i] := by simp [h1]
    have htk : (l.take (i + 1)).map cleanT = ts ++ [cleanT l[i]] := by rw [List.take_add_one, hg, List.map_append, ← hts]; rfl
    have hne : l ≠ [] := by intro e; subst e; simp at h1
    obtain ⟨b, off, c, k, rfl, hb, hown, hc⟩ := kv.2 hne
    have hcell := hc _ _ hg
    generalize l[i] = t at hg htk hcell
    have hm1 := min2' t.length 100
    have ec : ((100 : Nat) : Int) = 100 := rfl
    rw [ec] at hm1
    have hs1 := sl9_hi t (min t.length 100) h (by omega)
    have htl : (t.take (min t.length 100)).length ≤ 100 := by simp; omega
    have hr1 := repl_eq (n - 1) (t.take (min t.length 100)) [] 39 h (by omega) (by simp)
    rw [show n - 1 + 1 = n by omega] at hr1
    have hcl : putFor 39 [] (t.take (min t.length 100)) = cleanT t := rfl
    rw [hcl] at hr1
    obtain ⟨_, hct⟩ := cleanT_ok t
    have hoklen := fun t ht => (hok t ht).2
    have ho := one_len hoklen
    have ht2 := two_len hoklen
    have pl : ∀ (c : UInt8) (u : Bs), (putFor c [92, c] u).length ≤ 2 * u.length := by
     intro c u
     unfold putFor
     induction u with
     | nil => simp
     | cons d u ihu =>
      rw [List.flatMap_cons, List.length_append]
      have : (if d == c then [92, c] else [d] : Bs).length ≤ 2 := by split <;> simp
      simp only [List.length_cons]; omega
    have l1 := pl 92 (cleanT t)
    have l2 := pl 34 (putFor 92 [92, 92] (cleanT t))
    have l3 := pl 36 (putFor 34 [92, 34] (putFor 92 [92, 92] (cleanT t)))
    have r1 := repl_eq (n - 1) (cleanT t) [92, 92] 92 h (by omega) (by simp)
    have r2 := repl_eq (n - 1) (putFor 92 [92, 92] (cleanT t)) [92, 34] 34 h (by omega) (by simp)
    have r3 := repl_eq (n - 1) (putFor 34 [92, 34] (putFor 92 [92, 92] (cleanT t))) [92, 36] 36 h (by omega) (by simp)
    have r4 := repl_eq (n - 1) (putFor 36 [92, 36] (putFor 34 [92, 34] (putFor 92 [92, 92] (cleanT t)))) [92, 96] 96 h (by omega) (by simp)
    rw [esc_all] at r4
    rw [show n - 1 + 1 = n by omega] at r1 r2 r3 r4
    have he := escT_len (cleanT t)
    have oneE : (ts ++ [cleanT t]).flatMap oneOf1 = ts.flatMap oneOf1 ++ [39] ++ cleanT t ++ [39, 32] := by simp [oneOf1]
    have twoE : (ts ++ [cleanT t]).flatMap twoOf1 = ts.flatMap twoOf1 ++ [34] ++ escT (cleanT t) ++ [34, 9] := by simp [twoOf1]
    have a1 : binA E 9 .add (.string (mkS (ts.flatMap oneOf1))) (.string (mkS [39])) = some (.string (mkS (ts.flatMap oneOf1 ++ [39]))) := bin_sadd E 9 _ _ (by simp only [most, List.length_cons, List.length_nil]; omega)
    have a2 : binA E 9 .add (.string (mkS (ts.flatMap oneOf1 ++ [39]))) (.string (mkS (cleanT t))) = some (.string (mkS (ts.flatMap oneOf1 ++ [39] ++ cleanT t))) := bin_sadd E 9 _ _ (by simp only [most, List.length_append, List.length_cons, List.length_nil]; omega)
    have a3 : binA E 9 .add (.string (mkS (ts.flatMap oneOf1 ++ [39] ++ cleanT t))) (.string (mkS [39, 32])) = some (.string (mkS ((ts ++ [cleanT t]).flatMap oneOf1))) := by
     rw [oneE]
     exact bin_sadd E 9 _ _ (by simp only [most, List.length_append, List.length_cons, List.length_nil]; omega)
    have a4 : binA E 9 .add (.string (mkS (ts.flatMap twoOf1))) (.string (mkS [34])) = some (.string (mkS (ts.flatMap twoOf1 ++ [34]))) := bin_sadd E 9 _ _ (by simp only [most, List.length_cons, List.length_nil]; omega)
    have a5 : binA E 9 .add (.string (mkS (ts.flatMap twoOf1 ++ [34]))) (.string (mkS (escT (cleanT t)))) = some (.string (mkS (ts.flatMap twoOf1 ++ [34] ++ escT (cleanT t)))) := bin_sadd E 9 _ _ (by simp only [most, List.length_append, List.length_cons, List.length_nil]; omega)
    have a6 : binA E 9 .add (.string (mkS (ts.flatMap twoOf1 ++ [34] ++ escT (cleanT t)))) (.string (mkS [34, 9])) = some (.string (mkS ((ts ++ [cleanT t]).flatMap twoOf1))) := by
     rw [twoE]
     exact bin_sadd E 9 _ _ (by simp only [most, List.length_append, List.length_cons, List.length_nil]; omega)
    have c1 := fun h0 => bs40_1 (.string (mkS (cleanT t))) h0 rfl
    have bA : (h.alloc (.cells ⟨9, [.string (mkS (cleanT t))], true⟩)).blk h.next = some ⟨9, [.string (mkS (cleanT t))], true⟩ := blk_alloc_eq
    have uA := un_alloc' h (.cells ⟨9, [.string (mkS (cleanT t))], true⟩)
    have nA : (h.alloc (.cells ⟨9, [.string (mkS (cleanT t))], true⟩)).next = h.next + 1 := rfl
    have hb1 : i + 1 < 9223372036854775808 := by omega
    have vcs : vcells (.string (mkS (cleanT t))) = [.string (mkS (cleanT t))] := rfl
    have happ : ∃ vw' h', appendA E 40 vw (.slice (some ⟨h.next, 0, none⟩) 1 1) (h.alloc (.cells ⟨9, [.string (mkS (cleanT t))], true⟩)) = some (vw', h') ∧ RepO h' vw' (ts ++ [cleanT t]) ∧ RepI h' (.slice (some ⟨b, off, none⟩) l.length c) l := text_app kv kw (by omega)
    obtain ⟨vw', h', e1, e2, e3⟩ := happ
    have hrec := ih (i + 1) h' (ts ++ [cleanT t]) vw' e3 (by omega) (by omega) htk.symm (by simp; omega) e2
    clear ih hend kw kv hc hts hok hoklen ho ht2 pl l1 l2 l3 he htk hm hn e2 e3
    rw [l6_44]
    simp -implicitDefEqProofs only [p6_45, lv, g1, i20, g2, ia40 b off l.length c i h1, hb, hcell, hm1, hs1, hr1, p6_52, a1, a2, a3, r1, r2, r3, r4, a4, a5, a6, c1, vcs, e1, p6_49, wrap_nat (i + 1) hb1, SS, SU, Nat.reduceAdd, Nat.reduceLeDiff, Nat.reduceBEq, Nat.reduceMul]
    exact hrec
   ·have h2 := of_decide_eq_false g2
    have he := hend (by omega)
    clear ih hend kw kv hts hok hm hn
    rw [l6_44]
    simp -implicitDefEqProofs only [p6_45, lv, g1, i20, g2, SS, SU, Nat.reduceAdd, Nat.reduceLeDiff, Nat.reduceBEq, Nat.reduceMul]
    exact he
  ·have he := hend (by omega)
   clear ih hend kw kv hts hok hm hn
   rw [l6_44]
   simp -implicitDefEqProofs only [p6_45, lv, g1, SS, SU, Nat.reduceAdd, Nat.reduceLeDiff, Nat.reduceBEq, Nat.reduceMul]
   exact he
theorem quotes_run {l : List Bs} {v : Value} {h : Heap} (kv : RepI h v l) : wp (cF 100101 6 [v] h) (fun r _ => r = .ret (.bool true)) := by
 obtain ⟨n, hn⟩ : ∃ n, n = 100100 := ⟨_, rfl⟩
 have hN : 100101 = n + 1 := by omega
 rw [hN, c6]
 have hb := quotes_build (n := n) (by omega) n 0 h [] (.slice none 0 0) kv (by omega) (by omega) rfl rfl (.inl ⟨rfl, rfl⟩)
 have e0 : ((0 : Nat) : Int) = 0 := rfl
 rw [e0] at hb
 have hw : cF n 12 [] h = some (.ret (.bool true), h) := by
  obtain ⟨k, rfl⟩ : ∃ k, n = k + 1 := ⟨n - 1, by omega⟩
  exact m12 k h
 clear hn hN kv
 simp -implicitDefEqProofs only [f6, p6_0, hw, p6_43, SS, SU, Nat.reduceAdd, Nat.reduceLeDiff, Nat.reduceBEq, Nat.reduceMul]
 exact hb
end Go.Proofs.YteekjekckgpbfaaDoor.Abs
end
section
namespace Go.Proofs.YteekjekckgpbfaaDoor.Abs
open Go.ChangeShapes Go.WideShapes
theorem cells_str : Tryd.prog.cellsOf 9 = 1 := by kernel_rfl
set_option maxRecDepth 100000 in
theorem strs_in {H : Type} {enc : TypeId × Value → H} {W : World} {base : Nat} {v : Value} {d : DataW H} {p : List MemPlace} (hW : Tryd.prog.globals.size ≤ W.heap.size) (hval : Value.okWide Tryd.prog W .any base 40 v)
  (hd : DataW.Trod enc Tryd.prog W 0 (fun _ => true) true 40 v d p) : ∃ (l : List (List UInt8)) (σ : Sg) (h : Heap) (av : Value), HR Tryd.prog W.heap.size W σ h W ∧ VR Tryd.prog σ av v ∧ RepI h av l := by
 obtain ⟨a0, len, cap, rfl⟩ := okWide_slice Tryd.underlying40 hval
 obtain ⟨fuel, hf⟩ := hd
 rcases open_strings Tryd.underlying40 Tryd.underlying9 cells_str hf with ⟨hcs, _⟩ | ⟨a, len', cap', ss, hcs, _, hl, hm, hz, _, hcell, _⟩
 ·simp [Value.cells] at hcs
  obtain ⟨rfl, rfl, rfl⟩ := hcs
  exact ⟨[], σ0 _, h0 _, .slice none 0 0, HR_start hW, .nilSlice, rfl, fun h => (h rfl).elim⟩
 ·simp [Value.cells] at hcs
  obtain ⟨rfl, rfl, rfl⟩ := hcs
  simp only [if_true] at hz
  by_cases hlen : len = 0
  ·subst hlen
   exact ⟨[], σ0 _, h0 _, .slice (some ⟨0, 0, some 0⟩) 0 0, HR_start hW, .weak _ _, by rw [ln40]; rfl, fun h => (h rfl).elim⟩
  ·have hcell' : ∀ i, i < ss.length → ∃ cs e fr, W.heap[a.block]? = some (.cells cs e fr) ∧ (a.add i).spot = none ∧ cs[(a.add i).off]? = some (.string (ss.getD i ByteArray.empty)) := by
    intro i hi
    have hc := hcell i hi
    have hb : (a.add i).block = a.block := by unfold Addr.add; split <;> rfl
    unfold World.cell? at hc
    rw [hb] at hc
    split at hc
    ·rename_i c e fr hh
     split at hc
     ·cases hc
     ·rename_i hs
      exact ⟨c, e, fr, hh, by simpa using hs, hc⟩
    ·cases hc
   obtain ⟨cs, e, fr, hb, hsp, _⟩ := hcell' 0 (by omega)
   have hsp : a.spot = none := hsp
   obtain ⟨blk, off, spot⟩ := a
   simp only at hsp hb
   subst hsp
   have hcs : ∀ i, i < ss.length → cs[off + i]? = some (.string (ss.getD i ByteArray.empty)) := by
    intro i hi
    obtain ⟨cs', e', fr', hb', _, hc⟩ := hcell' i hi
    rw [hb] at hb'
    injection hb' with hb'
    injection hb' with h1 h2 h3
    subst h1
    have : ((⟨blk, off, none⟩ : Addr).add i).off = off + i := by unfold Addr.add; split <;> simp [*]
    rw [this] at hc
    exact hc
   have hcl : ((ss.take len).map fun s => Value.string s).length = len := by simp; omega
   have hrow : (cs.toList.drop off).take len = (ss.take len).map fun s => Value.string s := by
    apply List.ext_getElem?
    intro j
    by_cases hj : j < len
    ·rw [List.getElem?_take, if_pos hj, List.getElem?_drop, List.getElem?_map, List.getElem?_take, if_pos hj]
     have h1 := hcs j (by omega)
     have h2 : cs.toList[off + j]? = some (.string (ss.getD j ByteArray.empty)) := by simpa using h1
     rw [h2]
     have hjl : j < ss.length := by omega
     simp [List.getD, List.getElem?_eq_getElem hjl]
    ·rw [List.getElem?_take, if_neg hj, List.getElem?_map, List.getElem?_take, if_neg hj]
     rfl
   have hbl : blk < W.heap.size := (Array.getElem?_eq_some_iff.1 hb).1
   obtain ⟨_, HI⟩ := (HR_start hW).input (s := off) (n := 0 + cap * Tryd.prog.cellsOf e) (cells := (ss.take len).map fun s => Value.string s) hbl hb (by
    rw [hcl, hrow]
    exact VRL.plain (List.all_eq_true.2 fun x hx => by obtain ⟨s, _, rfl⟩ := List.mem_map.1 hx; rfl))
   refine ⟨(ss.take len).map sl, _, _, .slice (some ⟨Tryd.prog.globals.size, 0, none⟩) len cap, HI, VR.slice Tryd.prog.globals.size 0 len cap cap ⟨blk, e, 0 + cap * Tryd.prog.cellsOf e, off⟩ (put_self ..) hl (Nat.le_refl _) rfl hm, ?_, fun _ => ?_⟩
   ·rw [ln40]
    have : ((ss.take len).map sl).length = len := by simp; omega
    rw [this]
   ·have : ((ss.take len).map sl).length = len := by simp; omega
    rw [this]
    refine ⟨_, 0, cap, _, rfl, blk_alloc_eq (h := h0 Tryd.prog.globals.size), rfl, fun j t hj => ?_⟩
    rw [List.getElem?_map] at hj
    show ((ss.take len).map fun s => Value.string s)[0 + j * 1]? = _
    rw [Nat.zero_add, Nat.mul_one, List.getElem?_map]
    cases hs : (ss.take len)[j]? with
    | none => rw [hs] at hj; cases hj
    | some s =>
     rw [hs] at hj
     injection hj with hj
     subst hj
     rfl
end Go.Proofs.YteekjekckgpbfaaDoor.Abs
end
