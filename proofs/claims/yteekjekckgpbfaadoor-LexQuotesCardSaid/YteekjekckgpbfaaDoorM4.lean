/- A part of the proof: the abstract machine, the printed functions, what they compute. -/
import Derived.Test.YteekjekckgpbfaaDoorM3
import Derived.Lib.Replace
import Derived.Lib.SplitLaws
set_option linter.unusedVariables false
set_option linter.unusedSimpArgs false
set_option linter.defProp false
set_option linter.unnecessarySimpa false
section
namespace Go.Proofs.YteekjekckgpbfaaDoor.Sp
def Part.text : Part → Bs | ⟨_, t, _, _, _⟩ => t
def Part.kind : Part → Nat | ⟨k, _, _, _, _⟩ => k
def total : List Part → Nat
 | [] => 0
 | x :: ps => x.text.length + total ps
theorem total_append (a b : List Part) : total (a ++ b) = total a + total b := by
 induction a with
 | nil => simp [total]
 | cons x a ih => simp [total, ih]; omega
theorem total_flush (w : Nat) (out : List Part) (text : Bs) : total (flush w out text) = total out + text.length := by
 unfold flush
 cases text with
 | nil => simp
 | cons c t => simp [total_append, total, Part.text]
theorem bb (b : Bool) : b = true ∨ b = false := by cases b <;> simp
theorem closed_len : ∀ f : Nat, (∀ d r r', closed f d r = some (some r') → r'.length < r.length) ∧ (∀ r r', closedQ f r = some (some r') → r'.length < r.length) := by
 intro f
 induction f with
 | zero => exact ⟨fun d r r' h => by simp [closed] at h, fun r r' h => by simp [closedQ] at h⟩
 | succ f ih =>
  constructor
  ·intro d r r' h
   cases r with
   | nil => simp [closed] at h
   | cons c t =>
    simp only [closed] at h
    split at h
    ·have := ih.1 _ _ _ h; simp at this ⊢; omega
    split at h
    ·split at h
     ·cases h
     ·have := ih.1 _ _ _ h; simp at this ⊢; omega
    split at h
    ·split at h
     ·cases h
     ·cases h
     ·rename_i t' hq
      have := ih.1 _ _ _ h; have h2 := ih.2 _ _ hq; simp at h2 ⊢; omega
    split at h
    ·have := ih.1 _ _ _ h; simp at this ⊢; omega
    split at h
    ·split at h
     ·injection h with h; injection h with h; subst h; simp
     ·have := ih.1 _ _ _ h; simp at this ⊢; omega
    ·have := ih.1 _ _ _ h; simp at this ⊢; omega
  ·intro r r' h
   cases r with
   | nil => simp [closedQ] at h
   | cons c t =>
    simp only [closedQ] at h
    split at h
    ·have := ih.2 _ _ h; simp at this ⊢; omega
    split at h
    ·injection h with h; injection h with h; subst h; simp
    split at h
    ·split at h
     ·cases h
     ·cases h
     ·rename_i t' hq
      have := ih.2 _ _ h; have h2 := ih.1 _ _ _ hq; simp at h2 ⊢; omega
    ·have := ih.2 _ _ h; simp at this ⊢; omega
theorem paramLen_le' (m r : Bs) : paramLen m r ≤ r.length := by
 have hn : ∀ (r : Bs) (n : Nat), nameFrom n r ≤ n + r.length := by
  intro r
  induction r with
  | nil => intro n; simp [nameFrom]
  | cons c r ih => intro n; simp only [nameFrom]; split; have := ih (n + 1); simp; omega; simp
 unfold paramLen
 split
 ·cases r with
  | nil => simp
  | cons c t => simp only []; split <;> simp
 ·have := hn r 0; omega
theorem pre_le {t r : Bs} (h : pre t r = true) : t.length ≤ r.length := by
 have := congrArg List.length (beq_iff_eq.1 h)
 simp at this
 omega
theorem find_lt {c : UInt8} : ∀ {r : Bs} {n : Nat}, find c r = some n → n < r.length := by
 intro r
 induction r with
 | nil => intro n h; cases h
 | cons b r ih =>
  intro n h
  simp only [find] at h
  split at h
  ·injection h with h; subst h; simp
  ·split at h
   ·cases h
   ·rename_i m hm; injection h with h; subst h; have := ih hm; simp; omega
theorem esc_le (w : Nat) (x : UInt8) : (esc w x).length ≤ 2 := by unfold esc; split <;> simp
theorem parts_len : ∀ f : Nat,
  (∀ w d out text i r ps j r', parts f w d out text i r = some (.ok (ps, j, r')) → total ps + r'.length ≤ total out + text.length + r.length ∧ r'.length ≤ r.length) ∧
  (∀ w d i c t x j r', dollar f w d i (c :: t) = some (.ok (x, j, r')) → r'.length < (c :: t).length ∧ ∀ p, x = some p → p.text.length + r'.length ≤ (c :: t).length) ∧
  (∀ w d fr i r p j r', braces f w d fr i r = some (.ok (p, j, r')) → p.text.length + r'.length ≤ r.length) := by
 intro f
 induction f with
 | zero => exact ⟨fun w d out text i r ps j r' h => by simp [parts] at h, fun w d i c t x j r' h => by simp [dollar] at h, fun w d fr i r p j r' h => by simp [braces] at h⟩
 | succ f ih =>
  obtain ⟨ihp, ihd, ihb⟩ := ih
  refine ⟨?_, ?_, ?_⟩
  ·intro w d out text i r ps j r' h
   cases r with
   | nil =>
    simp only [parts] at h
    injection h with h; injection h with h; injection h with h1 h; injection h with h2 h3
    subst h1; subst h3
    simp [total_flush]
   | cons c t =>
    rw [parts_cons] at h
    split at h
    ·injection h with h; injection h with h; injection h with h1 h; injection h with h2 h3
     subst h1; subst h3
     simp [total_flush]
    split at h
    ·have := ihp _ _ _ _ _ _ _ _ _ h; simp at this ⊢; omega
    split at h
    ·split at h
     ·injection h with h; cases h
     ·rename_i x t' _
      have := ihp _ _ _ _ _ _ _ _ _ h; have he := esc_le w x; simp at this ⊢; omega
    split at h
    ·split at h
     ·injection h with h; cases h
     ·have := ihp _ _ _ _ _ _ _ _ _ h; simp [total_append, total_flush, total, Part.text] at this ⊢; omega
    split at h
    ·split at h
     ·cases h
     ·injection h with h; cases h
     ·rename_i p i' r'' hd
      have h1 := ihd _ _ _ _ _ _ _ _ hd
      have h2 := h1.2 p rfl
      have := ihp _ _ _ _ _ _ _ _ _ h; simp [total_append, total_flush, total] at this h1 h2 ⊢; omega
     ·rename_i i' r'' hd
      have h1 := ihd _ _ _ _ _ _ _ _ hd
      have := ihp _ _ _ _ _ _ _ _ _ h; simp at this h1 ⊢; omega
    split at h
    ·injection h with h; cases h
    split at h
    ·split at h
     ·injection h with h; cases h
     ·rename_i n hf
      have hn := find_lt hf
      have := ihp _ _ _ _ _ _ _ _ _ h; simp [total_append, total_flush, total, Part.text] at this ⊢; omega
    split at h
    ·split at h
     ·cases h
     ·injection h with h; cases h
     ·rename_i qs i' r'' hq
      have h1 := ihp _ _ _ _ _ _ _ _ _ hq
      split at h
      ·rename_i hp
       have h2 := pre_le hp
       have := ihp _ _ _ _ _ _ _ _ _ h
       have h3 : total (if qs.isEmpty = true then [⟨1, [], [], true, []⟩] else qs) ≤ total qs := by
        split
        ·simp [total, Part.text]
        ·exact Nat.le_refl _
       simp [total_append, total_flush, total] at this h1 h2 h3 ⊢; omega
      ·injection h with h; cases h
    ·have := ihp _ _ _ _ _ _ _ _ _ h; simp at this ⊢; omega
  ·intro w d i c t x j r' h
   simp only [dollar] at h
   split at h
   ·injection h with h; cases h
   split at h
   ·split at h
    ·cases h
    ·injection h with h; cases h
    ·rename_i r'' hc
     have h1 := (closed_len f).1 _ _ _ hc
     injection h with h; injection h with h; injection h with h1' h; injection h with h2 h3
     subst h1'; subst h3
     simp at h1
     refine ⟨by simp; omega, fun p hp => ?_⟩
     injection hp with hp; subst hp
     simp [Part.text]; omega
   split at h
   ·split at h
    ·cases h
    ·injection h with h; cases h
    ·rename_i p i' r'' hb
     have h1 := ihb _ _ _ _ _ _ _ _ hb
     injection h with h; injection h with h; injection h with h1' h; injection h with h2 h3
     subst h1'; subst h3
     simp at h1
     have h2 := pre_le (show pre [36, 123] (c :: t) = true by assumption)
     refine ⟨by simp at h2 ⊢; omega, fun q hq => ?_⟩
     injection hq with hq; subst hq
     simp; omega
   split at h
   ·injection h with h; injection h with h; injection h with h1' h; injection h with h2 h3
    subst h1'; subst h3
    exact ⟨by simp, fun p hp => by cases hp⟩
   ·injection h with h; injection h with h; injection h with h1' h; injection h with h2 h3
    subst h1'; subst h3
    refine ⟨by simp; omega, fun p hp => ?_⟩
    injection hp with hp; subst hp
    have := paramLen_le' [63, 35, 64, 42] t
    simp [Part.text] at this ⊢; omega
  ·intro w d fr i r p j r' h
   simp only [braces] at h
   split at h
   ·injection h with h; cases h
   split at h
   ·rename_i hc
    injection h with h; injection h with h; injection h with h1' h; injection h with h2 h3
    subst h1'; subst h3
    have := paramLen_le' [63, 64, 42] (r.drop 1)
    simp [Part.text] at this ⊢; omega
   split at h
   ·injection h with h; cases h
   split at h
   ·injection h with h; injection h with h; injection h with h1' h; injection h with h2 h3
    subst h1'; subst h3
    have := paramLen_le' [63, 35, 64, 42] r
    simp [Part.text] at this ⊢; omega
   split at h
   ·injection h with h; cases h
   ·split at h
    ·cases h
    ·injection h with h; cases h
    ·rename_i ws i' r'' hq
     have h1 := ihp _ _ _ _ _ _ _ _ _ hq
     split at h
     ·injection h with h; injection h with h; injection h with h1' h; injection h with h2 h3
      subst h1'; subst h3
      have := paramLen_le' [63, 35, 64, 42] r
      simp [Part.text, total] at this h1 ⊢; omega
     ·injection h with h; cases h
theorem parts_stop : ∀ (f w d : Nat) (out : List Part) (text : Bs) (i : Nat) (r : Bs) (ps : List Part) (j : Nat) (r' : Bs), parts f w d out text i r = some (.ok (ps, j, r')) → r' = [] ∨ ∃ c t, r' = c :: t ∧ ends w c = true := by
 intro f
 induction f with
 | zero => intro w d out text i r ps j r' h; simp [parts] at h
 | succ f ih =>
  intro w d out text i r ps j r' h
  cases r with
  | nil =>
   simp only [parts] at h
   injection h with h; injection h with h; injection h with h1 h; injection h with h2 h3
   exact .inl h3.symm
  | cons c t =>
   rw [parts_cons] at h
   split at h
   ·rename_i he
    injection h with h; injection h with h; injection h with h1 h; injection h with h2 h3
    exact .inr ⟨c, t, h3.symm, he⟩
   split at h
   ·exact ih _ _ _ _ _ _ _ _ _ h
   split at h
   ·split at h
    ·injection h with h; cases h
    ·exact ih _ _ _ _ _ _ _ _ _ h
   split at h
   ·split at h
    ·injection h with h; cases h
    ·exact ih _ _ _ _ _ _ _ _ _ h
   split at h
   ·split at h
    ·cases h
    ·injection h with h; cases h
    ·exact ih _ _ _ _ _ _ _ _ _ h
    ·exact ih _ _ _ _ _ _ _ _ _ h
   split at h
   ·injection h with h; cases h
   split at h
   ·split at h
    ·injection h with h; cases h
    ·exact ih _ _ _ _ _ _ _ _ _ h
   split at h
   ·split at h
    ·cases h
    ·injection h with h; cases h
    ·split at h
     ·exact ih _ _ _ _ _ _ _ _ _ h
     ·injection h with h; cases h
   ·exact ih _ _ _ _ _ _ _ _ _ h
theorem docRows_len (last : Bs) : ∀ (f : Nat) (acc : Bs) (i : Nat) (r text : Bs) (j : Nat) (r' : Bs), docRows last f acc i r = some (.ok (text, j, r')) → text.length + r'.length ≤ acc.length + r.length := by
 intro f
 induction f with
 | zero => intro acc i r text j r' h; simp [docRows] at h
 | succ f ih =>
  intro acc i r text j r' h
  simp only [docRows] at h
  split at h
  ·injection h with h; cases h
  split at h
  ·injection h with h; injection h with h; injection h with h1 h; injection h with h2 h3
   subst h1; subst h3
   simp
  ·have := ih _ _ _ _ _ _ h
   simp only [List.length_append, List.length_take, List.length_drop] at this
   omega
theorem docs_len (f M : Nat) : ∀ (ws : List (Nat × Bs)) (toks : List Tok) (i : Nat) (r : Bs) (toks' : List Tok) (j : Nat) (r' : Bs), docs f ws toks i r = some (.ok (toks', j, r')) → r.length ≤ M → (∀ t, t ∈ toks → t.text.length ≤ M) → toks'.length = toks.length ∧ (∀ t, t ∈ toks' → t.text.length ≤ M) ∧ r'.length ≤ r.length := by
 intro ws
 induction ws with
 | nil =>
  intro toks i r toks' j r' h hr ht
  simp only [docs] at h
  injection h with h; injection h with h; injection h with h1 h; injection h with h2 h3
  subst h1; subst h3
  exact ⟨rfl, ht, Nat.le_refl _⟩
 | cons w ws ih =>
  intro toks i r toks' j r' h hr ht
  obtain ⟨k, last⟩ := w
  simp only [docs] at h
  split at h
  ·cases h
  ·injection h with h; cases h
  ·rename_i text i1 r1 hd
   have h1 := docRows_len last _ _ _ _ _ _ _ hd
   simp at h1
   split at h
   ·cases h
   ·rename_i t hk
    have hset : ∀ (x : Tok), x.text.length ≤ M → ∀ y, y ∈ toks.set k x → y.text.length ≤ M := by
     intro x hx y hy
     rcases List.mem_or_eq_of_mem_set hy with h | h
     ·exact ht y h
     ·rw [h]; exact hx
    split at h
    ·obtain ⟨a, b, c⟩ := ih _ _ _ _ _ _ h (by omega) (hset _ (by simp only; omega))
     exact ⟨by simpa using a, b, by omega⟩
    ·split at h
     ·cases h
     ·injection h with h; cases h
     ·obtain ⟨a, b, c⟩ := ih _ _ _ _ _ _ h (by omega) (hset _ (by simp only; omega))
      exact ⟨by simpa using a, b, by omega⟩
/-! ### Places are moved -/
def sh {α : Type} (k : Nat) : Option (Rz (α × Nat × Bs)) → Option (Rz (α × Nat × Bs))
 | none => none
 | some (.ok (x, j, r)) => some (.ok (x, j + k, r))
 | some (.bad c a) => some (.bad c (a + k))
theorem parts_shift (k : Nat) : ∀ f : Nat,
  (∀ w d out text i r, parts f w d out text (i + k) r = sh k (parts f w d out text i r)) ∧
  (∀ w d i r, dollar f w d (i + k) r = sh k (dollar f w d i r)) ∧
  (∀ w d fr i r, braces f w d (fr + k) (i + k) r = sh k (braces f w d fr i r)) := by
 intro f
 induction f with
 | zero => exact ⟨fun w d out text i r => by simp [parts, sh], fun w d i r => by simp [dollar, sh], fun w d fr i r => by simp [braces, sh]⟩
 | succ f ih =>
  obtain ⟨ihp, ihd, ihb⟩ := ih
  have p2 : ∀ w d out text i r, parts f w d out text (i + k + 2) r = sh k (parts f w d out text (i + 2) r) := fun w d out text i r => by rw [show i + k + 2 = i + 2 + k by omega]; exact ihp ..
  have p1 : ∀ w d out text i r, parts f w d out text (i + k + 1) r = sh k (parts f w d out text (i + 1) r) := fun w d out text i r => by rw [show i + k + 1 = i + 1 + k by omega]; exact ihp ..
  have pn : ∀ w d out text i m r, parts f w d out text (i + k + m + 2) r = sh k (parts f w d out text (i + m + 2) r) := fun w d out text i m r => by rw [show i + k + m + 2 = i + m + 2 + k by omega]; exact ihp ..
  refine ⟨?_, ?_, ?_⟩
  ·intro w d out text i r
   cases r with
   | nil => simp only [parts, sh]
   | cons c t =>
    rw [parts_cons, parts_cons]
    by_cases g0 : ends w c = true
    ·rw [if_pos g0, if_pos g0]; rfl
    rw [if_neg g0, if_neg g0]
    by_cases g1 : pre [92, 10] (c :: t) = true
    ·rw [if_pos g1, if_pos g1]; exact p2 ..
    rw [if_neg g1, if_neg g1]
    by_cases g2 : (c == 92 && inQ w) = true
    ·rw [if_pos g2, if_pos g2]
     cases t with
     | nil => rfl
     | cons x t' => exact p2 ..
    rw [if_neg g2, if_neg g2]
    by_cases g3 : (c == 92) = true
    ·rw [if_pos g3, if_pos g3]
     cases t with
     | nil => rfl
     | cons x t' => exact p2 ..
    rw [if_neg g3, if_neg g3]
    by_cases g4 : (c == 36) = true
    ·rw [if_pos g4, if_pos g4, ihd]
     cases dollar f w d i (c :: t) with
     | none => rfl
     | some x =>
      cases x with
      | bad a b => rfl
      | ok y =>
       obtain ⟨y, j, r'⟩ := y
       cases y with
       | none => exact ihp ..
       | some y => exact ihp ..
    rw [if_neg g4, if_neg g4]
    by_cases g5 : (c == 96 || c == 34 && w == 4) = true
    ·rw [if_pos g5, if_pos g5]; rfl
    rw [if_neg g5, if_neg g5]
    by_cases g6 : (c == 39 && !inQ w) = true
    ·rw [if_pos g6, if_pos g6]
     cases find 39 t with
     | none => rfl
     | some m => exact pn ..
    rw [if_neg g6, if_neg g6]
    by_cases g7 : (c == 34 && !inQ w) = true
    ·rw [if_pos g7, if_pos g7, p1]
     cases parts f 1 d [] [] (i + 1) t with
     | none => rfl
     | some x =>
      cases x with
      | bad a b => rfl
      | ok y =>
       obtain ⟨ps, j, r'⟩ := y
       dsimp only [sh]
       by_cases g8 : pre [34] r' = true
       ·rw [if_pos g8, if_pos g8, show j + k + 1 = j + 1 + k by omega]; exact ihp ..
       ·rw [if_neg g8, if_neg g8]
    rw [if_neg g7, if_neg g7]
    exact p1 ..
  ·intro w d i r
   simp only [dollar]
   split
   ·rfl
   split
   ·cases closed f 1 (r.drop 2) with
    | none => rfl
    | some x =>
     cases x with
     | none => rfl
     | some r' => simp only [sh]; rw [show i + k + (r.length - r'.length) = i + (r.length - r'.length) + k by omega]
   split
   ·rw [show i + k + 2 = i + 2 + k by omega, ihb]
    cases braces f w d i (i + 2) (r.drop 2) with
    | none => rfl
    | some x =>
     cases x with
     | bad a b => rfl
     | ok y => obtain ⟨y, j, r'⟩ := y; rfl
   split
   ·simp only [sh]; rw [show i + k + 1 = i + 1 + k by omega]
   ·simp only [sh]; rw [show i + k + 1 + paramLen [63, 35, 64, 42] (r.drop 1) = i + 1 + paramLen [63, 35, 64, 42] (r.drop 1) + k by omega]
  ·intro w d fr i r
   simp only [braces]
   split
   ·rfl
   split
   ·simp only [sh]; rw [show i + k + 1 + paramLen [63, 64, 42] (r.drop 1) + 1 = i + 1 + paramLen [63, 64, 42] (r.drop 1) + 1 + k by omega]
   split
   ·rfl
   split
   ·simp only [sh]; rw [show i + k + paramLen [63, 35, 64, 42] r + 1 = i + paramLen [63, 35, 64, 42] r + 1 + k by omega]
   ·cases opsL.find? (fun o => pre o (r.drop (paramLen [63, 35, 64, 42] r))) with
    | none => rfl
    | some o =>
     dsimp only
     rw [show i + k + paramLen [63, 35, 64, 42] r + o.length = i + paramLen [63, 35, 64, 42] r + o.length + k by omega, ihp]
     cases parts f (if inQ w then 4 else 3) (d + 1) [] [] (i + paramLen [63, 35, 64, 42] r + o.length) (r.drop (paramLen [63, 35, 64, 42] r + o.length)) with
     | none => rfl
     | some x =>
      cases x with
      | bad a b => rfl
      | ok y =>
       obtain ⟨ws, j, r'⟩ := y
       dsimp only [sh]
       cases pre [125] r' with
       | true => simp only [if_true, sh]; rw [show j + k + 1 = j + 1 + k by omega]
       | false => rfl
/-! ### Places are within the text -/
def inB {α : Type} (n : Nat) : Rz (α × Nat × Bs) → Prop
 | .ok (_, j, r) => j + r.length ≤ n
 | .bad _ a => a ≤ n
theorem inB.mono {α : Type} {n m : Nat} {x : Rz (α × Nat × Bs)} (h : inB n x) (hm : n ≤ m) : inB m x := by
 cases x with
 | bad c a => exact Nat.le_trans h hm
 | ok y => obtain ⟨y, j, r⟩ := y; exact Nat.le_trans h hm
theorem parts_pos : ∀ f : Nat,
  (∀ w d out text i r x, parts f w d out text i r = some x → inB (i + r.length) x) ∧
  (∀ w d i c t x, dollar f w d i (c :: t) = some x → inB (i + (c :: t).length) x) ∧
  (∀ w d fr i r x, braces f w d fr i r = some x → fr ≤ i → inB (i + r.length) x) := by
 intro f
 induction f with
 | zero => exact ⟨fun w d out text i r x h => by simp [parts] at h, fun w d i c t x h => by simp [dollar] at h, fun w d fr i r x h => by simp [braces] at h⟩
 | succ f ih =>
  obtain ⟨ihp, ihd, ihb⟩ := ih
  refine ⟨?_, ?_, ?_⟩
  ·intro w d out text i r x h
   cases r with
   | nil =>
    simp only [parts] at h
    injection h with h; subst h
    exact Nat.le_refl _
   | cons c t =>
    rw [parts_cons] at h
    split at h
    ·injection h with h; subst h; exact Nat.le_refl _
    split at h
    ·rename_i hp
     have h2 := pre_le hp
     exact (ihp _ _ _ _ _ _ _ h).mono (by simp at h2 ⊢; omega)
    split at h
    ·split at h
     ·injection h with h; subst h; show i ≤ _; omega
     ·exact (ihp _ _ _ _ _ _ _ h).mono (by simp; omega)
    split at h
    ·split at h
     ·injection h with h; subst h; show i ≤ _; omega
     ·exact (ihp _ _ _ _ _ _ _ h).mono (by simp; omega)
    split at h
    ·split at h
     ·cases h
     ·rename_i a b hd
      have h1 := ihd _ _ _ _ _ _ hd
      injection h with h; subst h; exact h1
     ·rename_i p i' r'' hd
      have h1 := ihd _ _ _ _ _ _ hd
      exact (ihp _ _ _ _ _ _ _ h).mono h1
     ·rename_i i' r'' hd
      have h1 := ihd _ _ _ _ _ _ hd
      exact (ihp _ _ _ _ _ _ _ h).mono h1
    split at h
    ·injection h with h; subst h; show i ≤ _; omega
    split at h
    ·split at h
     ·injection h with h; subst h; show i ≤ _; omega
     ·rename_i n hf
      have hn := find_lt hf
      exact (ihp _ _ _ _ _ _ _ h).mono (by simp; omega)
    split at h
    ·split at h
     ·cases h
     ·rename_i a b hq
      have h1 := (ihp _ _ _ _ _ _ _ hq).mono (show i + 1 + t.length ≤ i + (c :: t).length by simp; omega)
      injection h with h; subst h; exact h1
     ·rename_i qs i' r'' hq
      have h1 : i' + r''.length ≤ i + 1 + t.length := ihp _ _ _ _ _ _ _ hq
      split at h
      ·rename_i hp
       have h2 := pre_le hp
       exact (ihp _ _ _ _ _ _ _ h).mono (by simp at h2 ⊢; omega)
      ·injection h with h; subst h; show i ≤ _; omega
    ·exact (ihp _ _ _ _ _ _ _ h).mono (by simp; omega)
  ·intro w d i c t x h
   simp only [dollar] at h
   split at h
   ·injection h with h; subst h; show i ≤ _; omega
   split at h
   ·split at h
    ·cases h
    ·injection h with h; subst h; show i ≤ _; omega
    ·rename_i r'' hc
     have h1 := (closed_len f).1 _ _ _ hc
     injection h with h; subst h
     show i + ((c :: t).length - r''.length) + r''.length ≤ _
     simp at h1 ⊢; omega
   split at h
   ·have h2 := pre_le (show pre [36, 123] (c :: t) = true by assumption)
    split at h
    ·cases h
    ·rename_i a b hb
     have h1 := (ihb _ _ _ _ _ _ hb (by omega)).mono (show i + 2 + ((c :: t).drop 2).length ≤ i + (c :: t).length by simp at h2 ⊢; omega)
     injection h with h; subst h; exact h1
    ·rename_i p i' r'' hb
     have h1 := (ihb _ _ _ _ _ _ hb (by omega)).mono (show i + 2 + ((c :: t).drop 2).length ≤ i + (c :: t).length by simp at h2 ⊢; omega)
     injection h with h; subst h; exact h1
   split at h
   ·injection h with h; subst h
    show i + 1 + ((c :: t).drop 1).length ≤ _
    simp; omega
   ·injection h with h; subst h
    have := paramLen_le' [63, 35, 64, 42] ((c :: t).drop 1)
    show i + 1 + paramLen [63, 35, 64, 42] ((c :: t).drop 1) + (((c :: t).drop 1).drop (paramLen [63, 35, 64, 42] ((c :: t).drop 1))).length ≤ _
    simp only [List.length_drop, List.length_cons] at this ⊢; omega
  ·intro w d fr i r x h hfr
   simp only [braces] at h
   split at h
   ·injection h with h; subst h; show fr ≤ _; omega
   split at h
   ·rename_i hc
    injection h with h; subst h
    simp only [Bool.and_eq_true] at hc
    have h1 := pre_le hc.1
    have h2 := pre_le hc.2.2
    show i + 1 + paramLen [63, 64, 42] (r.drop 1) + 1 + (r.drop (1 + paramLen [63, 64, 42] (r.drop 1) + 1)).length ≤ _
    simp only [List.length_drop, List.length_cons, List.length_nil] at h1 h2 ⊢; omega
   split at h
   ·injection h with h; subst h; show fr ≤ _; omega
   split at h
   ·rename_i hp
    have h2 := pre_le hp
    injection h with h; subst h
    show i + paramLen [63, 35, 64, 42] r + 1 + (r.drop (paramLen [63, 35, 64, 42] r + 1)).length ≤ _
    simp only [List.length_drop, List.length_cons, List.length_nil] at h2 ⊢; omega
   split at h
   ·injection h with h; subst h; show fr ≤ _; omega
   ·rename_i o hfo
    have hpo := pre_le (show (pre o (r.drop (paramLen [63,35,64,42] r)) = true) by have := List.find?_some hfo; simpa using this)
    have hin : i + paramLen [63, 35, 64, 42] r + o.length + (r.drop (paramLen [63, 35, 64, 42] r + o.length)).length ≤ i + r.length := by
     simp only [List.length_drop] at hpo ⊢
     have := paramLen_le' [63, 35, 64, 42] r
     omega
    split at h
    ·cases h
    ·rename_i a b hq
     have h1 := (ihp _ _ _ _ _ _ _ hq).mono hin
     injection h with h; subst h; exact h1
    ·rename_i ws i' r'' hq
     have h1 : i' + r''.length ≤ _ := (ihp _ _ _ _ _ _ _ hq).mono hin
     split at h
     ·rename_i hp
      have h2 := pre_le hp
      injection h with h; subst h
      show i' + 1 + (r''.drop 1).length ≤ _
      simp only [List.length_drop, List.length_cons, List.length_nil] at h2 ⊢; omega
     ·injection h with h; subst h; show fr ≤ _; omega
end Go.Proofs.YteekjekckgpbfaaDoor.Sp
end
section
namespace Go.Proofs.YteekjekckgpbfaaDoor.Abs
open Sp
attribute [local congr] bindO_congr bindR_congr condV_congr wp_congr
section
variable {h : Heap} {lo : Nat} {X : List Nat} {p : Nat} {l : Bs} {i : Nat} {toks : List Tok} {waits : List (Nat × Bs)} {tv wv : Value} {cs : List Value}
def suf (t r : Bs) : Bool := decide (t.length ≤ r.length) && (r.drop (r.length - t.length) == t)
theorem hasSuffix_eq (n : Nat) (r t : Bs) (hr : r.length < 4611686018427387904) : cF (n + 2) 13 [.string (mkS r), .string (mkS t)] h = some (.ret (.bool (suf t r)), h) := by
 rw [c13]
 simp -implicitDefEqProofs only [f13, c35, f35, SS, SU, Nat.reduceAdd, Nat.reduceLeDiff, Nat.reduceBEq, Nat.reduceMul]
 rcases b2 (decide (t.length ≤ r.length)) with h1 | h1
 ·have h2 := of_decide_eq_true h1
  simp -implicitDefEqProofs only [h1, pull_sub r.length t.length h2, wrap_nat (r.length - t.length) (by omega), sl9_lo r (r.length - t.length) h (by omega), suf, SS, SU, Nat.reduceAdd, Nat.reduceLeDiff, Nat.reduceBEq, Nat.reduceMul]
 ·simp -implicitDefEqProofs only [h1, suf, SS, SU, Nat.reduceAdd, Nat.reduceLeDiff, Nat.reduceBEq, Nat.reduceMul]
theorem suf2 (r : Bs) : suf [60, 60] r = (r.drop (r.length - 2) == [60, 60]) := by
 unfold suf
 rcases b2 (decide (2 ≤ r.length)) with h1 | h1
 ·rw [show ([60, 60] : Bs).length = 2 from rfl, h1, Bool.true_and]
 ·rw [show ([60, 60] : Bs).length = 2 from rfl, h1, Bool.false_and]
  have := of_decide_eq_false h1
  symm
  rw [beq_eq_false_iff_ne]
  intro e
  have := congrArg List.length e
  simp at this
  omega
theorem word_head (ht : toks.length ≤ 100000) (htx : ∀ t, t ∈ toks → t.text.length ≤ 5000) {n : Nat} (k : LS h lo X p l i toks waits tv wv cs) :
  cF (n + 3) 22 [Pt p] h = p22_4 (cF (n + 2)) (n + 2) (Pt p) (.int .i64 (i : Int)) (.bool (announces toks)) h := by
 have hx := k.x
 rw [c22]
 rcases k.t with ⟨rfl, _, hn⟩ | ⟨b, rfl, hn, hb, hl, _, _⟩
 ·have : toks = [] := by simpa using hn
  subst this
  have ha : announces [] = false := rfl
  rw [ha]
  have hd : decide ((0 : Int) < ((0 : Nat) : Int)) = false := rfl
  simp -implicitDefEqProofs only [f22, p22_0, hx, hd, SS, SU, Nat.reduceAdd, Nat.reduceLeDiff, Nat.reduceBEq, Nat.reduceMul]
 ·have hlt : toks.length - 1 < toks.length := by omega
  have hg : toks[toks.length - 1]? = some toks[toks.length - 1] := by simp [hlt]
  have hlast : toks.getLast? = some toks[toks.length - 1] := by rw [List.getLast?_eq_getElem?]; exact hg
  have hmem : toks[toks.length - 1] ∈ toks := List.getElem_mem ..
  have htl := htx _ hmem
  generalize toks[toks.length - 1] = x at hg hlast htl
  obtain ⟨w, hw, g0, g1, g2, g3, g4, _⟩ := k.r.get hg
  have ha : announces toks = (x.kind == 1 && suf [60, 60] x.text) := by unfold announces; rw [hlast, suf2]
  rw [ha]
  have hd : decide (0 < toks.length) = true := decide_eq_true hn
  have e1 : ((x.kind : Int) == 1) = (x.kind == 1) := n_eq x.kind 1
  have z0 : 0 + (toks.length - 1) * 5 = (toks.length - 1) * 5 := by omega
  have z00 : (toks.length - 1) * 5 + 0 = (toks.length - 1) * 5 := rfl
  have hs := hasSuffix_eq (h := h) n x.text [60, 60] (by omega)
  rcases b2 (x.kind == 1) with q | q
  ·simp -implicitDefEqProofs only [f22, p22_0, hx, hd, pull_sub1 toks.length (by omega), wrap_nat (toks.length - 1) (by omega), ia22 b 0 toks.length toks.length (toks.length - 1) hlt, z0, z00, hb, g0, g1, e1, q, hs, SS, SU, Nat.reduceAdd, Nat.reduceLeDiff, Nat.reduceBEq, Nat.reduceMul]
  ·simp -implicitDefEqProofs only [f22, p22_0, hx, hd, pull_sub1 toks.length (by omega), wrap_nat (toks.length - 1) (by omega), ia22 b 0 toks.length toks.length (toks.length - 1) hlt, z0, z00, hb, g0, g1, e1, q, SS, SU, Nat.reduceAdd, Nat.reduceLeDiff, Nat.reduceBEq, Nat.reduceMul]
theorem LS.excl (k : LS h lo X p l i toks waits tv wv cs) (o : AObj) : LS (h.alloc o) lo (h.next :: X) p l i toks waits tv wv cs := by
 have k2 := k.kp (Kp.alloc p h o) (alloc_lx k.x o)
 refine ⟨k2.x, k2.t.keep (fun _ _ e => e) fun _ h => List.mem_cons_of_mem _ h, k.r.mono fun b y a e => ?_, k2.w.keep (fun _ _ e => e) fun _ h => List.mem_cons_of_mem _ h, k2.c1, k2.c2, fun x hx => ?_⟩
 ·have hb := Heap.blk_lt e
  refine ⟨⟨a.1, ?_⟩, (blk_alloc_lt hb).trans e⟩
  simp only [List.mem_cons, not_or]
  exact ⟨by omega, a.2⟩
 ·rcases List.mem_cons.1 hx with e | e
  ·rw [e, next_alloc]; omega
  ·exact k2.c3 x e
theorem LS.setx (k : LS h lo X p l i toks waits tv wv cs) {b : Nat} (o : AObj) (hb : b ∈ X) (hlo : lo ≤ b) (ht : ∀ n, tv ≠ .slice (some ⟨b, 0, none⟩) n n) (hw : ∀ n, wv ≠ .slice (some ⟨b, 0, none⟩) n n) : LS (h.set b o) lo X p l i toks waits tv wv cs := by
 have hp := k.c1
 refine ⟨(blk_set_ne (by omega)).trans k.x, ?_, k.r.mono fun c y a e => ⟨a, (blk_set_ne fun eq => a.2 (eq ▸ hb)).trans e⟩, ?_, k.c1, k.c2, k.c3⟩
 ·rcases k.t with h1 | ⟨c, e, hn, hc, hl, hx, hlc⟩
  ·exact .inl h1
  ·exact .inr ⟨c, e, hn, (blk_set_ne fun eq => ht toks.length (by rw [e, eq])).trans hc, hl, hx, hlc⟩
 ·rcases k.w with h1 | ⟨c, e, hn, hc, hl, hx, hlc⟩
  ·exact .inl h1
  ·exact .inr ⟨c, e, hn, (blk_set_ne fun eq => hw waits.length (by rw [e, eq])).trans hc, hl, hx, hlc⟩
theorem LS.tv_lt (k : LS h lo X p l i toks waits tv wv cs) {b : Nat} (hb : h.next ≤ b) : (∀ n, tv ≠ .slice (some ⟨b, 0, none⟩) n n) ∧ (∀ n, wv ≠ .slice (some ⟨b, 0, none⟩) n n) := by
 constructor
 ·intro n e
  rcases k.t with ⟨h1, _⟩ | ⟨c, e', hn, hc, _⟩
  ·rw [h1] at e; cases e
  ·rw [e'] at e; injection e with e; injection e with e; injection e with e
   have := Heap.blk_lt hc
   omega
 ·intro n e
  rcases k.w with ⟨h1, _⟩ | ⟨c, e', hn, hc, _⟩
  ·rw [h1] at e; cases e
  ·rw [e'] at e; injection e with e; injection e with e; injection e with e
   have := Heap.blk_lt hc
   omega
theorem RepL.get {g : Nat → Option Blk} {A : Nat → Prop} : ∀ {cs : List Value} {ps : List Part}, RepL g A cs ps → ∀ {j : Nat} {x : Part}, ps[j]? = some x → ∃ o q w ws, x = ⟨x.kind, x.text, o, q, ws⟩ ∧ RepW g A w ws ∧ (cs.drop (j * 6)).take 6 = [.int .i64 (x.kind : Int), .string (mkS x.text), .string (mkS o), .bool q, w, .pointer none] ∧ j * 6 + 6 ≤ cs.length := by
 intro cs ps h
 induction ps generalizing cs with
 | nil => intro j x hj; cases hj
 | cons y ps ih =>
  cases h
  rename_i k t o q w ws cs hw hl
  intro j x hj
  cases j with
  | zero =>
   simp at hj; subst hj
   exact ⟨o, q, w, ws, rfl, hw, rfl, by simp⟩
  | succ j =>
   simp at hj
   obtain ⟨o', q', w', ws', e, h1, h2, h3⟩ := ih hl hj
   refine ⟨o', q', w', ws', e, h1, ?_, by simp; omega⟩
   rw [show (j + 1) * 6 = j * 6 + 1 + 1 + 1 + 1 + 1 + 1 by omega]; simpa using h2
def wordDone (toks : List Tok) (waits : List (Nat × Bs)) (i : Nat) (e : Bs) (q : Bool) : List Tok × List (Nat × Bs) := (toks ++ [⟨3, [], [], q, i⟩], waits ++ [(toks.length, e)])
theorem word_end {td : Nat} {e : Bs} {q : Bool} {j n N : Nat} (ht : toks.length ≤ 100000) (hw : waits.length ≤ 100000) (k : LS h lo X p l j toks waits tv wv cs) (hd : h.blk td = some ⟨39, [.int .i64 3, .string (mkS []), .slice none 0 0, .bool q, .int .i64 (i : Int)], true⟩) (hlo : lo ≤ td) (hne : (∀ n, tv ≠ .slice (some ⟨td, 0, none⟩) n n)) :
  wp (p22_13 (cF n) N (Pt p) (Pt td) (.string (mkS e)) h) (MarkQ lo p l j (toks ++ [⟨3, [], [], q, i⟩]) (waits ++ [(toks.length, e)]) h) := by
 have hx := k.x
 obtain ⟨⟨ta, htv⟩, _⟩ := k.t.len
 have e5 : buildSliceA E 55 1 [(0, .agg ⟨[.int .i64 (toks.length : Int), .string (mkS e)]⟩)] h = some (.slice (some ⟨h.next, 0, none⟩) 1 1, h.alloc (.cells ⟨89, [.int .i64 (toks.length : Int), .string (mkS e)], true⟩)) := bs55_1 _ h rfl
 have k2 := k.kp (Kp.alloc p h (.cells ⟨89, [.int .i64 (toks.length : Int), .string (mkS e)], true⟩)) (alloc_lx hx _)
 have u2 := (Kp.alloc p h (.cells ⟨89, [.int .i64 (toks.length : Int), .string (mkS e)], true⟩)).unL k.c2
 have hd2 : (h.alloc (.cells ⟨89, [.int .i64 (toks.length : Int), .string (mkS e)], true⟩)).blk td = some ⟨39, [.int .i64 3, .string (mkS []), .slice none 0 0, .bool q, .int .i64 (i : Int)], true⟩ := (blk_alloc_lt (Heap.blk_lt hd)).trans hd
 have hsb2 : (h.alloc (.cells ⟨89, [.int .i64 (toks.length : Int), .string (mkS e)], true⟩)).blk h.next = some ⟨89, [.int .i64 (toks.length : Int), .string (mkS e)], true⟩ := blk_alloc_eq
 have ln : lenA E 22 tv = some (.int .i64 (toks.length : Int)) := by rw [htv]; exact ln22 _ _ _
 have hltd : td < h.next := Heap.blk_lt hd
 have hn2 : (h.alloc (.cells ⟨89, [.int .i64 (toks.length : Int), .string (mkS e)], true⟩)).next = h.next + 1 := rfl
 simp -implicitDefEqProofs only [p22_13, hx, ln, e5, SS, SU, Nat.reduceAdd, Nat.reduceLeDiff, Nat.reduceBEq, Nat.reduceMul]
 generalize h.alloc (.cells ⟨89, [.int .i64 (toks.length : Int), .string (mkS e)], true⟩) = h2 at *
 obtain ⟨h3, e6, g3, hn3, hs3, hs3'⟩ := k2.w.snoc (t := 55) (sz := 2) (bt := 24) ty55 rfl ty89 rfl rfl rfl hsb2 rfl rfl k2.c2 (by unfold most; omega)
 have hp := k.c1
 have hx3 : LX h3 p l j tv wv := hs3' p _ k2.x (show (57 : Nat) ≠ 89 by decide)
 have hd3 : h3.blk td = some ⟨39, [.int .i64 3, .string (mkS []), .slice none 0 0, .bool q, .int .i64 (i : Int)], true⟩ := hs3' td _ hd2 (show (39 : Nat) ≠ 89 by decide)
 have k4 : LS (h3.set p (.cells ⟨57, [.string (mkS l), .int .i64 (j : Int), tv, .slice (some ⟨h2.next, 0, none⟩) (waits.length + 1) (waits.length + 1)], true⟩)) lo (h2.next :: X) p l j toks (waits ++ [(toks.length, e)]) tv (.slice (some ⟨h2.next, 0, none⟩) (waits.length + 1) (waits.length + 1)) cs := by
  refine ⟨blk_set_eq (blk_lt' hx3), ?_, ?_, ?_, hp, by rw [next_set]; have := k2.c2; omega, fun x hx => ?_⟩
  ·exact k2.t.keep (fun b hb ee => (blk_set_ne (by omega)).trans (hs3' b _ ee (show (39 : Nat) ≠ 89 by decide))) fun _ h => List.mem_cons_of_mem _ h
  ·refine k2.r.mono fun b y a ee => ?_
   have hb := Heap.blk_lt ee
   refine ⟨⟨a.1, ?_⟩, (blk_set_ne (by have := a.1; omega)).trans ((hs3 b hb (.inr a.2)).trans ee)⟩
   simp only [List.mem_cons, not_or]
   exact ⟨by omega, a.2⟩
  ·have : waitCells (waits ++ [(toks.length, e)]) = waitCells waits ++ [.int .i64 (toks.length : Int), .string (mkS e)] := by simp [waitCells]
   rw [this, List.length_append, List.length_singleton]
   exact g3.keep (fun b hb ee => (blk_set_ne (by omega)).trans ee) fun _ h => h
  ·rw [next_set, hn3]
   rcases List.mem_cons.1 hx with ee | ee
   ·omega
   ·have := k2.c3 x ee; omega
 have hd4 : (h3.set p (.cells ⟨57, [.string (mkS l), .int .i64 (j : Int), tv, .slice (some ⟨h2.next, 0, none⟩) (waits.length + 1) (waits.length + 1)], true⟩)).blk td = some ⟨39, [.int .i64 3, .string (mkS []), .slice none 0 0, .bool q, .int .i64 (i : Int)], true⟩ := (blk_set_ne (by omega)).trans hd3
 have u4 : UnL lo p h (h3.set p (.cells ⟨57, [.string (mkS l), .int .i64 (j : Int), tv, .slice (some ⟨h2.next, 0, none⟩) (waits.length + 1) (waits.length + 1)], true⟩)) := u2.trans ⟨by rw [next_set]; omega, fun b hb hn => (blk_set_ne hn).trans (hs3 b (by have := k2.c2; omega) (.inl hb))⟩
 simp -implicitDefEqProofs only [e6, hx3, SS, SU, Nat.reduceAdd, Nat.reduceLeDiff, Nat.reduceBEq, Nat.reduceMul]
 generalize h3.set p (.cells ⟨57, [.string (mkS l), .int .i64 (j : Int), tv, .slice (some ⟨h2.next, 0, none⟩) (waits.length + 1) (waits.length + 1)], true⟩) = h4 at *
 have hx4 := k4.x
 have e7 : buildSliceA E 22 1 [(0, .agg ⟨[.int .i64 3, .string (mkS []), .slice none 0 0, .bool q, .int .i64 (i : Int)]⟩)] h4 = some (.slice (some ⟨h4.next, 0, none⟩) 1 1, h4.alloc (.cells ⟨39, [.int .i64 3, .string (mkS []), .slice none 0 0, .bool q, .int .i64 (i : Int)], true⟩)) := bs22_1 _ h4 rfl
 have k5 := k4.kp (Kp.alloc p h4 (.cells ⟨39, [.int .i64 3, .string (mkS []), .slice none 0 0, .bool q, .int .i64 (i : Int)], true⟩)) (alloc_lx hx4 _)
 have u5 := u4.trans ((Kp.alloc p h4 (.cells ⟨39, [.int .i64 3, .string (mkS []), .slice none 0 0, .bool q, .int .i64 (i : Int)], true⟩)).unL k4.c2)
 obtain ⟨h6, e8, hx6, hn6, hu6, _, _, hls⟩ := k5.tok (x := ⟨3, [], [], q, i⟩) (w := .slice none 0 0) (sb := h4.next) .nil blk_alloc_eq ht
 simp -implicitDefEqProofs only [hx4, hd4, e7, e8, hx6, SS, SU, Nat.reduceAdd, Nat.reduceLeDiff, Nat.reduceBEq, Nat.reduceMul]
 exact wp_some.2 ⟨rfl, u5.trans ⟨by rw [next_set]; omega, fun b hb hn => (blk_set_ne hn).trans (hu6 b hb)⟩, _, _, _, _, hls j⟩
theorem MarkQ.of {h h1 : Heap} {j : Nat} {r : Res} {h' : Heap} (u : UnL lo p h h1) (q : MarkQ lo p l j toks waits h1 r h') : MarkQ lo p l j toks waits h r h' := ⟨q.1, u.trans q.2.1, q.2.2⟩
def WordQ (lo p : Nat) (l : Bs) (i j : Nat) (toks : List Tok) (waits : List (Nat × Bs)) (h : Heap) (x : Option (Bs × Bool)) (r : Res) (h' : Heap) : Prop := match x with
 | some (e, q) => MarkQ lo p l j (toks ++ [⟨3, [], [], q, i⟩]) (waits ++ [(toks.length, e)]) h r h'
 | none => BadL lo p h 19 i r h'
theorem WordQ.of {h h1 : Heap} {j : Nat} {x : Option (Bs × Bool)} {r : Res} {h' : Heap} (u : UnL lo p h h1) (q : WordQ lo p l i j toks waits h1 x r h') : WordQ lo p l i j toks waits h x r h' := by
 cases x with
 | none => exact BadL.of u q
 | some x => exact MarkQ.of u q
theorem word_loop (ht : toks.length ≤ 100000) (hw : waits.length ≤ 100000) {ps : List Part} (hps : ps.length ≤ 100000) {v : Value} {td j n N : Nat} (hlo : lo ≤ td) (hne : (∀ n, tv ≠ .slice (some ⟨td, 0, none⟩) n n) ∧ (∀ n, wv ≠ .slice (some ⟨td, 0, none⟩) n n)) : ∀ (rest : List Part) (jx : Nat) (e : Bs) (q : Bool) (h : Heap) (X : List Nat) (m : Nat),
  ps.drop jx = rest → jx ≤ ps.length → e.length + total rest ≤ 100000 → ps.length - jx < m → td ∈ X → LS h lo X p l j toks waits tv wv cs → RepW h.blk (Al lo X) v ps → h.blk td = some ⟨39, [.int .i64 3, .string (mkS []), .slice none 0 0, .bool q, .int .i64 (i : Int)], true⟩ →
  wp (l22_19 (cF (n + 1)) N m (Pt p) (.int .i64 (i : Int)) (Pt td) (.string (mkS e)) v (.int .i64 (ps.length : Int)) (.int .i64 (jx : Int)) h) (WordQ lo p l i j toks waits h (wordEnd rest e q)) := by
 intro rest
 induction rest with
 | nil =>
  intro jx e q h X m hd hj he hm htd k hv hdoc
  obtain ⟨m, rfl⟩ : ∃ m', m = m' + 1 := ⟨m - 1, by omega⟩
  have hge : ps.length ≤ jx := by have := congrArg List.length hd; simp at this; omega
  have hlt : decide (jx < ps.length) = false := decide_eq_false (by omega)
  simp -implicitDefEqProofs only [l22_19, p22_20, hlt, SS, SU, Nat.reduceAdd, Nat.reduceLeDiff, Nat.reduceBEq, Nat.reduceMul]
  exact word_end ht hw k hdoc hlo hne.1
 | cons x rest ih =>
  intro jx e q h X m hd hj he hm htd k hv hdoc
  obtain ⟨m, rfl⟩ : ∃ m', m = m' + 1 := ⟨m - 1, by omega⟩
  have hlt0 : jx < ps.length := by
   have := congrArg List.length hd
   simp at this; omega
  have hlt : decide (jx < ps.length) = true := decide_eq_true hlt0
  have hg : ps[jx]? = some x := by
   have : (ps.drop jx)[0]? = some x := by rw [hd]; rfl
   simpa using this
  have hd' : ps.drop (jx + 1) = rest := by rw [← List.drop_drop, hd]; rfl
  cases hv with
  | nil => simp at hlt0
  | some b cs' n' _ ha hb hl hn' hpos =>
   obtain ⟨o, q', w, ws, hxe, hww, hcells, hclen⟩ := hl.get hg
   obtain ⟨wa, wn, wc, rfl⟩ := hww.one
   have z0 : 0 + jx * 6 = jx * 6 := by omega
   have hdc : decide (jx * 6 + 6 ≤ cs'.length) = true := decide_eq_true hclen
   have hset : ∀ cs cs', (h.alloc (.cells ⟨49, cs, true⟩)).set h.next (.cells ⟨49, cs', true⟩) = h.alloc (.cells ⟨49, cs', true⟩) := by
    intro cs cs'
    exact put_lx ⟨h.m, h.next + 1⟩ h.next (.cells ⟨49, cs, true⟩) (.cells ⟨49, cs', true⟩)
   have hal : ∀ cs, (h.alloc (.cells ⟨49, cs, true⟩)).blk h.next = some ⟨49, cs, true⟩ := fun cs => blk_alloc_eq
   have ek : x.kind = x.kind := rfl
   have k1 := k.kp (Kp.alloc p h (.cells ⟨49, [.int .i64 (x.kind : Int), .string (mkS x.text), .string (mkS o), .bool q', .slice wa wn wc, .pointer none], true⟩)) (alloc_lx k.x _)
   have u1 := (Kp.alloc p h (.cells ⟨49, [.int .i64 (x.kind : Int), .string (mkS x.text), .string (mkS o), .bool q', .slice wa wn wc, .pointer none], true⟩)).unL k.c2
   have hdoc1 : (h.alloc (.cells ⟨49, [.int .i64 (x.kind : Int), .string (mkS x.text), .string (mkS o), .bool q', .slice wa wn wc, .pointer none], true⟩)).blk td = some ⟨39, [.int .i64 3, .string (mkS []), .slice none 0 0, .bool q, .int .i64 (i : Int)], true⟩ := (blk_alloc_lt (Heap.blk_lt hdoc)).trans hdoc
   have hv1 : RepW (h.alloc (.cells ⟨49, [.int .i64 (x.kind : Int), .string (mkS x.text), .string (mkS o), .bool q', .slice wa wn wc, .pointer none], true⟩)).blk (Al lo X) (.slice (some ⟨b, 0, none⟩) n' n') ps := (RepW.some b cs' n' ps ha hb hl hn' hpos).mono fun c y a ee => ⟨a, (blk_alloc_lt (Heap.blk_lt ee)).trans ee⟩
   have ht10 : (h.alloc (.cells ⟨49, [.int .i64 (x.kind : Int), .string (mkS x.text), .string (mkS o), .bool q', .slice wa wn wc, .pointer none], true⟩)).blk h.next = some ⟨49, [.int .i64 (x.kind : Int), .string (mkS x.text), .string (mkS o), .bool q', .slice wa wn wc, .pointer none], true⟩ := blk_alloc_eq
   have htn : h.next ≠ td := by have := Heap.blk_lt hdoc; omega
   have e0 : ((x.kind : Int) != 0) = (x.kind != 0) := n_ne x.kind 0
   have e1 : ((x.kind : Int) != 1) = (x.kind != 1) := n_ne x.kind 1
   have e1' : ((x.kind : Int) == 1) = (x.kind == 1) := n_eq x.kind 1
   have hwe : wordEnd (x :: rest) e q = if x.kind == 0 || x.kind == 1 then wordEnd rest (e ++ x.text) (q || x.kind == 1) else none := by
    rw [hxe]; simp only [wordEnd]; rfl
   have htot : total (x :: rest) = x.text.length + total rest := rfl
   rw [hwe]
   simp -implicitDefEqProofs only [l22_19, p22_20, hlt, ia37 b 0 n' n' jx (by omega), z0, hb, hdc, hcells, hal, hset, SS, SU, Nat.reduceAdd, Nat.reduceLeDiff, Nat.reduceBEq, Nat.reduceMul]
   generalize h.alloc (.cells ⟨49, [.int .i64 (x.kind : Int), .string (mkS x.text), .string (mkS o), .bool q', .slice wa wn wc, .pointer none], true⟩) = h1 at *
   have good : (x.kind == 0 || x.kind == 1) = true → wp (p22_28 (cF (n + 1)) N (l22_19 (cF (n + 1)) N m) (Pt p) (.int .i64 (i : Int)) (Pt td) (.string (mkS e)) (Pt h.next) (.slice (some ⟨b, 0, none⟩) n' n') (.int .i64 (ps.length : Int)) (.int .i64 (jx : Int)) h1) (WordQ lo p l i j toks waits h (wordEnd rest (e ++ x.text) (q || x.kind == 1))) := by
    intro hk
    have k2 := k1.setx (.cells ⟨39, [.int .i64 3, .string (mkS []), .slice none 0 0, .bool (q || x.kind == 1), .int .i64 (i : Int)], true⟩) htd hlo hne.1 hne.2
    have hdoc2 : (h1.set td (.cells ⟨39, [.int .i64 3, .string (mkS []), .slice none 0 0, .bool (q || x.kind == 1), .int .i64 (i : Int)], true⟩)).blk td = some ⟨39, [.int .i64 3, .string (mkS []), .slice none 0 0, .bool (q || x.kind == 1), .int .i64 (i : Int)], true⟩ := blk_set_eq (Heap.blk_lt hdoc1)
    have hv2 : RepW (h1.set td (.cells ⟨39, [.int .i64 3, .string (mkS []), .slice none 0 0, .bool (q || x.kind == 1), .int .i64 (i : Int)], true⟩)).blk (Al lo X) (.slice (some ⟨b, 0, none⟩) n' n') ps := hv1.mono fun c y a ee => ⟨a, (blk_set_ne fun eq => a.2 (eq ▸ htd)).trans ee⟩
    have u2 : UnL lo p h (h1.set td (.cells ⟨39, [.int .i64 3, .string (mkS []), .slice none 0 0, .bool (q || x.kind == 1), .int .i64 (i : Int)], true⟩)) := u1.trans ⟨by rw [next_set]; exact Nat.le_refl _, fun c hc hn => blk_set_ne (by omega)⟩
    have hadd := bin_sadd E 9 e x.text (by unfold most; omega)
    have hnext := ih (jx + 1) (e ++ x.text) (q || x.kind == 1) _ X m hd' (by omega) (by simp; omega) (by omega) htd k2 hv2 hdoc2
    have hw1 : wrapA .i64 ((jx + 1 : Nat) : Int) = ((jx + 1 : Nat) : Int) := wrap_nat (jx + 1) (by omega)
    rcases b2 q with g | g
    ·subst g
     rw [Bool.true_or] at hnext u2
     simp -implicitDefEqProofs only [p22_28, ht10, hdoc1, hadd, p22_24, hw1, Bool.true_or, SS, SU, Nat.reduceAdd, Nat.reduceLeDiff, Nat.reduceBEq, Nat.reduceMul]
     exact wp_mono hnext fun r h' qq => WordQ.of u2 qq
    ·subst g
     rw [Bool.false_or] at hnext u2
     simp -implicitDefEqProofs only [p22_28, ht10, hdoc1, hadd, e1', p22_24, hw1, Bool.false_or, SS, SU, Nat.reduceAdd, Nat.reduceLeDiff, Nat.reduceBEq, Nat.reduceMul]
     exact wp_mono hnext fun r h' qq => WordQ.of u2 qq
   rcases b2 (x.kind == 0) with g0 | g0
   ·have g0' : (x.kind != 0) = false := by simp [bne, g0]
    have hg2 := good (by rw [g0]; rfl)
    simp -implicitDefEqProofs only [p22_27, ht10, e0, g0', SS, SU, Nat.reduceAdd, Nat.reduceLeDiff, Nat.reduceBEq, Nat.reduceMul]
    rw [if_pos (by rw [g0]; rfl)]
    exact hg2
   ·have g0' : (x.kind != 0) = true := by simp [bne, g0]
    rcases b2 (x.kind == 1) with g1 | g1
    ·have g1' : (x.kind != 1) = false := by simp [bne, g1]
     have hg2 := good (by rw [g0, g1]; rfl)
     simp -implicitDefEqProofs only [p22_27, ht10, e0, g0', e1, g1', SS, SU, Nat.reduceAdd, Nat.reduceLeDiff, Nat.reduceBEq, Nat.reduceMul]
     rw [if_pos (by rw [g1]; simp)]
     exact hg2
    ·have g1' : (x.kind != 1) = true := by simp [bne, g1]
     simp -implicitDefEqProofs only [p22_27, ht10, e0, g0', e1, g1', fail_19, SS, SU, Nat.reduceAdd, Nat.reduceLeDiff, Nat.reduceBEq, Nat.reduceMul]
     rw [if_neg (by rw [g0, g1]; simp)]
     exact wp_some.2 (BadL.of u1 ((fail_bad (p := p) 0 19 i).l k1.c2))
def wordRes (toks : List Tok) (waits : List (Nat × Bs)) (i : Nat) (ps : List Part) : Option (List Tok × List (Nat × Bs)) :=
 if announces toks then match wordEnd ps [] false with
  | none => none
  | some (e, q) => some (toks ++ [⟨0, [], ps, false, i⟩] ++ [⟨3, [], [], q, i⟩], waits ++ [(toks.length + 1, e)])
 else some (toks ++ [⟨0, [], ps, false, i⟩], waits)
def WordR (lo p : Nat) (l : Bs) (i : Nat) (toks : List Tok) (waits : List (Nat × Bs)) (h : Heap) (res : Rz (List Part × Nat × Bs)) (r : Res) (h' : Heap) : Prop := match res with
 | .bad c a => BadL lo p h c a r h'
 | .ok (ps, j, r') => j ≤ l.length ∧ r' = l.drop j ∧ i ≤ j ∧ match wordRes toks waits i ps with
  | none => BadL lo p h 19 i r h'
  | some (toks', waits') => MarkQ lo p l j toks' waits' h r h'
theorem word_ok (hl : l.length ≤ 5000) (ht : toks.length ≤ 99999) (hw : waits.length ≤ 100000) (htx : ∀ t, t ∈ toks → t.text.length ≤ 5000) {f n : Nat} (hf : f < 100000000) (hn : 6 * f + 5030 ≤ n) (k : LS h lo X p l i toks waits tv wv cs) (hi : i < l.length) {res : Rz (List Part × Nat × Bs)} (hs : parts f 0 0 [] [] i (l.drop i) = some res) :
  wp (cF n 22 [Pt p] h) (WordR lo p l i toks waits h res) := by
 obtain ⟨n, rfl⟩ : ∃ n', n = n' + 3 := ⟨n - 3, by omega⟩
 rw [word_head (by omega) htx k]
 have hx := k.x
 have hcall := ((all_ok hl f hf).2.1) 0 0 i res (n + 2) h hs (by omega) hx (by omega) (by omega) (by omega)
 have e0 : ((0 : Nat) : Int) = 0 := rfl
 rw [e0] at hcall
 simp only [p22_4]
 refine wp_bindR hcall ?_ ?_
 ·intro v h2 q
  cases res with
  | bad a b => obtain ⟨_, b, e, _⟩ := q; cases e
  | ok y =>
   obtain ⟨ps, j, r'⟩ := y
   obtain ⟨v', e, hv, hx2, hj, rfl, hij, hpl, kk⟩ := q
   injection e with e; subst e
   have k2 := k.kp kk hx2
   have u2 := kk.unL k.c2
   have hn2 := kk.1
   have hv2 : RepW h2.blk (Al lo X) v ps := hv.mono fun b y a ee => by
    have a' : h.next ≤ b := a
    have := k.c2
    exact ⟨⟨by omega, fun hm => by have := k.c3 b hm; omega⟩, ee⟩
   obtain ⟨va, vn, vc, rfl⟩ := hv2.one
   have hset : ∀ (h2 : Heap) (cs cs' : List Value), (h2.alloc (.cells ⟨39, cs, true⟩)).set h2.next (.cells ⟨39, cs', true⟩) = h2.alloc (.cells ⟨39, cs', true⟩) := by
    intro h2 cs cs'
    exact put_lx ⟨h2.m, h2.next + 1⟩ h2.next (.cells ⟨39, cs, true⟩) (.cells ⟨39, cs', true⟩)
   have hal : ∀ (h2 : Heap) (cs : List Value), (h2.alloc (.cells ⟨39, cs, true⟩)).blk h2.next = some ⟨39, cs, true⟩ := fun h2 cs => blk_alloc_eq
   have k3 := k2.kp (Kp.alloc p h2 (.cells ⟨39, [.int .i64 0, .string (mkS []), .slice va vn vc, .bool false, .int .i64 (i : Int)], true⟩)) (alloc_lx hx2 _)
   have hn3 : (h2.alloc (.cells ⟨39, [.int .i64 0, .string (mkS []), .slice va vn vc, .bool false, .int .i64 (i : Int)], true⟩)).next = h2.next + 1 := rfl
   have u3 := u2.trans ((Kp.alloc p h2 (.cells ⟨39, [.int .i64 0, .string (mkS []), .slice va vn vc, .bool false, .int .i64 (i : Int)], true⟩)).unL k2.c2)
   have ht6 := hal h2 [.int .i64 0, .string (mkS []), .slice va vn vc, .bool false, .int .i64 (i : Int)]
   have hv3 : RepW (h2.alloc (.cells ⟨39, [.int .i64 0, .string (mkS []), .slice va vn vc, .bool false, .int .i64 (i : Int)], true⟩)).blk (Al lo X) (.slice va vn vc) ps := hv2.mono fun b y a ee => ⟨a, (blk_alloc_lt (Heap.blk_lt ee)).trans ee⟩
   have hx3 := k3.x
   simp -implicitDefEqProofs only [hset, hal, hx3, SS, SU, Nat.reduceAdd, Nat.reduceLeDiff, Nat.reduceBEq, Nat.reduceMul]
   have hlo2 := k2.c2
   generalize h2.alloc (.cells ⟨39, [.int .i64 0, .string (mkS []), .slice va vn vc, .bool false, .int .i64 (i : Int)], true⟩) = h3 at *
   have e5 : buildSliceA E 22 1 [(0, .agg ⟨[.int .i64 0, .string (mkS []), .slice va vn vc, .bool false, .int .i64 (i : Int)]⟩)] h3 = some (.slice (some ⟨h3.next, 0, none⟩) 1 1, h3.alloc (.cells ⟨39, [.int .i64 0, .string (mkS []), .slice va vn vc, .bool false, .int .i64 (i : Int)], true⟩)) := bs22_1 _ h3 rfl
   have k4 := k3.kp (Kp.alloc p h3 (.cells ⟨39, [.int .i64 0, .string (mkS []), .slice va vn vc, .bool false, .int .i64 (i : Int)], true⟩)) (alloc_lx hx3 _)
   have u4 := u3.trans ((Kp.alloc p h3 (.cells ⟨39, [.int .i64 0, .string (mkS []), .slice va vn vc, .bool false, .int .i64 (i : Int)], true⟩)).unL k3.c2)
   have hv4 : RepW (h3.alloc (.cells ⟨39, [.int .i64 0, .string (mkS []), .slice va vn vc, .bool false, .int .i64 (i : Int)], true⟩)).blk (Al lo X) (.slice va vn vc) ps := hv3.mono fun b y a ee => ⟨a, (blk_alloc_lt (Heap.blk_lt ee)).trans ee⟩
   have ht4 : (h3.alloc (.cells ⟨39, [.int .i64 0, .string (mkS []), .slice va vn vc, .bool false, .int .i64 (i : Int)], true⟩)).blk h2.next = some ⟨39, [.int .i64 0, .string (mkS []), .slice va vn vc, .bool false, .int .i64 (i : Int)], true⟩ := (blk_alloc_lt (by omega)).trans ht6
   have hn4 : (h3.alloc (.cells ⟨39, [.int .i64 0, .string (mkS []), .slice va vn vc, .bool false, .int .i64 (i : Int)], true⟩)).next = h3.next + 1 := rfl
   obtain ⟨h5, e6, hx5, hn5, hu5, hs5, hA5, hls⟩ := k4.tok (x := ⟨0, [], ps, false, i⟩) (w := .slice va vn vc) (sb := h3.next) hv4 blk_alloc_eq (by omega)
   have hA2 : Al lo X h2.next := ⟨hlo2, fun hm => by have := k2.c3 _ hm; omega⟩
   have ht5 : h5.blk h2.next = some ⟨39, [.int .i64 0, .string (mkS []), .slice va vn vc, .bool false, .int .i64 (i : Int)], true⟩ := (hA5 _ _ hA2 ht4).2
   have k6 := hls j
   have hp := k.c1
   have hv6 : RepW (h5.set p (.cells (lxB l j (.slice (some ⟨(h3.alloc (.cells ⟨39, [.int .i64 0, .string (mkS []), .slice va vn vc, .bool false, .int .i64 (i : Int)], true⟩)).next, 0, none⟩) (toks.length + 1) (toks.length + 1)) wv))).blk (Al lo ((h3.alloc (.cells ⟨39, [.int .i64 0, .string (mkS []), .slice va vn vc, .bool false, .int .i64 (i : Int)], true⟩)).next :: X)) (.slice va vn vc) ps := hv4.mono fun b y a ee => by
    obtain ⟨a', e'⟩ := hA5 b y a ee
    exact ⟨a', (blk_set_ne (by have := a.1; omega)).trans e'⟩
   have ht6' : (h5.set p (.cells (lxB l j (.slice (some ⟨(h3.alloc (.cells ⟨39, [.int .i64 0, .string (mkS []), .slice va vn vc, .bool false, .int .i64 (i : Int)], true⟩)).next, 0, none⟩) (toks.length + 1) (toks.length + 1)) wv))).blk h2.next = some ⟨39, [.int .i64 0, .string (mkS []), .slice va vn vc, .bool false, .int .i64 (i : Int)], true⟩ := (blk_set_ne (by omega)).trans ht5
   have u6 : UnL lo p h (h5.set p (.cells (lxB l j (.slice (some ⟨(h3.alloc (.cells ⟨39, [.int .i64 0, .string (mkS []), .slice va vn vc, .bool false, .int .i64 (i : Int)], true⟩)).next, 0, none⟩) (toks.length + 1) (toks.length + 1)) wv))) := u4.trans ⟨by rw [next_set]; omega, fun b hb hn => (blk_set_ne hn).trans (hu5 b hb)⟩
   simp -implicitDefEqProofs only [e5, e6, hx5, SS, SU, Nat.reduceAdd, Nat.reduceLeDiff, Nat.reduceBEq, Nat.reduceMul]
   generalize (h5.set p (.cells (lxB l j (.slice (some ⟨(h3.alloc (.cells ⟨39, [.int .i64 0, .string (mkS []), .slice va vn vc, .bool false, .int .i64 (i : Int)], true⟩)).next, 0, none⟩) (toks.length + 1) (toks.length + 1)) wv))) = h6 at *
   refine ?_
   rcases b2 (announces toks) with g | g
   ·
    have k7 := k6.excl (.cells ⟨39, [.int .i64 3, .string (mkS []), .slice none 0 0, .bool false, .int .i64 (i : Int)], true⟩)
    have hne := k6.tv_lt (Nat.le_refl h6.next)
    have u7 := u6.trans ((Kp.alloc p h6 (.cells ⟨39, [.int .i64 3, .string (mkS []), .slice none 0 0, .bool false, .int .i64 (i : Int)], true⟩)).unL k6.c2)
    have hv7 : RepW (h6.alloc (.cells ⟨39, [.int .i64 3, .string (mkS []), .slice none 0 0, .bool false, .int .i64 (i : Int)], true⟩)).blk (Al lo (h6.next :: (h3.alloc (.cells ⟨39, [.int .i64 0, .string (mkS []), .slice va vn vc, .bool false, .int .i64 (i : Int)], true⟩)).next :: X)) (.slice va vn vc) ps := hv6.mono fun b y a ee => by
     have hb := Heap.blk_lt ee
     refine ⟨⟨a.1, ?_⟩, (blk_alloc_lt hb).trans ee⟩
     simp only [List.mem_cons, not_or]
     have h2 := a.2
     simp only [List.mem_cons, not_or] at h2
     exact ⟨by omega, h2.1, h2.2⟩
    have hd7 := hal h6 [.int .i64 3, .string (mkS []), .slice none 0 0, .bool false, .int .i64 (i : Int)]
    have ht7 : (h6.alloc (.cells ⟨39, [.int .i64 3, .string (mkS []), .slice none 0 0, .bool false, .int .i64 (i : Int)], true⟩)).blk h2.next = some ⟨39, [.int .i64 0, .string (mkS []), .slice va vn vc, .bool false, .int .i64 (i : Int)], true⟩ := (blk_alloc_lt (Heap.blk_lt ht6')).trans ht6'
    have hlen : vn = ps.length := by
     cases hv with
     | nil => rfl
     | some _ _ _ _ _ _ _ hm _ => exact hm
    subst hlen
    have hps := (parts_len f).1 _ _ _ _ _ _ _ _ _ hs
    simp only [total, List.length_nil, Nat.zero_add, Nat.add_zero] at hps
    have hdl : (l.drop i).length ≤ 5000 := by simp; omega
    have hpc : ps.length ≤ 5000 := by omega
    have hloop := word_loop (i := i) (n := n + 1) (N := n + 2) (v := .slice va ps.length vc) (td := h6.next) (j := j) (by simp; omega) hw (show ps.length ≤ 100000 by omega) k6.c2 hne ps 0 [] false _ _ (n + 2) (List.drop_zero) (by omega) (by simp; omega) (by omega) List.mem_cons_self k7 hv7 hd7
    simp -implicitDefEqProofs only [g, hset, hal, ht7, p22_18, SS, SU, Nat.reduceAdd, Nat.reduceLeDiff, Nat.reduceBEq, Nat.reduceMul]
    refine wp_mono hloop fun r h' q => ⟨hj, rfl, hij, ?_⟩
    have q' := WordQ.of u7 q
    unfold wordRes
    rw [g, if_pos rfl]
    cases hwe : wordEnd ps [] false with
    | none => rw [hwe] at q'; exact q'
    | some x =>
     obtain ⟨e, qq⟩ := x
     rw [hwe] at q'
     have : (toks ++ [(⟨0, [], ps, false, i⟩ : Tok)]).length = toks.length + 1 := by simp
     simp only
     rw [← this]
     exact q'
   ·simp -implicitDefEqProofs only [g, SS, SU, Nat.reduceAdd, Nat.reduceLeDiff, Nat.reduceBEq, Nat.reduceMul]
    refine wp_some.2 ⟨hj, rfl, hij, ?_⟩
    unfold wordRes
    rw [g]
    exact ⟨rfl, u6, _, _, _, _, k6⟩
 ·intro v h2 q
  cases res with
  | ok y => obtain ⟨ps, j, r'⟩ := y; obtain ⟨v', e, _⟩ := q; cases e
  | bad a b => exact wp_some.2 (q.l k.c2)
end
end Go.Proofs.YteekjekckgpbfaaDoor.Abs
end
section
namespace Go.Proofs.YteekjekckgpbfaaDoor.Abs
open Sp
attribute [local congr] bindO_congr bindR_congr condV_congr wp_congr
theorem putL_set (cs : List Value) (off : Nat) (v : Value) (h : off < cs.length) : putL cs off [v] = cs.set off v := by
 unfold putL
 rw [List.set_eq_take_append_cons_drop, if_pos h]
 simp
theorem RepT.setText {g : Nat → Option Blk} {A : Nat → Prop} {cs : List Value} {ts : List Tok} (h : RepT g A cs ts) (text : Bs) : ∀ {k : Nat} {x : Tok}, ts[k]? = some x → RepT g A (cs.set (k * 5 + 1) (.string (mkS text))) (ts.set k { x with text := text }) := by
 induction h with
 | nil => intro k x hk; cases hk
 | cons a t ps q b w cs ts hw hl ih =>
  intro k x hk
  cases k with
  | zero =>
   simp at hk; subst hk
   exact .cons _ _ _ _ _ _ _ _ hw hl
  | succ k =>
   simp at hk
   have := ih hk
   rw [show (k + 1) * 5 + 1 = k * 5 + 1 + 1 + 1 + 1 + 1 + 1 by omega]
   simp only [List.set_cons_succ]
   exact .cons _ _ _ _ _ _ _ _ hw this
theorem RepT.setParts {g : Nat → Option Blk} {A : Nat → Prop} {cs : List Value} {ts : List Tok} (h : RepT g A cs ts) {v : Value} {qs : List Part} (hv : RepW g A v qs) : ∀ {k : Nat} {x : Tok}, ts[k]? = some x → RepT g A (cs.set (k * 5 + 2) v) (ts.set k { x with parts := qs }) := by
 induction h with
 | nil => intro k x hk; cases hk
 | cons a t ps q b w cs ts hw hl ih =>
  intro k x hk
  cases k with
  | zero =>
   simp at hk; subst hk
   exact .cons _ _ _ _ _ _ _ _ hv hl
  | succ k =>
   simp at hk
   have := ih hk
   rw [show (k + 1) * 5 + 2 = k * 5 + 2 + 1 + 1 + 1 + 1 + 1 by omega]
   simp only [List.set_cons_succ]
   exact .cons _ _ _ _ _ _ _ _ hw this
section
variable {h : Heap} {lo : Nat} {X : List Nat} {p : Nat} {l : Bs} {i : Nat} {toks : List Tok} {waits : List (Nat × Bs)} {tv wv : Value} {cs : List Value}
theorem LS.blk (k : LS h lo X p l i toks waits tv wv cs) (hn : 0 < toks.length) : ∃ tb, tv = .slice (some ⟨tb, 0, none⟩) toks.length toks.length ∧ h.blk tb = some ⟨39, cs, true⟩ ∧ tb ∈ X ∧ lo ≤ tb ∧ cs.length = toks.length * 5 := by
 rcases k.t with ⟨_, _, h0⟩ | ⟨b, e, _, hb, hl, hx, hlo⟩
 ·omega
 ·exact ⟨b, e, hb, hx, hlo, hl⟩
theorem LS.setCells {tb : Nat} {cs' : List Value} {toks' : List Tok} (k : LS h lo X p l i toks waits (.slice (some ⟨tb, 0, none⟩) toks.length toks.length) wv cs) (hn : 0 < toks.length) (hb : h.blk tb = some ⟨39, cs, true⟩) (hx : tb ∈ X) (hlo : lo ≤ tb) (hl : cs'.length = cs.length) (ht : toks'.length = toks.length) (hr : RepT h.blk (Al lo X) cs' toks') :
  LS (h.set tb (.cells ⟨39, cs', true⟩)) lo X p l i toks' waits (.slice (some ⟨tb, 0, none⟩) toks.length toks.length) wv cs' := by
 have hp := k.c1
 refine ⟨(blk_set_ne (by omega)).trans k.x, ?_, hr.mono fun c y a e => ⟨a, (blk_set_ne fun eq => a.2 (eq ▸ hx)).trans e⟩, ?_, k.c1, k.c2, k.c3⟩
 ·obtain ⟨_, hl2⟩ := k.t.len
  exact .inr ⟨tb, by rw [ht], by omega, blk_set_eq (Heap.blk_lt hb), by rw [hl, hl2, ht], hx, hlo⟩
 ·refine k.w.keep (fun b hb' e => (blk_set_ne fun eq => ?_).trans e) fun _ h => h
  subst eq
  rw [hb] at e
  injection e with e
  injection e with e
  exact absurd e (by decide)
theorem LS.kpx {h' : Heap} (k : LS h lo X p l i toks waits tv wv cs) {q : Nat} (hq : q ∈ X) (hlo : lo ≤ q) (ht : ∀ n, tv ≠ .slice (some ⟨q, 0, none⟩) n n) (hw : ∀ n, wv ≠ .slice (some ⟨q, 0, none⟩) n n) (kk : Kp q h h') : LS h' lo X p l i toks waits tv wv cs := by
 have hp := k.c1
 have st : ∀ b y, h.blk b = some y → b ≠ q → h'.blk b = some y := fun b y e hn => kk.st e hn
 refine ⟨st _ _ k.x (by omega), ?_, k.r.mono fun c y a e => ⟨a, st _ _ e fun eq => a.2 (eq ▸ hq)⟩, ?_, k.c1, Nat.le_trans k.c2 kk.1, fun x hx => Nat.lt_of_lt_of_le (k.c3 x hx) kk.1⟩
 ·rcases k.t with h1 | ⟨c, e, hn, hc, hl, hx, hlc⟩
  ·exact .inl h1
  ·exact .inr ⟨c, e, hn, st _ _ hc fun eq => ht toks.length (by rw [e, eq]), hl, hx, hlc⟩
 ·rcases k.w with h1 | ⟨c, e, hn, hc, hl, hx, hlc⟩
  ·exact .inl h1
  ·exact .inr ⟨c, e, hn, st _ _ hc fun eq => hw waits.length (by rw [e, eq]), hl, hx, hlc⟩
def DocR (lo p : Nat) (l : Bs) (i : Nat) (toks : List Tok) (waits : List (Nat × Bs)) (k : Nat) (t : Tok) (f : Nat) (wv : Value) (h : Heap) (res : Rz (Bs × Nat × Bs)) (r : Res) (h' : Heap) : Prop := match res with
 | .bad c a => BadL lo p h c a r h'
 | .ok (text, j, r') => j ≤ l.length ∧ r' = l.drop j ∧ i ≤ j ∧
  ((t.quoted = true ∧ r = .ret (.tuple ⟨[]⟩) ∧ UnL lo p h h' ∧ ∃ X tv cs, LS h' lo X p l j (toks.set k { t with text := text }) waits tv wv cs) ∨
   (t.quoted = false ∧ ∀ rp, parts f 2 0 [] [] i text = some rp → match rp with
   | .bad c a => BadL lo p h c a r h'
   | .ok (ps, _, _) => r = .ret (.tuple ⟨[]⟩) ∧ UnL lo p h h' ∧ ∃ X tv cs, LS h' lo X p l j (toks.set k { t with text := text, parts := ps }) waits tv wv cs))
theorem doc_found (hl : l.length ≤ 5000) {k0 i0 st j f n N m : Nat} {t : Tok} {last : Bs} {wb : Nat} {F : Value → Value → Value → Heap → Ans} (hf : f < 100000000) (hn : 6 * f + 5030 ≤ n) (k : LS h lo X p l j toks waits tv wv cs) (hj : j ≤ l.length) (hwb : h.blk wb = some ⟨89, [.int .i64 (k0 : Int), .string (mkS last)], true⟩)
  (hk : toks[k0]? = some t) (hi : i0 ≤ st) (hst : st ≤ j) (hsp : ∃ rp, t.quoted = true ∨ parts f 2 0 [] [] i0 ((l.drop i0).take (st - i0)) = some rp) (hr' : l.drop j = l.drop j) (htot : toks.length ≤ 1000000) :
  wp (p45_10 (cF n) N F (Pt p) (Pt wb) (.int .i64 (i0 : Int)) (.int .i64 (st : Int)) (.string (mkS last)) h) (DocR lo p l i0 toks waits k0 t f wv h (.ok ((l.drop i0).take (st - i0), j, l.drop j))) := by
 have hk0 : k0 < toks.length := by
  rcases Nat.lt_or_ge k0 toks.length with h | h
  ·exact h
  ·simp [h] at hk
 have hx := k.x
 have hp := k.c1
 obtain ⟨tb, rfl, hb, htx, htlo, hcl⟩ := k.blk (by omega)
 obtain ⟨w, hw, g0, g1, g2, g3, g4, _⟩ := k.r.get hk
 obtain ⟨wa, wn, wc, rfl⟩ := hw.one
 have hsv := sl9_lh l i0 st h hi (by omega)
 have hne : (!(last == last)) = false := by simp
 have z0 : 0 + k0 * 5 = k0 * 5 := by omega
 have hlen1 : decide (k0 * 5 + 1 + 1 ≤ cs.length) = true := decide_eq_true (by omega)
 have hput : putL cs (k0 * 5 + 1) [.string (mkS ((l.drop i0).take (st - i0)))] = cs.set (k0 * 5 + 1) (.string (mkS ((l.drop i0).take (st - i0)))) := putL_set _ _ _ (by omega)
 have k2 := k.setCells (cs' := cs.set (k0 * 5 + 1) (.string (mkS ((l.drop i0).take (st - i0))))) (toks' := toks.set k0 { t with text := (l.drop i0).take (st - i0) }) (by omega) hb htx htlo (by simp) (by simp) (k.r.setText _ hk)
 have hb2 : (h.set tb (.cells ⟨39, cs.set (k0 * 5 + 1) (.string (mkS ((l.drop i0).take (st - i0)))), true⟩)).blk tb = some ⟨39, cs.set (k0 * 5 + 1) (.string (mkS ((l.drop i0).take (st - i0)))), true⟩ := blk_set_eq (Heap.blk_lt hb)
 have g3' : (cs.set (k0 * 5 + 1) (.string (mkS ((l.drop i0).take (st - i0)))))[k0 * 5 + 3]? = some (.bool t.quoted) := by
  rw [List.getElem?_set_ne (by omega)]; exact g3
 have u2 : UnL lo p h (h.set tb (.cells ⟨39, cs.set (k0 * 5 + 1) (.string (mkS ((l.drop i0).take (st - i0)))), true⟩)) := ⟨by rw [next_set]; exact Nat.le_refl _, fun b hb hn => blk_set_ne (by omega)⟩
 simp -implicitDefEqProofs only [p45_10, hwb, hne, hx, ia22 tb 0 toks.length toks.length k0 hk0, z0, hsv, hb, hlen1, hput, hb2, g3', SS, SU, Nat.reduceAdd, Nat.reduceLeDiff, Nat.reduceBEq, Nat.reduceMul]
 generalize h.set tb (.cells ⟨39, cs.set (k0 * 5 + 1) (.string (mkS ((l.drop i0).take (st - i0)))), true⟩) = h2 at *
 rcases b2 t.quoted with q | q
 ·simp -implicitDefEqProofs only [q, p45_18, SS, SU, Nat.reduceAdd, Nat.reduceLeDiff, Nat.reduceBEq, Nat.reduceMul]
  exact wp_some.2 ⟨hj, rfl, by omega, .inl ⟨q, rfl, u2, _, _, _, k2⟩⟩
 ·obtain ⟨rp, hsp⟩ := hsp
  rcases hsp with hsp | hsp
  ·rw [q] at hsp; cases hsp
  ·have hx2 := k2.x
   have hsv2 := sl9_hi l st h2 (by omega)
   have hbox : boxA 57 (.agg ⟨[.string (mkS (l.take st)), .int .i64 (i0 : Int), .slice none 0 0, .slice none 0 0]⟩) h2 = (.pointer (some ⟨h2.next, 0, none⟩), h2.alloc (.cells ⟨57, [.string (mkS (l.take st)), .int .i64 (i0 : Int), .slice none 0 0, .slice none 0 0], true⟩)) := rfl
   have hne2 := k2.tv_lt (Nat.le_refl h2.next)
   have k3 := k2.excl (.cells ⟨57, [.string (mkS (l.take st)), .int .i64 (i0 : Int), .slice none 0 0, .slice none 0 0], true⟩)
   have u3 := u2.trans ((Kp.alloc p h2 (.cells ⟨57, [.string (mkS (l.take st)), .int .i64 (i0 : Int), .slice none 0 0, .slice none 0 0], true⟩)).unL k2.c2)
   have hxi : LX (h2.alloc (.cells ⟨57, [.string (mkS (l.take st)), .int .i64 (i0 : Int), .slice none 0 0, .slice none 0 0], true⟩)) h2.next (l.take st) i0 (.slice none 0 0) (.slice none 0 0) := blk_alloc_eq
   have hb3 : (h2.alloc (.cells ⟨57, [.string (mkS (l.take st)), .int .i64 (i0 : Int), .slice none 0 0, .slice none 0 0], true⟩)).blk tb = some ⟨39, cs.set (k0 * 5 + 1) (.string (mkS ((l.drop i0).take (st - i0)))), true⟩ := (blk_alloc_lt (Heap.blk_lt hb2)).trans hb2
   have htn : tb < h2.next := Heap.blk_lt hb2
   have hpn : p < h2.next := blk_lt' hx2
   have hlo2 := k2.c2
   have hn3 : (h2.alloc (.cells ⟨57, [.string (mkS (l.take st)), .int .i64 (i0 : Int), .slice none 0 0, .slice none 0 0], true⟩)).next = h2.next + 1 := rfl
   simp -implicitDefEqProofs only [q, p45_18, hx2, hsv2, hbox, SS, SU, Nat.reduceAdd, Nat.reduceLeDiff, Nat.reduceBEq, Nat.reduceMul]
   generalize h2.alloc (.cells ⟨57, [.string (mkS (l.take st)), .int .i64 (i0 : Int), .slice none 0 0, .slice none 0 0], true⟩) = h3 at *
   have htk : (l.take st).drop i0 = (l.drop i0).take (st - i0) := by rw [List.drop_take]
   have hcall := (all_ok (l := l.take st) (p := h2.next) (tk := .slice none 0 0) (wt := .slice none 0 0) (by simp; omega) f hf).2.1 2 0 i0 rp n h3 (by rw [htk]; exact hsp) (by simp; omega) hxi (by omega) (by omega) (by omega)
   have ec : ((2 : Nat) : Int) = 2 := rfl
   have ec0 : ((0 : Nat) : Int) = 0 := rfl
   rw [ec, ec0] at hcall
   refine wp_bindR hcall ?_ ?_
   ·intro v h4 qq
    cases rp with
    | bad a b => obtain ⟨_, b, e, _⟩ := qq; cases e
    | ok y =>
     obtain ⟨ps, jj, r'⟩ := y
     obtain ⟨v', e, hv, _, _, _, _, _, kk⟩ := qq
     injection e with e; subst e
     obtain ⟨va, vn, vc, rfl⟩ := hv.one
     have k4 := k3.kpx List.mem_cons_self hlo2 hne2.1 hne2.2 kk
     have hb4 := kk.st hb3 (by omega)
     have u4 : UnL lo p h h4 := u3.trans ⟨kk.1, fun c hc hn => kk.2 c (by omega) (by omega)⟩
     have hv4 : RepW h4.blk (Al lo (h2.next :: X)) (.slice va vn vc) ps := hv.mono fun b y a e => by
      have a' : h3.next ≤ b := a
      exact ⟨⟨by omega, fun hm => by have := k3.c3 b hm; omega⟩, e⟩
     have hk4 : (toks.set k0 { t with text := (l.drop i0).take (st - i0) })[k0]? = some { t with text := (l.drop i0).take (st - i0) } := by simp [hk0]
     have hlen2 : decide (k0 * 5 + 2 + 1 ≤ (cs.set (k0 * 5 + 1) (.string (mkS ((l.drop i0).take (st - i0))))).length) = true := decide_eq_true (by simp; omega)
     have hput2 : putL (cs.set (k0 * 5 + 1) (.string (mkS ((l.drop i0).take (st - i0))))) (k0 * 5 + 2) [.slice va vn vc] = (cs.set (k0 * 5 + 1) (.string (mkS ((l.drop i0).take (st - i0))))).set (k0 * 5 + 2) (.slice va vn vc) := putL_set _ _ _ (by simp; omega)
     have hlt : (toks.set k0 { t with text := (l.drop i0).take (st - i0) }).length = toks.length := by simp
     have k4' : LS h4 lo (h2.next :: X) p l j (toks.set k0 { t with text := (l.drop i0).take (st - i0) }) waits (.slice (some ⟨tb, 0, none⟩) (toks.set k0 { t with text := (l.drop i0).take (st - i0) }).length (toks.set k0 { t with text := (l.drop i0).take (st - i0) }).length) wv (cs.set (k0 * 5 + 1) (.string (mkS ((l.drop i0).take (st - i0))))) := by rw [hlt]; exact k4
     have k5 := k4'.setCells (cs' := (cs.set (k0 * 5 + 1) (.string (mkS ((l.drop i0).take (st - i0))))).set (k0 * 5 + 2) (.slice va vn vc)) (toks' := (toks.set k0 { t with text := (l.drop i0).take (st - i0) }).set k0 { t with text := (l.drop i0).take (st - i0), parts := ps }) (by simp; omega) hb4 (List.mem_cons_of_mem _ htx) htlo (by simp) (by simp) (k4.r.setParts hv4 hk4)
     have u5 : UnL lo p h (h4.set tb (.cells ⟨39, (cs.set (k0 * 5 + 1) (.string (mkS ((l.drop i0).take (st - i0))))).set (k0 * 5 + 2) (.slice va vn vc), true⟩)) := u4.trans ⟨by rw [next_set]; exact Nat.le_refl _, fun b hb hn => blk_set_ne (by omega)⟩
     simp -implicitDefEqProofs only [hb4, hlen2, hput2, SS, SU, Nat.reduceAdd, Nat.reduceLeDiff, Nat.reduceBEq, Nat.reduceMul]
     refine wp_some.2 ⟨hj, rfl, by omega, .inr ⟨q, fun rp' hrp' => ?_⟩⟩
     rw [hsp] at hrp'
     injection hrp' with hrp'; subst hrp'
     rw [List.set_set] at k5
     exact ⟨rfl, u5, _, _, _, k5⟩
   ·intro v h4 qq
    cases rp with
    | ok y => obtain ⟨ps, jj, r'⟩ := y; obtain ⟨v', e, _⟩ := qq; cases e
    | bad a b =>
     have : BadL lo p h a b (.panic v) h4 := by
      obtain ⟨kk, bb, e, hbb, hfb⟩ := qq
      exact BadL.of u3 ⟨⟨kk.1, fun c hc hn => kk.2 c (by omega) (by omega)⟩, bb, e, hbb, hfb⟩
     refine wp_some.2 ⟨hj, rfl, by omega, .inr ⟨q, fun rp' hrp' => ?_⟩⟩
     rw [hsp] at hrp'
     injection hrp' with hrp'; subst hrp'
     exact this
theorem doc_loop (hl : l.length ≤ 5000) {k0 i0 f n N : Nat} {t : Tok} {last : Bs} {wb : Nat} (hf : f < 100000000) (hn : 6 * f + 5040 ≤ n) (hk : toks[k0]? = some t) (htot : toks.length ≤ 1000000) (hwl : wb ≠ p) : ∀ (g st m : Nat) (h : Heap) (cs : List Value) (tv : Value) (X : List Nat) (res : Rz (Bs × Nat × Bs)),
  docRows last g ((l.drop i0).take (st - i0)) st (l.drop st) = some res → i0 ≤ st → st ≤ l.length → LS h lo X p l st toks waits tv wv cs → h.blk wb = some ⟨89, [.int .i64 (k0 : Int), .string (mkS last)], true⟩ → g ≤ m →
  (∀ text j r', res = .ok (text, j, r') → t.quoted = true ∨ ∃ rp, parts f 2 0 [] [] i0 text = some rp) →
  wp (l45_3 (cF n) N m (Pt p) (Pt wb) (.int .i64 (i0 : Int)) h) (DocR lo p l i0 toks waits k0 t f wv h res) := by
 intro g
 induction g with
 | zero => intro st m h cs tv X res hs; simp [docRows] at hs
 | succ g ih =>
  intro st m h cs tv X res hs hi hst k hwb hm hsp
  obtain ⟨m, rfl⟩ : ∃ m', m = m' + 1 := ⟨m - 1, by omega⟩
  obtain ⟨n, rfl⟩ : ∃ n', n = n' + 10 := ⟨n - 10, by omega⟩
  have hx := k.x
  have hpn : p < h.next := blk_lt' hx
  simp only [docRows] at hs
  rcases b2 (decide (st < l.length)) with h1 | h1
  ·have hlt := of_decide_eq_true h1
   have hne : (l.drop st).isEmpty = false := by
    cases hd : l.drop st with
    | nil => have := congrArg List.length hd; simp at this; omega
    | cons => rfl
   have hle := row_le (l.drop st)
   have hdl : (l.drop st).length = l.length - st := by simp
   have hb1 : st + (row (l.drop st)).length < 9223372036854775808 := by omega
   have hb2 : st + (row (l.drop st)).length + 1 < 9223372036854775808 := by omega
   obtain ⟨bv, ecut⟩ := cut_eq (h := h) (n + 6) (l.drop st) (by omega)
   simp only [hne, Bool.false_eq_true, if_false] at hs
   have hj : st + min ((row (l.drop st)).length + 1) (l.drop st).length ≤ l.length := by omega
   have kj := k.mv (st + min ((row (l.drop st)).length + 1) (l.drop st).length)
   have uj : UnL lo p h (mv h p l (st + min ((row (l.drop st)).length + 1) (l.drop st).length) tv wv) := (Kp.set _ _ _).unL k.c2
   have hwbj : (mv h p l (st + min ((row (l.drop st)).length + 1) (l.drop st).length) tv wv).blk wb = some ⟨89, [.int .i64 (k0 : Int), .string (mkS last)], true⟩ := (blk_set_ne hwl).trans hwb
   have main : wp (p45_10 (cF (n + 10)) N (l45_3 (cF (n + 10)) N m) (Pt p) (Pt wb) (.int .i64 (i0 : Int)) (.int .i64 (st : Int)) (.string (mkS (row (l.drop st)))) (mv h p l (st + min ((row (l.drop st)).length + 1) (l.drop st).length) tv wv)) (DocR lo p l i0 toks waits k0 t f wv h res) := by
    have of' : ∀ {r : Res} {h' : Heap}, DocR lo p l i0 toks waits k0 t f wv (mv h p l (st + min ((row (l.drop st)).length + 1) (l.drop st).length) tv wv) res r h' → DocR lo p l i0 toks waits k0 t f wv h res r h' := by
     intro r h' q
     cases res with
     | bad a b => exact BadL.of uj q
     | ok y =>
      obtain ⟨text, j, r'⟩ := y
      obtain ⟨a1, a2, a3, a4⟩ := q
      refine ⟨a1, a2, a3, ?_⟩
      rcases a4 with ⟨b1, b2, b3, b4⟩ | ⟨b1, b2⟩
      ·exact .inl ⟨b1, b2, uj.trans b3, b4⟩
      ·refine .inr ⟨b1, fun rp hrp => ?_⟩
       have := b2 rp hrp
       cases rp with
       | bad a b => exact BadL.of uj this
       | ok y => exact ⟨this.1, uj.trans this.2.1, this.2.2⟩
    rcases b2 (row (l.drop st) == last) with g1 | g1
    ·have hrl : row (l.drop st) = last := by simpa using g1
     simp only [g1, if_true] at hs
     injection hs with hs
     subst hs
     rw [hrl] at kj hwbj hj of' ⊢
     have hdj : (l.drop st).drop (last.length + 1) = l.drop (st + min (last.length + 1) (l.drop st).length) := by
      rw [List.drop_drop]
      rcases Nat.lt_or_ge (l.drop st).length (last.length + 1) with c | c
      ·rw [Nat.min_eq_right (by omega), List.drop_of_length_le (by omega), List.drop_of_length_le (by omega)]
      ·rw [Nat.min_eq_left c]
     rw [hdj] at hsp of' ⊢
     have := doc_found (N := N) (F := l45_3 (cF (n + 10)) N m) (m := m) hl hf (n := n + 10) (by omega) kj hj hwbj hk hi (show st ≤ st + min (last.length + 1) (l.drop st).length by omega) (by
      rcases hsp _ _ _ rfl with c | ⟨rp, c⟩
      ·exact ⟨.bad 0 0, .inl c⟩
      ·exact ⟨rp, .inr c⟩) rfl htot
     exact wp_mono this fun r h' q => of' q
    ·simp only [g1, Bool.false_eq_true, if_false] at hs
     have hacc : (l.drop i0).take (st - i0) ++ (l.drop st).take ((row (l.drop st)).length + 1) = (l.drop i0).take (st + min ((row (l.drop st)).length + 1) (l.drop st).length - i0) := by
      have e1 : l.drop st = (l.drop i0).drop (st - i0) := by rw [List.drop_drop]; congr 1; omega
      have e2 : st + min ((row (l.drop st)).length + 1) (l.drop st).length - i0 = (st - i0) + min ((row (l.drop st)).length + 1) (l.drop st).length := by omega
      have h3 : ∀ (r : Bs) (a b : Nat), r.take (a + b) = r.take a ++ (r.drop a).take b := fun r a b => List.take_add
      rw [e2, h3 (l.drop i0), ← e1]
      congr 1
      rcases Nat.lt_or_ge (l.drop st).length ((row (l.drop st)).length + 1) with c | c
      ·rw [Nat.min_eq_right (by omega), List.take_of_length_le (by omega), List.take_of_length_le (by omega)]
      ·rw [Nat.min_eq_left c]
     have hdj : (l.drop st).drop ((row (l.drop st)).length + 1) = l.drop (st + min ((row (l.drop st)).length + 1) (l.drop st).length) := by
      rw [List.drop_drop]
      rcases Nat.lt_or_ge (l.drop st).length ((row (l.drop st)).length + 1) with c | c
      ·rw [Nat.min_eq_right (by omega), List.drop_of_length_le (by omega), List.drop_of_length_le (by omega)]
      ·rw [Nat.min_eq_left c]
     rw [hacc, hdj] at hs
     have hrec := ih _ m _ _ _ _ res hs (by omega) hj kj hwbj (by omega) hsp
     have hn1 : (!(row (l.drop st) == last)) = true := by rw [g1]; rfl
     simp -implicitDefEqProofs only [p45_10, hwbj, hn1, SS, SU, Nat.reduceAdd, Nat.reduceLeDiff, Nat.reduceBEq, Nat.reduceMul]
     exact wp_mono hrec fun r h' q => of' q
   have hxr := mv_lx (l := l) hpn (st + (row (l.drop st)).length) tv wv
   simp -implicitDefEqProofs only [l45_3, p45_4, more_eq (n + 9) hx, h1, p45_6, hx, sl9_lo l st h hst, ecut, wrap_nat (st + (row (l.drop st)).length) hb1, SS, SU, Nat.reduceAdd, Nat.reduceLeDiff, Nat.reduceBEq, Nat.reduceMul]
   rcases b2 (decide ((row (l.drop st)).length < (l.drop st).length)) with g2 | g2
   ·have := of_decide_eq_true g2
    rw [show st + min ((row (l.drop st)).length + 1) (l.drop st).length = st + (row (l.drop st)).length + 1 by omega] at main
    simp -implicitDefEqProofs only [g2, p45_22, hxr, wrap_nat (st + (row (l.drop st)).length + 1) hb2, put_lx, SS, SU, Nat.reduceAdd, Nat.reduceLeDiff, Nat.reduceBEq, Nat.reduceMul]
    exact main
   ·have := of_decide_eq_false g2
    rw [show st + min ((row (l.drop st)).length + 1) (l.drop st).length = st + (row (l.drop st)).length by omega] at main
    simp -implicitDefEqProofs only [g2, p45_22, SS, SU, Nat.reduceAdd, Nat.reduceLeDiff, Nat.reduceBEq, Nat.reduceMul]
    exact main
  ·have hge := of_decide_eq_false h1
   have hd : (l.drop st).isEmpty = true := by rw [List.drop_of_length_le (by omega)]; rfl
   simp only [hd, if_true] at hs
   injection hs with hs; subst hs
   have hsl : st = l.length := by omega
   simp -implicitDefEqProofs only [l45_3, p45_4, more_eq (n + 9) hx, h1, hx, fail_19, SS, SU, Nat.reduceAdd, Nat.reduceLeDiff, Nat.reduceBEq, Nat.reduceMul]
   rw [hsl]
   exact wp_some.2 ((fail_bad (p := p) 0 19 l.length).l k.c2)
end
end Go.Proofs.YteekjekckgpbfaaDoor.Abs
end
section
namespace Go.Proofs.YteekjekckgpbfaaDoor.Abs
open Sp
attribute [local congr] bindO_congr bindR_congr condV_congr wp_congr
section
variable {h : Heap} {lo : Nat} {X : List Nat} {p : Nat} {l : Bs} {i : Nat} {toks : List Tok} {waits : List (Nat × Bs)} {tv wv : Value} {cs : List Value}
theorem document_ok (hl : l.length ≤ 5000) {k0 f n : Nat} {t : Tok} {last : Bs} (hf : f < 5000) (hn : 6 * f + 5050 ≤ n) (hk : toks[k0]? = some t) (htot : toks.length ≤ 1000000) (k : LS h lo X p l i toks waits tv wv cs) (hi : i ≤ l.length) {res : Rz (Bs × Nat × Bs)}
  (hs : docRows last f [] i (l.drop i) = some res) (hsp : ∀ text j r', res = .ok (text, j, r') → t.quoted = true ∨ ∃ rp, parts f 2 0 [] [] i text = some rp) :
  wp (cF n 45 [Pt p, .agg ⟨[.int .i64 (k0 : Int), .string (mkS last)]⟩] h) (DocR lo p l i toks waits k0 t f wv h res) := by
 obtain ⟨n, rfl⟩ : ∃ n', n = n' + 1 := ⟨n - 1, by omega⟩
 have hpn : p < h.next := blk_lt' k.x
 have k2 := k.kp (Kp.alloc p h (.cells ⟨89, [.int .i64 (k0 : Int), .string (mkS last)], true⟩)) (alloc_lx k.x _)
 have u2 := (Kp.alloc p h (.cells ⟨89, [.int .i64 (k0 : Int), .string (mkS last)], true⟩)).unL k.c2
 have hwb : (h.alloc (.cells ⟨89, [.int .i64 (k0 : Int), .string (mkS last)], true⟩)).blk h.next = some ⟨89, [.int .i64 (k0 : Int), .string (mkS last)], true⟩ := blk_alloc_eq
 have hbox : boxA 89 (.agg ⟨[.int .i64 (k0 : Int), .string (mkS last)]⟩) h = (.pointer (some ⟨h.next, 0, none⟩), h.alloc (.cells ⟨89, [.int .i64 (k0 : Int), .string (mkS last)], true⟩)) := rfl
 have hx2 := k2.x
 rw [c45]
 simp -implicitDefEqProofs only [f45, p45_0, hbox, hx2, SS, SU, Nat.reduceAdd, Nat.reduceLeDiff, Nat.reduceBEq, Nat.reduceMul]
 generalize h.alloc (.cells ⟨89, [.int .i64 (k0 : Int), .string (mkS last)], true⟩) = h2 at *
 have e0 : (l.drop i).take (i - i) = [] := by rw [Nat.sub_self]; rfl
 have := doc_loop hl (f := f) (n := n) (N := n) (i0 := i) (last := last) (wb := h.next) (by omega) (by omega) hk htot (by omega) f i n h2 cs tv X res (by rw [e0]; exact hs) (Nat.le_refl _) hi k2 hwb (by omega) hsp
 refine wp_mono this fun r h' q => ?_
 cases res with
 | bad a b => exact BadL.of u2 q
 | ok y =>
  obtain ⟨text, j, r'⟩ := y
  obtain ⟨a1, a2, a3, a4⟩ := q
  refine ⟨a1, a2, a3, ?_⟩
  rcases a4 with ⟨b1, b2, b3, b4⟩ | ⟨b1, b2⟩
  ·exact .inl ⟨b1, b2, u2.trans b3, b4⟩
  ·refine .inr ⟨b1, fun rp hrp => ?_⟩
   have := b2 rp hrp
   cases rp with
   | bad a b => exact BadL.of u2 this
   | ok y => exact ⟨this.1, u2.trans this.2.1, this.2.2⟩
def DocsR (lo p : Nat) (l : Bs) (i : Nat) (h : Heap) (res : Rz (List Tok × Nat × Bs)) (r : Res) (h' : Heap) : Prop := match res with
 | .bad c a => BadL lo p h c a r h'
 | .ok (toks', j, r') => j ≤ l.length ∧ r' = l.drop j ∧ i ≤ j ∧ MarkQ lo p l j toks' [] h r h'
theorem DocsR.of {i' : Nat} {h1 : Heap} {res : Rz (List Tok × Nat × Bs)} {r : Res} {h' : Heap} (u : UnL lo p h h1) (hi : i ≤ i') (q : DocsR lo p l i' h1 res r h') : DocsR lo p l i h res r h' := by
 cases res with
 | bad a b => exact BadL.of u q
 | ok y => obtain ⟨t, j, r'⟩ := y; exact ⟨q.1, q.2.1, by have := q.2.2.1; omega, q.2.2.2.1, u.trans q.2.2.2.2.1, q.2.2.2.2.2⟩
theorem wait_get : ∀ {ws : List (Nat × Bs)} {j k : Nat} {e : Bs}, ws[j]? = some (k, e) → ((waitCells ws).drop (j * 2)).take 2 = [.int .i64 (k : Int), .string (mkS e)] ∧ j * 2 + 2 ≤ (waitCells ws).length := by
 intro ws
 induction ws with
 | nil => intro j k e h; cases h
 | cons x ws ih =>
  intro j k e h
  obtain ⟨xk, xe⟩ := x
  have hc : waitCells ((xk, xe) :: ws) = .int .i64 (xk : Int) :: .string (mkS xe) :: waitCells ws := rfl
  rw [hc]
  cases j with
  | zero => simp at h; obtain ⟨rfl, rfl⟩ := h; exact ⟨rfl, by simp⟩
  | succ j =>
   simp at h
   obtain ⟨h1, h2⟩ := ih h
   rw [show (j + 1) * 2 = j * 2 + 1 + 1 by omega]
   exact ⟨by simpa using h1, by simp; omega⟩
theorem docs_loop (hl : l.length ≤ 5000) {f n N : Nat} (hf : f < 5000) (hn : 6 * f + 5060 ≤ n) (htot : toks.length ≤ 1000000) (hw : waits.length ≤ 1000000) (hwk : ∀ x, x ∈ waits → x.1 < toks.length) : ∀ (rest : List (Nat × Bs)) (jx i m : Nat) (h : Heap) (cs : List Value) (tv : Value) (X : List Nat) (toks' : List Tok) (res : Rz (List Tok × Nat × Bs)),
  waits.drop jx = rest → jx ≤ waits.length → docs f rest toks' i (l.drop i) = some res → toks'.length = toks.length → i ≤ l.length → LS h lo X p l i toks' waits tv wv cs → waits.length - jx < m →
  wp (l19_14 (cF n) N m (Pt p) wv (.int .i64 (waits.length : Int)) (.int .i64 (jx : Int)) h) (DocsR lo p l i h res) := by
 intro rest
 induction rest with
 | nil =>
  intro jx i m h cs tv X toks' res hd hj hs hlen hi k hm
  obtain ⟨m, rfl⟩ : ∃ m', m = m' + 1 := ⟨m - 1, by omega⟩
  have hge : waits.length ≤ jx := by have := congrArg List.length hd; simp at this; omega
  have hlt : decide (jx < waits.length) = false := decide_eq_false (by omega)
  simp only [docs] at hs
  injection hs with hs; subst hs
  have hx := k.x
  simp -implicitDefEqProofs only [l19_14, p19_15, hlt, p19_9, hx, SS, SU, Nat.reduceAdd, Nat.reduceLeDiff, Nat.reduceBEq, Nat.reduceMul]
  refine wp_some.2 ⟨hi, rfl, Nat.le_refl _, rfl, (Kp.set _ _ _).unL k.c2, X, tv, .slice none 0 0, cs, ?_⟩
  have hp := k.c1
  exact ⟨blk_set_eq (blk_lt' hx), k.t.keep (fun b hb e => (blk_set_ne (by omega)).trans e) fun _ h => h, k.r.mono fun b y a e => ⟨a, (blk_set_ne (by have := a.1; omega)).trans e⟩, .inl ⟨rfl, rfl, rfl⟩, k.c1, k.c2, k.c3⟩
 | cons x rest ih =>
  intro jx i m h cs tv X toks' res hd hj hs hlen hi k hm
  obtain ⟨m, rfl⟩ : ∃ m', m = m' + 1 := ⟨m - 1, by omega⟩
  obtain ⟨k0, last⟩ := x
  have hlt0 : jx < waits.length := by have := congrArg List.length hd; simp at this; omega
  have hlt : decide (jx < waits.length) = true := decide_eq_true hlt0
  have hg : waits[jx]? = some (k0, last) := by
   have : (waits.drop jx)[0]? = some (k0, last) := by rw [hd]; rfl
   simpa using this
  have hd' : waits.drop (jx + 1) = rest := by rw [← List.drop_drop, hd]; rfl
  have hb1 : jx + 1 < 9223372036854775808 := by omega
  have hne : i ≤ l.length := hi
  simp only [docs] at hs
  rcases k.w with ⟨_, _, h0⟩ | ⟨b, rfl, hn0, hb, hcl, hx, hlo⟩
  ·omega
  ·obtain ⟨hcells, hclen⟩ := wait_get hg
   have hdc : decide (jx * 2 + 2 ≤ (waitCells waits).length) = true := decide_eq_true hclen
   have z0 : 0 + jx * 2 = jx * 2 := by omega
   have hset : ∀ cs cs', (h.alloc (.cells ⟨89, cs, true⟩)).set h.next (.cells ⟨89, cs', true⟩) = h.alloc (.cells ⟨89, cs', true⟩) := by
    intro cs cs'
    exact put_lx ⟨h.m, h.next + 1⟩ h.next (.cells ⟨89, cs, true⟩) (.cells ⟨89, cs', true⟩)
   have hal : ∀ cs, (h.alloc (.cells ⟨89, cs, true⟩)).blk h.next = some ⟨89, cs, true⟩ := fun cs => blk_alloc_eq
   have k1 := k.kp (Kp.alloc p h (.cells ⟨89, [.int .i64 (k0 : Int), .string (mkS last)], true⟩)) (alloc_lx k.x _)
   have u1 := (Kp.alloc p h (.cells ⟨89, [.int .i64 (k0 : Int), .string (mkS last)], true⟩)).unL k.c2
   simp -implicitDefEqProofs only [l19_14, p19_15, hlt, ia55 b 0 waits.length waits.length jx hlt0, z0, hb, hdc, hcells, hal, hset, SS, SU, Nat.reduceAdd, Nat.reduceLeDiff, Nat.reduceBEq, Nat.reduceMul]
   generalize h.alloc (.cells ⟨89, [.int .i64 (k0 : Int), .string (mkS last)], true⟩) = h1 at *
   cases hdr : docRows last f [] i (l.drop i) with
   | none => rw [hdr] at hs; cases hs
   | some rd =>
    rw [hdr] at hs
    have hk0 : ∃ t, toks'[k0]? = some t := by
     have := hwk _ (List.mem_of_getElem? hg)
     exact ⟨toks'[k0]'(by simp only at this; omega), by simp⟩
    cases rd with
    | bad a b' =>
     simp only at hs
     injection hs with hs; subst hs
     have hcall : wp (cF n 45 [Pt p, .agg ⟨[.int .i64 (k0 : Int), .string (mkS last)]⟩] h1) (BadL lo p h1 a b') := by
      obtain ⟨t, ht⟩ := hk0
      exact document_ok hl hf (n := n) (by omega) ht (by omega) k1 hi hdr (fun text j r' e => by cases e)
     refine wp_bindR hcall ?_ ?_
     ·intro v h2 q
      obtain ⟨_, bb, e, _⟩ := q; cases e
     ·intro v h2 q
      exact wp_some.2 (BadL.of u1 q)
    | ok y =>
     obtain ⟨text, j, r'⟩ := y
     obtain ⟨t, ht⟩ := hk0
     simp only [ht] at hs
     have hsp : ∀ text' j' r'', Rz.ok (text, j, r') = .ok (text', j', r'') → t.quoted = true ∨ ∃ rp, parts f 2 0 [] [] i text' = some rp := by
      intro text' j' r'' e
      injection e with e; injection e with e1 e2
      subst e1
      cases q : t.quoted with
      | true => exact .inl rfl
      | false =>
       simp only [q, Bool.false_eq_true, if_false] at hs
       cases hp : parts f 2 0 [] [] i text with
       | none => rw [hp] at hs; cases hs
       | some rp => exact .inr ⟨rp, rfl⟩
     have hcall := document_ok hl hf (n := n) (by omega) ht (by omega) k1 hi hdr hsp
     refine wp_bindR hcall ?_ ?_
     ·intro v h2 qq
      obtain ⟨a1, rfl, a3, a4⟩ := qq
      rcases a4 with ⟨b1, b2', b3, X2, tv2, cs2, k2⟩ | ⟨b1, b2'⟩
      ·rw [if_pos b1] at hs
       have := ih (jx + 1) j m h2 cs2 tv2 X2 _ res hd' (by omega) hs (by simp; exact hlen) a1 k2 (by omega)
       simp -implicitDefEqProofs only [wrap_nat (jx + 1) hb1, SS, SU, Nat.reduceAdd, Nat.reduceLeDiff, Nat.reduceBEq, Nat.reduceMul]
       exact wp_mono this fun r h' q => DocsR.of (u1.trans b3) a3 q
      ·rw [if_neg (by rw [b1]; decide)] at hs
       cases hp : parts f 2 0 [] [] i text with
       | none => rw [hp] at hs; cases hs
       | some rp =>
        have b2'' := b2' rp hp
        rw [hp] at hs
        cases rp with
        | bad a b' => obtain ⟨_, bb, e, _⟩ := b2''; cases e
        | ok z =>
         obtain ⟨ps, z1, z2⟩ := z
         obtain ⟨c1, c2, X2, tv2, cs2, k2⟩ := b2''
         simp only at hs
         have := ih (jx + 1) j m h2 cs2 tv2 X2 _ res hd' (by omega) hs (by simp; exact hlen) a1 k2 (by omega)
         simp -implicitDefEqProofs only [wrap_nat (jx + 1) hb1, SS, SU, Nat.reduceAdd, Nat.reduceLeDiff, Nat.reduceBEq, Nat.reduceMul]
         exact wp_mono this fun r h' q => DocsR.of (u1.trans c2) a3 q
     ·intro v h2 qq
      obtain ⟨a1, rfl, a3, a4⟩ := qq
      rcases a4 with ⟨b1, b2', _⟩ | ⟨b1, b2'⟩
      ·cases b2'
      ·rw [if_neg (by rw [b1]; decide)] at hs
       cases hp : parts f 2 0 [] [] i text with
       | none => rw [hp] at hs; cases hs
       | some rp =>
        have b2'' := b2' rp hp
        rw [hp] at hs
        cases rp with
        | ok z => obtain ⟨c1, _⟩ := b2''; cases c1
        | bad a b' =>
         simp only at hs
         injection hs with hs; subst hs
         exact wp_some.2 (BadL.of u1 b2'')
theorem line_no (n : Nat) {tk wt : Value} (hx : LX h p l i tk wt) (hi : i ≤ l.length) (hp : pre [10] (l.drop i) = false) : cF (n + 4) 19 [Pt p] h = some (.ret (.bool false), h) := by
 rw [c19]
 simp only [f19, p19_0, next_eq n hx [10] hi, hp, SS, SU, Nat.reduceAdd, Nat.reduceLeDiff, Nat.reduceBEq, Nat.reduceMul]
theorem line_yes (hl : l.length ≤ 5000) {f n : Nat} (hf : f < 5000) (hn : 6 * f + 5080 ≤ n) (htot : toks.length ≤ 50000) (hw : waits.length ≤ 5000) (hwk : ∀ x, x ∈ waits → x.1 < toks.length) (k : LS h lo X p l i toks waits tv wv cs) (hi : i < l.length) (hp : pre [10] (l.drop i) = true) {res : Rz (List Tok × Nat × Bs)}
  (hs : docs f waits (toks ++ [⟨2, [], [], false, i⟩]) (i + 1) (l.drop (i + 1)) = some res) : wp (cF n 19 [Pt p] h) (DocsR lo p l i h res) := by
 obtain ⟨n, rfl⟩ : ∃ n', n = n' + 8 := ⟨n - 8, by omega⟩
 have hx := k.x
 have e5 : buildSliceA E 22 1 [(0, .agg ⟨[.int .i64 2, .string (mkS []), .slice none 0 0, .bool false, .int .i64 (i : Int)]⟩)] h = some (.slice (some ⟨h.next, 0, none⟩) 1 1, h.alloc (.cells ⟨39, [.int .i64 2, .string (mkS []), .slice none 0 0, .bool false, .int .i64 (i : Int)], true⟩)) := bs22_1 _ h rfl
 have k4 := k.kp (Kp.alloc p h (.cells ⟨39, [.int .i64 2, .string (mkS []), .slice none 0 0, .bool false, .int .i64 (i : Int)], true⟩)) (alloc_lx hx _)
 have u4 := (Kp.alloc p h (.cells ⟨39, [.int .i64 2, .string (mkS []), .slice none 0 0, .bool false, .int .i64 (i : Int)], true⟩)).unL k.c2
 obtain ⟨h5, e6, hx5, hn5, hu5, _, _, hls⟩ := k4.tok (x := ⟨2, [], [], false, i⟩) (w := .slice none 0 0) (sb := h.next) .nil blk_alloc_eq (by omega)
 have k6 := hls (i + 1)
 have hb1 : i + 1 < 9223372036854775808 := by omega
 have u6 := u4.trans (show UnL lo p _ (h5.set p (.cells (lxB l (i + 1) (.slice (some ⟨(h.alloc (.cells ⟨39, [.int .i64 2, .string (mkS []), .slice none 0 0, .bool false, .int .i64 (i : Int)], true⟩)).next, 0, none⟩) (toks.length + 1) (toks.length + 1)) wv))) from ⟨by rw [next_set]; omega, fun b hb hn => (blk_set_ne hn).trans (hu5 b hb)⟩)
 have hxn : (h5.set p (.cells ⟨57, [.string (mkS l), .int .i64 (i : Int), .slice (some ⟨(h.alloc (.cells ⟨39, [.int .i64 2, .string (mkS []), .slice none 0 0, .bool false, .int .i64 (i : Int)], true⟩)).next, 0, none⟩) (toks.length + 1) (toks.length + 1), wv], true⟩)).blk p = some ⟨57, [.string (mkS l), .int .i64 (i : Int), .slice (some ⟨(h.alloc (.cells ⟨39, [.int .i64 2, .string (mkS []), .slice none 0 0, .bool false, .int .i64 (i : Int)], true⟩)).next, 0, none⟩) (toks.length + 1) (toks.length + 1), wv], true⟩ := blk_set_eq (blk_lt' hx5)
 obtain ⟨⟨wa, hwv⟩, _⟩ := k.w.len
 have lw : lenA E 55 wv = some (.int .i64 (waits.length : Int)) := by rw [hwv]; exact ln55 _ _ _
 rw [c19]
 simp only [f19, p19_0, next_eq (n + 4) hx [10] (by omega), hp, hx, e5, e6, hx5, hxn, wrap_nat (i + 1) hb1, put_lx, SS, SU, Nat.reduceAdd, Nat.reduceLeDiff, Nat.reduceBEq, Nat.reduceMul]
 have hx6 := k6.x
 generalize (h5.set p (.cells (lxB l (i + 1) (.slice (some ⟨(h.alloc (.cells ⟨39, [.int .i64 2, .string (mkS []), .slice none 0 0, .bool false, .int .i64 (i : Int)], true⟩)).next, 0, none⟩) (toks.length + 1) (toks.length + 1)) wv))) = h6 at *
 have hloop := docs_loop (toks := toks ++ [⟨2, [], [], false, i⟩]) hl (N := n + 7) hf (show 6 * f + 5060 ≤ n + 7 by omega) (by simp; omega) (by omega) (fun x hx => by have := hwk x hx; simp; omega) waits 0 (i + 1) (n + 7) h6 _ _ _ _ res (List.drop_zero) (by omega) hs rfl (by omega) k6 (by omega)
 simp -implicitDefEqProofs only [p19_8, hx6, lw, SS, SU, Nat.reduceAdd, Nat.reduceLeDiff, Nat.reduceBEq, Nat.reduceMul]
 exact wp_mono hloop fun r h' q => DocsR.of u6 (by omega) q
end
end Go.Proofs.YteekjekckgpbfaaDoor.Abs
end
section
namespace Go.Proofs.YteekjekckgpbfaaDoor.Abs
open Sp
attribute [local congr] bindO_congr bindR_congr condV_congr wp_congr
theorem neq_if (t : Nat) (v : Value) : binA E 20 .neq (.iface t v) .nilIface = some (.bool true) := by kernel_rfl
theorem neq_nil : binA E 20 .neq .nilIface .nilIface = some (.bool false) := by kernel_rfl
theorem as_fault (v : Value) : assertA E (.iface 51 v) 51 true = some (.tuple ⟨[v, .bool true]⟩) := by kernel_rfl
theorem skip_eq (i : Nat) (r : Bs) : skip i r = if pre [32] r || pre [9] r then skip (i + 1) (r.drop 1) else if pre [92, 10] r then skip (i + 2) (r.drop 2) else (i, r) := by
 match r with
 | [] => rfl
 | [c] =>
  rcases b2 (c == 32) with g1 | g1
  ·have : pre [32] [c] = true := by simpa [pre] using g1
   simp only [skip, g1, this, Bool.true_or, if_true]; rfl
  ·have p1 : pre [32] [c] = false := by simpa [pre] using g1
   rcases b2 (c == 9) with g2 | g2
   ·have : pre [9] [c] = true := by simpa [pre] using g2
    simp only [skip, g1, g2, p1, this, Bool.false_or, if_true]; rfl
   ·have p2 : pre [9] [c] = false := by simpa [pre] using g2
    have p3 : pre [92, 10] [c] = false := by simp [pre]
    simp only [skip, g1, g2, p1, p2, p3, Bool.false_or, Bool.false_eq_true, if_false]
    split <;> rfl
 | c :: d :: t =>
  rcases b2 (c == 32) with g1 | g1
  ·have : pre [32] (c :: d :: t) = true := by simpa [pre] using g1
   simp only [skip, g1, this, Bool.true_or, if_true]; rfl
  ·have p1 : pre [32] (c :: d :: t) = false := by simpa [pre] using g1
   rcases b2 (c == 9) with g2 | g2
   ·have : pre [9] (c :: d :: t) = true := by simpa [pre] using g2
    simp only [skip, g1, g2, p1, this, Bool.false_or, if_true]; rfl
   ·have p2 : pre [9] (c :: d :: t) = false := by simpa [pre] using g2
    have p3 : pre [92, 10] (c :: d :: t) = (c == 92 && d == 10) := by
     simp only [pre, List.length_cons, List.length_nil, List.take_succ_cons, List.take_zero]
     rw [Bool.eq_iff_iff]; simp
    rcases b2 (c == 92) with g3 | g3
    ·rcases b2 (d == 10) with g4 | g4
     ·simp only [skip, g1, g2, g3, g4, p1, p2, p3, Bool.false_or, Bool.false_eq_true, if_false, if_true, Bool.and_true]; rfl
     ·simp only [skip, g1, g2, g3, g4, p1, p2, p3, Bool.false_or, Bool.false_eq_true, if_false, if_true, Bool.and_false]
    ·simp only [skip, g1, g2, g3, p1, p2, p3, Bool.false_or, Bool.false_eq_true, if_false, Bool.false_and]
section
variable {h : Heap} {lo : Nat} {X : List Nat} {p : Nat} {l : Bs} {i : Nat} {toks : List Tok} {waits : List (Nat × Bs)} {tv wv : Value} {cs : List Value}
theorem skip_loop (hl : l.length ≤ 5000) {tk wt : Value} {n N : Nat} {c0 c1 s0 s2 s3 s5 : Value} {F9 : Value → Value → Value → Value → Value → Heap → Ans} : ∀ (m i : Nat) (h : Heap), i ≤ l.length → l.length < i + m → LX h p l i tk wt →
  ∃ j h', skip i (l.drop i) = (j, l.drop j) ∧ i ≤ j ∧ j ≤ l.length ∧ LX h' p l j tk wt ∧ Kp p h h' ∧ l8_28 (cF (n + 4)) N c0 c1 F9 m s0 s2 s3 (Pt p) s5 h = p8_12 (cF (n + 4)) N c0 c1 F9 s0 s2 s3 (Pt p) s5 h' := by
 intro m
 induction m with
 | zero => intro i h hi hm; omega
 | succ m ih =>
  intro i h hi hm hx
  have hp : p < h.next := blk_lt' hx
  rw [skip_eq]
  rcases b2 (pre [32] (l.drop i)) with g1 | g1
  ·have hi1 := pre_i g1 hi
   simp only [List.length_cons, List.length_nil] at hi1
   obtain ⟨j, h', e1, e2, e3, e4, e5, e6⟩ := ih (i + 1) (mv h p l (i + 1) tk wt) (by omega) (by omega) (mv_lx hp _ _ _)
   refine ⟨j, h', ?_, by omega, e3, e4, (Kp.set _ _ _).trans e5, ?_⟩
   ·rw [g1, Bool.true_or, if_pos rfl, List.drop_drop]; exact e1
   ·rw [← e6]
    simp only [l8_28, p8_29, passed_yes n hx [32] hi (by simp; omega) g1, List.length_cons, List.length_nil, SS, SU, Nat.reduceAdd, Nat.reduceLeDiff, Nat.reduceBEq, Nat.reduceMul]
  ·rcases b2 (pre [9] (l.drop i)) with g2 | g2
   ·have hi1 := pre_i g2 hi
    simp only [List.length_cons, List.length_nil] at hi1
    obtain ⟨j, h', e1, e2, e3, e4, e5, e6⟩ := ih (i + 1) (mv h p l (i + 1) tk wt) (by omega) (by omega) (mv_lx hp _ _ _)
    refine ⟨j, h', ?_, by omega, e3, e4, (Kp.set _ _ _).trans e5, ?_⟩
    ·rw [g1, g2, Bool.false_or, if_pos rfl, List.drop_drop]; exact e1
    ·rw [← e6]
     simp only [l8_28, p8_29, passed_no n hx [32] hi g1, passed_yes n hx [9] hi (by simp; omega) g2, List.length_cons, List.length_nil, SS, SU, Nat.reduceAdd, Nat.reduceLeDiff, Nat.reduceBEq, Nat.reduceMul]
   ·rcases b2 (pre [92, 10] (l.drop i)) with g3 | g3
    ·have hi1 := pre_i g3 hi
     simp only [List.length_cons, List.length_nil] at hi1
     obtain ⟨j, h', e1, e2, e3, e4, e5, e6⟩ := ih (i + 2) (mv h p l (i + 2) tk wt) (by omega) (by omega) (mv_lx hp _ _ _)
     refine ⟨j, h', ?_, by omega, e3, e4, (Kp.set _ _ _).trans e5, ?_⟩
     ·rw [g1, g2, g3, Bool.false_or, if_neg (by decide), if_pos rfl, List.drop_drop]; exact e1
     ·rw [← e6]
      simp only [l8_28, p8_29, passed_no n hx [32] hi g1, passed_no n hx [9] hi g2, passed_yes n hx [92, 10] hi (by simp; omega) g3, List.length_cons, List.length_nil, SS, SU, Nat.reduceAdd, Nat.reduceLeDiff, Nat.reduceBEq, Nat.reduceMul]
    ·refine ⟨i, h, ?_, Nat.le_refl _, hi, hx, Kp.refl _ _, ?_⟩
     ·rw [g1, g2, g3, Bool.false_or, if_neg (by decide), if_neg (by decide)]
     ·simp only [l8_28, p8_29, passed_no n hx [32] hi g1, passed_no n hx [9] hi g2, passed_no n hx [92, 10] hi g3, SS, SU, Nat.reduceAdd, Nat.reduceLeDiff, Nat.reduceBEq, Nat.reduceMul]
def RepTk (h : Heap) (A : Nat → Prop) (v : Value) (ts : List Tok) : Prop :=
 (v = .slice none 0 0 ∧ ts = []) ∨ ∃ b cs n, v = .slice (some ⟨b, 0, none⟩) n n ∧ n = ts.length ∧ 0 < n ∧ A b ∧ h.blk b = some ⟨39, cs, true⟩ ∧ RepT h.blk A cs ts
def LexQ (h : Heap) (res : Rz (List Tok)) (r : Res) (h' : Heap) : Prop := Un h.next h h' ∧ match res with
 | .ok toks => ∃ v, r = .ret (.tuple ⟨[v, .nilIface]⟩) ∧ RepTk h' (h.next ≤ ·) v toks
 | .bad c a => ∃ b, r = .ret (.tuple ⟨[.slice none 0 0, .iface 51 (Pt b)]⟩) ∧ h.next ≤ b ∧ h'.blk b = some ⟨52, [.int .i64 (c : Int), .int .i64 (a : Int)], true⟩
structure Ar (h : Heap) (t2 t3 rb p : Nat) : Prop where
 a2 : h.blk t2 = some ⟨22, [.slice none 0 0], true⟩
 a3 : h.blk t3 = some ⟨24, [.nilIface], true⟩
 rd : h.blk rb = some ⟨34, [.func (.func 19) ⟨[Pt p]⟩ ⟨[]⟩, .func (.func 20) ⟨[Pt p]⟩ ⟨[]⟩, .func (.func 21) ⟨[Pt p]⟩ ⟨[]⟩, .func (.func 22) ⟨[Pt p]⟩ ⟨[]⟩], true⟩
theorem Ar.keep {h h' : Heap} {t2 t3 rb p lo : Nat} (a : Ar h t2 t3 rb p) (u : UnL lo p h h') (h2 : t2 < p) (h3 : t3 < p) (hr : p < rb) (hlo : rb < lo) : Ar h' t2 t3 rb p :=
 ⟨(u.2 _ (by omega) (by omega)).trans a.a2, (u.2 _ (by omega) (by omega)).trans a.a3, (u.2 _ (by omega) (by omega)).trans a.rd⟩
theorem caught {h0 h h' : Heap} {t2 t3 rb c a n N : Nat} {v : Value} (hb : BadL lo p h c a (.panic v) h') (ar : Ar h t2 t3 rb p) (h2 : h0.next ≤ t2) (h23 : t2 < t3) (h3 : t3 < p) (hr : p < rb) (hlo : rb < lo) (hln : lo ≤ h.next) (u : Un h0.next h0 h) :
  wp (e8 (cF n) N (Pt t2) (Pt t3) (Pt t2) (Pt t3) v h') (LexQ h0 (.bad c a)) := by
 obtain ⟨uu, b, e, hbb, hf⟩ := hb
 injection e with e; subst e
 have ar' := ar.keep uu (by omega) h3 hr hlo
 have a2 := ar'.a2
 have a3 := ar'.a3
 have t2n := Heap.blk_lt a2
 have t3n := Heap.blk_lt a3
 have c3 : (h'.set t2 (.cells ⟨22, [.slice none 0 0], true⟩)).blk t3 = some ⟨24, [.nilIface], true⟩ := (blk_set_ne (by omega)).trans a3
 have d2 : ((h'.set t2 (.cells ⟨22, [.slice none 0 0], true⟩)).set t3 (.cells ⟨24, [.iface 51 (Pt b)], true⟩)).blk t2 = some ⟨22, [.slice none 0 0], true⟩ := (blk_set_ne (by omega)).trans (blk_set_eq t2n)
 have d3 : ((h'.set t2 (.cells ⟨22, [.slice none 0 0], true⟩)).set t3 (.cells ⟨24, [.iface 51 (Pt b)], true⟩)).blk t3 = some ⟨24, [.iface 51 (Pt b)], true⟩ := blk_set_eq (by rw [next_set]; exact t3n)
 simp -implicitDefEqProofs only [e8, d18, p18_0, neq_if, as_fault, p18_4, a2, c3, d2, d3, SS, SU, Nat.reduceAdd, Nat.reduceLeDiff, Nat.reduceBEq, Nat.reduceMul]
 have hhn := uu.1
 refine wp_some.2 ⟨⟨by rw [next_set, next_set]; have := u.1; omega, fun x hx => ?_⟩, b, rfl, by have := u.1; omega, (blk_set_ne (by omega)).trans ((blk_set_ne (by omega)).trans hf)⟩
 exact (blk_set_ne (by omega)).trans ((blk_set_ne (by omega)).trans ((uu.2 x (by omega) (by omega)).trans (u.2 x hx)))
theorem LexQ.of {h h1 : Heap} {res : Rz (List Tok)} {r : Res} {h' : Heap} (q : LexQ h res r h') : LexQ h res r h' := q
theorem first_lt {r : Bs} {k : Nat} {o : Bs} (h : first marksL r = some (k, o)) : 1 ≤ o.length := (marksL_len h).2.2
theorem rd_call (n : Nat) (g : Nat) (h : Heap) (hg : (g == 97) = false) : callA E (cF n) (.func (.func g) ⟨[Pt p]⟩ ⟨[]⟩) [] h = cF n g [Pt p] h := callA_func _ _ _ _ _ _ _ (prim_none g _ _ hg)
theorem lex_loop (hl : l.length ≤ 4000) {h0 : Heap} {t2 t3 rb n N : Nat} (h2 : h0.next ≤ t2) (h23 : t2 < t3) (h3 : t3 < p) (hr : p < rb) (hlo : rb < lo) (hN : 6000 ≤ N) : ∀ (f : Nat) (toks : List Tok) (waits : List (Nat × Bs)) (i m : Nat) (h : Heap) (X : List Nat) (tv wv : Value) (cs : List Value) (res : Rz (List Tok)),
  lexL f toks waits i (l.drop i) = some res → i ≤ l.length → LS h lo X p l i toks waits tv wv cs → Ar h t2 t3 rb p → Un h0.next h0 h → f ≤ m → f < 5000 → 6 * f + 6100 ≤ n → toks.length + 2 * f ≤ 20000 → waits.length + f ≤ 5000 → (∀ t, t ∈ toks → t.text.length ≤ 5000) → (∀ x, x ∈ waits → x.1 < toks.length) →
  wp (l8_9 (cF n) N (Pt t2) (Pt t3) m (.string (mkS l)) (Pt t2) (Pt t3) (Pt p) (.slice (some ⟨rb, 0, none⟩) 4 4) h) (LexQ h0 res) := by
 intro f
 induction f with
 | zero => intro toks waits i m h X tv wv cs res hs; simp [lexL] at hs
 | succ f ih =>
  intro toks waits i m h X tv wv cs res hs hi k ar u hm hf hn htl hwl htx hwk
  obtain ⟨m, rfl⟩ : ∃ m', m = m' + 1 := ⟨m - 1, by omega⟩
  obtain ⟨n, rfl⟩ : ∃ n', n = n' + 20 := ⟨n - 20, by omega⟩
  obtain ⟨N, rfl⟩ : ∃ N', N = N' + 5 := ⟨N - 5, by omega⟩
  obtain ⟨j, h1, esk, hij, hj, hx1, kk1, esim⟩ := skip_loop (by omega) (n := n + 16) (N := N + 5) (c0 := Pt t2) (c1 := Pt t3) (s0 := .string (mkS l)) (s2 := Pt t2) (s3 := Pt t3) (s5 := .slice (some ⟨rb, 0, none⟩) 4 4) (F9 := l8_9 (cF (n + 20)) (N + 5) (Pt t2) (Pt t3) m) (N + 5) i h hi (by omega) k.x
  have k1 := k.kp kk1 hx1
  have u1 : UnL lo p h h1 := kk1.unL k.c2
  have ar1 := ar.keep u1 (by omega) h3 hr hlo
  have hp := k.c1
  have uu1 : Un h0.next h0 h1 := u.trans ⟨u1.1, fun b hb => u1.2 b (by omega) (by omega)⟩
  simp only [lexL, esk] at hs
  simp only [l8_9, p8_10]
  have esim' : l8_28 (cF (n + 20)) (N + 5) (Pt t2) (Pt t3) (l8_9 (cF (n + 20)) (N + 5) (Pt t2) (Pt t3) m) (N + 5) (.string (mkS l)) (Pt t2) (Pt t3) (Pt p) (.slice (some ⟨rb, 0, none⟩) 4 4) h = _ := esim
  rw [esim']
  clear esim esim'
  have go : ∀ {toks' : List Tok} {waits' : List (Nat × Bs)} {i' : Nat} {h' : Heap}, lexL f toks' waits' i' (l.drop i') = some res → i' ≤ l.length → MarkQ lo p l i' toks' waits' h1 (.ret (.bool true)) h' → toks'.length ≤ toks.length + 2 → waits'.length ≤ waits.length + 1 → (∀ t, t ∈ toks' → t.text.length ≤ 5000) → (∀ x, x ∈ waits' → x.1 < toks'.length) →
    wp (l8_9 (cF (n + 20)) (N + 5) (Pt t2) (Pt t3) m (.string (mkS l)) (Pt t2) (Pt t3) (Pt p) (.slice (some ⟨rb, 0, none⟩) 4 4) h') (LexQ h0 res) := by
   intro toks' waits' i' h' hs' hi' q ht' hw' htx' hwk'
   obtain ⟨_, u', X', tv', wv', cs', k'⟩ := q
   exact ih toks' waits' i' m h' X' tv' wv' cs' res hs' hi' k' (ar1.keep u' (by omega) h3 hr hlo) (uu1.trans ⟨u'.1, fun b hb => u'.2 b (by omega) (by omega)⟩) (by omega) (by omega) (by omega) (by omega) (by omega) htx' hwk'
  rcases b2 (decide (j < l.length)) with g1 | g1
  ·have hlt := of_decide_eq_true g1
   have hdr := List.drop_eq_getElem_cons hlt
   have hg := drop_get l j hlt
   rw [hdr] at hs
   generalize l[j] = c at hdr hg hs
   simp only [← hdr] at hs
   have p10 : pre [10] (l.drop j) = (c == 10) := by rw [hdr]; simp [pre]
   have p35 : pre [35] (l.drop j) = (c == 35) := by rw [hdr]; simp [pre]
   have p38 : pre [38] (l.drop j) = (c == 38) := by rw [hdr]; simp [pre]
   have d0 : decide ((0 : Int) < ((4 : Nat) : Int)) = true := rfl
   have d1 : decide ((1 : Int) < ((4 : Nat) : Int)) = true := rfl
   have d2 : decide ((2 : Int) < ((4 : Nat) : Int)) = true := rfl
   have d3 : decide ((3 : Int) < ((4 : Nat) : Int)) = true := rfl
   have i0 : indexAddrA E 58 (.slice (some ⟨rb, 0, none⟩) 4 4) (.int .i64 0) = some (.pointer (some ⟨rb, 0, none⟩)) := ia58 rb 0 4 4 0 (by omega)
   have i1 : indexAddrA E 58 (.slice (some ⟨rb, 0, none⟩) 4 4) (.int .i64 1) = some (.pointer (some ⟨rb, 1, none⟩)) := ia58 rb 0 4 4 1 (by omega)
   have i2 : indexAddrA E 58 (.slice (some ⟨rb, 0, none⟩) 4 4) (.int .i64 2) = some (.pointer (some ⟨rb, 2, none⟩)) := ia58 rb 0 4 4 2 (by omega)
   have i3 : indexAddrA E 58 (.slice (some ⟨rb, 0, none⟩) 4 4) (.int .i64 3) = some (.pointer (some ⟨rb, 3, none⟩)) := ia58 rb 0 4 4 3 (by omega)
   have w1 : wrapA .i64 ((0 : Int) + 1) = 1 := rfl
   have w2 : wrapA .i64 ((1 : Int) + 1) = 2 := rfl
   have w3 : wrapA .i64 ((2 : Int) + 1) = 3 := rfl
   have rd1 := ar1.rd
   simp -implicitDefEqProofs only [p8_12, more_eq (n + 19) hx1, g1, l8_17, p8_18, d0, i0, rd1, rd_call (p := p) (n + 20) 19 h1 rfl, SS, SU, Nat.reduceAdd, Nat.reduceLeDiff, Nat.reduceBEq, Nat.reduceMul]
   rcases b2 (c == 10) with g2 | g2
   ·simp only [g2, if_true] at hs
    rw [g2] at p10
    cases hd : docs f waits (toks ++ [⟨2, [], [], false, j⟩]) (j + 1) (l.drop (j + 1)) with
    | none => rw [hd] at hs; cases hs
    | some rd =>
     have hcall := line_yes (by omega) (f := f) (n := n + 20) (by omega) (by omega) (by omega) (by omega) hwk k1 hlt p10 hd
     rw [hd] at hs
     refine wp_bindR hcall ?_ ?_
     ·intro v h' q
      cases rd with
      | bad a b => obtain ⟨_, bb, e, _⟩ := q; cases e
      | ok y =>
       obtain ⟨toks', i', r'⟩ := y
       obtain ⟨a1, rfl, a3, a4⟩ := q
       have e := a4.1
       injection e with e; subst e
       simp only at hs
       obtain ⟨hlen, htx', _⟩ := docs_len f 5000 _ _ _ _ _ _ _ hd (by simp; omega) (fun t ht => by
        rcases List.mem_append.1 ht with e | e
        ·exact htx t e
        ·simp at e; subst e; simp)
       simp only [List.length_append, List.length_singleton] at hlen
       simp -implicitDefEqProofs only [SS, SU, Nat.reduceAdd, Nat.reduceLeDiff, Nat.reduceBEq, Nat.reduceMul]
       exact go hs a1 a4 (by omega) (by simp) htx' (fun x hx => by cases hx)
     ·intro v h' q
      cases rd with
      | ok y => obtain ⟨toks', i', r'⟩ := y; have e := q.2.2.2.1; cases e
      | bad a b =>
       simp only at hs
       injection hs with hs; subst hs
       exact caught q ar1 h2 h23 h3 hr hlo k1.c2 uu1
   ·simp only [g2, Bool.false_eq_true, if_false] at hs
    rw [g2] at p10
    simp -implicitDefEqProofs only [line_no (n + 16) hx1 hj p10, w1, d1, i1, rd1, rd_call (p := p) (n + 20) 20 h1 rfl, SS, SU, Nat.reduceAdd, Nat.reduceLeDiff, Nat.reduceBEq, Nat.reduceMul]
    rcases b2 (c == 35) with g3 | g3
    ·simp only [g3, if_true] at hs
     rw [g3] at p35
     have hle := row_le (l.drop j)
     simp only [List.length_drop] at hle
     simp -implicitDefEqProofs only [remark_yes (n + 15) hx1 hj (by omega) p35, SS, SU, Nat.reduceAdd, Nat.reduceLeDiff, Nat.reduceBEq, Nat.reduceMul]
     rw [List.drop_drop] at hs
     exact go hs (by omega) ⟨rfl, (Kp.set _ _ _).unL k1.c2, X, tv, wv, cs, k1.mv _⟩ (by omega) (by omega) htx hwk
    ·simp only [g3, Bool.false_eq_true, if_false] at hs
     rw [g3] at p35
     simp -implicitDefEqProofs only [remark_no (n + 16) hx1 hj p35, w2, d2, i2, rd1, rd_call (p := p) (n + 20) 21 h1 rfl, SS, SU, Nat.reduceAdd, Nat.reduceLeDiff, Nat.reduceBEq, Nat.reduceMul]
     have hmk := mark_ok (n := n + 20) (by omega) (by omega) (by omega) k1 hlt
     rw [first_find] at hs
     cases hfm : first marksL ((l.drop j).drop (digitOf (l.drop j))) with
     | some x =>
      obtain ⟨kk, mm⟩ := x
      rw [hfm] at hs
      simp only [Option.map] at hs
      have hi2 : j + digitOf (l.drop j) + mm.length ≤ l.length := by
       have h1 := pre_len (first_pre hfm).1
       have := (marksL_len hfm).2.2
       simp only [List.length_drop] at h1
       omega
      refine wp_bindR (hmk.1 kk mm hfm) ?_ ?_
      ·intro v h' q
       have e := q.1
       injection e with e; subst e
       simp -implicitDefEqProofs only [SS, SU, Nat.reduceAdd, Nat.reduceLeDiff, Nat.reduceBEq, Nat.reduceMul]
       refine go (i' := j + digitOf (l.drop j) + mm.length) (toks' := toks ++ [⟨1, (l.drop j).take (digitOf (l.drop j) + mm.length), [], false, j⟩]) (by rw [← hs, List.drop_drop, Nat.add_assoc]) hi2 q (by simp) (by omega) ?_ ?_
       ·intro t ht
        rcases List.mem_append.1 ht with e | e
        ·exact htx t e
        ·simp at e; subst e
         simp; omega
       ·intro x hx
        have := hwk x hx
        simp; omega
      ·intro v h' q
       have e := q.1; cases e
     | none =>
      rw [hfm] at hs
      simp only [Option.map] at hs
      rcases b2 (c == 38) with g4 | g4
      ·simp only [g4, if_true] at hs
       injection hs with hs; subst hs
       rw [g4] at p38
       refine wp_bindR (hmk.2.1 hfm p38) ?_ ?_
       ·intro v h' q
        obtain ⟨_, bb, e, _⟩ := q; cases e
       ·intro v h' q
        exact caught q ar1 h2 h23 h3 hr hlo k1.c2 uu1
      ·simp only [g4, Bool.false_eq_true, if_false] at hs
       rw [g4] at p38
       refine wp_bindR (hmk.2.2 hfm p38) ?_ ?_
       ·intro v h' q
        obtain ⟨e, u2, k2⟩ := q
        injection e with e; subst e
        have ar2 := ar1.keep u2 (by omega) h3 hr hlo
        have rd2 := ar2.rd
        have uu2 : Un h0.next h0 h' := uu1.trans ⟨u2.1, fun b hb => u2.2 b (by omega) (by omega)⟩
        simp -implicitDefEqProofs only [w3, d3, i3, rd2, rd_call (p := p) (n + 20) 22 h' rfl, SS, SU, Nat.reduceAdd, Nat.reduceLeDiff, Nat.reduceBEq, Nat.reduceMul]
        cases hp0 : parts f 0 0 [] [] j (l.drop j) with
        | none => rw [hp0] at hs; cases hs
        | some rp =>
         have hcall := word_ok (n := n + 20) (by omega) (by omega) (by omega) htx (by omega) (by omega) k2 hlt hp0
         rw [hp0] at hs
         refine wp_bindR hcall ?_ ?_
         ·intro v h3' q
          cases rp with
          | bad a b => obtain ⟨_, bb, e, _⟩ := q; cases e
          | ok y =>
           obtain ⟨ps, i', r'⟩ := y
           obtain ⟨a1, rfl, a3, a4⟩ := q
           simp only at hs
           have hnew : ∀ t, t ∈ toks ++ [(⟨0, [], ps, false, j⟩ : Tok)] → t.text.length ≤ 5000 := by
            intro t ht
            rcases List.mem_append.1 ht with e | e
            ·exact htx t e
            ·simp at e; subst e; simp
           unfold wordRes at a4
           rcases b2 (announces toks) with g5 | g5
           ·rw [g5, if_pos rfl] at a4 hs
            cases hwe : wordEnd ps [] false with
            | none =>
             rw [hwe] at a4
             obtain ⟨_, bb, e, _⟩ := a4; cases e
            | some x =>
             obtain ⟨e0, q0⟩ := x
             rw [hwe] at a4 hs
             simp only at a4 hs
             have e := a4.1
             injection e with e; subst e
             simp -implicitDefEqProofs only [SS, SU, Nat.reduceAdd, Nat.reduceLeDiff, Nat.reduceBEq, Nat.reduceMul]
             have hs' : lexL f (toks ++ [⟨0, [], ps, false, j⟩] ++ [⟨3, [], [], q0, j⟩]) (waits ++ [(toks.length + 1, e0)]) i' (l.drop i') = some res := by
              rw [List.append_assoc]; exact hs
             refine go hs' a1 ⟨rfl, u2.trans a4.2.1, a4.2.2⟩ (by simp) (by simp) ?_ ?_
             ·intro t ht
              rcases List.mem_append.1 ht with e | e
              ·exact hnew t e
              ·simp at e; subst e; simp
             ·intro x hx
              rcases List.mem_append.1 hx with e | e
              ·have := hwk x e; simp; omega
              ·simp at e; subst e; simp
           ·rw [g5, if_neg (by decide)] at a4 hs
            simp only at a4 hs
            have e := a4.1
            injection e with e; subst e
            simp -implicitDefEqProofs only [SS, SU, Nat.reduceAdd, Nat.reduceLeDiff, Nat.reduceBEq, Nat.reduceMul]
            exact go hs a1 ⟨rfl, u2.trans a4.2.1, a4.2.2⟩ (by simp) (by omega) hnew (fun x hx => by have := hwk x hx; simp; omega)
         ·intro v h3' q
          cases rp with
          | bad a b =>
           simp only at hs
           injection hs with hs; subst hs
           exact caught q ar2 h2 h23 h3 hr hlo k2.c2 uu2
          | ok y =>
           obtain ⟨ps, i', r'⟩ := y
           obtain ⟨a1, rfl, a3, a4⟩ := q
           simp only at hs
           unfold wordRes at a4
           rcases b2 (announces toks) with g5 | g5
           ·rw [g5, if_pos rfl] at a4 hs
            cases hwe : wordEnd ps [] false with
            | none =>
             rw [hwe] at a4 hs
             simp only at hs
             injection hs with hs; subst hs
             exact caught a4 ar2 h2 h23 h3 hr hlo k2.c2 uu2
            | some x =>
             obtain ⟨e0, q0⟩ := x
             rw [hwe] at a4
             have e := a4.1; cases e
           ·rw [g5, if_neg (by decide)] at a4
            have e := a4.1; cases e
       ·intro v h' q
        obtain ⟨e, _⟩ := q; cases e
  ·have hge := of_decide_eq_false g1
   have hd0 : l.drop j = [] := List.drop_of_length_le (by omega)
   rw [hd0] at hs
   obtain ⟨⟨wa, hwv⟩, _⟩ := k1.w.len
   have lw : lenA E 55 wv = some (.int .i64 (waits.length : Int)) := by rw [hwv]; exact ln55 _ _ _
   have hjl : j = l.length := by omega
   simp -implicitDefEqProofs only [p8_12, more_eq (n + 19) hx1, g1, p8_3, hx1, lw, SS, SU, Nat.reduceAdd, Nat.reduceLeDiff, Nat.reduceBEq, Nat.reduceMul]
   rcases b2 (decide (0 < waits.length)) with g2 | g2
   ·have hw0 := of_decide_eq_true g2
    have hne : waits.isEmpty = false := by cases waits with | nil => simp at hw0 | cons => rfl
    simp only [hne, Bool.false_eq_true, if_false] at hs
    injection hs with hs; subst hs
    simp -implicitDefEqProofs only [g2, fail_19, SS, SU, Nat.reduceAdd, Nat.reduceLeDiff, Nat.reduceBEq, Nat.reduceMul]
    rw [hjl]
    exact caught (h := h1) ((fail_bad (p := p) 0 19 l.length).l k1.c2) ar1 h2 h23 h3 hr hlo k1.c2 uu1
   ·have hw0 := of_decide_eq_false g2
    have hne : waits.isEmpty = true := by cases waits with | nil => rfl | cons => simp at hw0
    simp only [hne, if_true] at hs
    injection hs with hs; subst hs
    have a2 := ar1.a2
    have a3 := ar1.a3
    have t2n := Heap.blk_lt a2
    have t3n := Heap.blk_lt a3
    obtain ⟨⟨ta, htv⟩, _⟩ := k1.t.len
    have kt := k1.t
    subst htv
    have c3 : (h1.set t2 (.cells ⟨22, [.slice ta toks.length toks.length], true⟩)).blk t3 = some ⟨24, [.nilIface], true⟩ := (blk_set_ne (by omega)).trans a3
    have d2 : ((h1.set t2 (.cells ⟨22, [.slice ta toks.length toks.length], true⟩)).set t3 (.cells ⟨24, [.nilIface], true⟩)).blk t2 = some ⟨22, [.slice ta toks.length toks.length], true⟩ := (blk_set_ne (by omega)).trans (blk_set_eq t2n)
    have d3' : ((h1.set t2 (.cells ⟨22, [.slice ta toks.length toks.length], true⟩)).set t3 (.cells ⟨24, [.nilIface], true⟩)).blk t3 = some ⟨24, [.nilIface], true⟩ := blk_set_eq (by rw [next_set]; exact t3n)
    simp -implicitDefEqProofs only [g2, p8_4, hx1, a2, c3, e8, d18, p18_0, neq_nil, d2, d3', SS, SU, Nat.reduceAdd, Nat.reduceLeDiff, Nat.reduceBEq, Nat.reduceMul]
    refine wp_some.2 ⟨uu1.trans ⟨by rw [next_set, next_set]; exact Nat.le_refl _, fun x hx => (blk_set_ne (by omega)).trans (blk_set_ne (by omega))⟩, _, rfl, ?_⟩
    have hA : ∀ b y, Al lo X b → h1.blk b = some y → h0.next ≤ b ∧ ((h1.set t2 (.cells ⟨22, [.slice ta toks.length toks.length], true⟩)).set t3 (.cells ⟨24, [.nilIface], true⟩)).blk b = some y := by
     intro b y a e
     have := a.1
     exact ⟨by omega, (blk_set_ne (by omega)).trans ((blk_set_ne (by omega)).trans e)⟩
    rcases kt with ⟨e1, e2, e3⟩ | ⟨b, e1, e2, e3, e4, e5, e6⟩
    ·exact .inl ⟨e1, by simpa using e3⟩
    ·exact .inr ⟨b, cs, toks.length, e1, rfl, e2, by omega, (blk_set_ne (by omega)).trans ((blk_set_ne (by omega)).trans e3), k1.r.mono hA⟩
end
end Go.Proofs.YteekjekckgpbfaaDoor.Abs
end
section
namespace Go.Proofs.YteekjekckgpbfaaDoor.Abs
open Sp
attribute [local congr] bindO_congr bindR_congr condV_congr wp_congr
theorem readers_eq (p : Value) (h : Heap) : buildSliceA E 58 4 [(0, .func (.func 19) ⟨[p]⟩ ⟨[]⟩), (1, .func (.func 20) ⟨[p]⟩ ⟨[]⟩), (2, .func (.func 21) ⟨[p]⟩ ⟨[]⟩), (3, .func (.func 22) ⟨[p]⟩ ⟨[]⟩)] h =
  some (.slice (some ⟨h.next, 0, none⟩) 4 4, h.alloc (.cells ⟨34, [.func (.func 19) ⟨[p]⟩ ⟨[]⟩, .func (.func 20) ⟨[p]⟩ ⟨[]⟩, .func (.func 21) ⟨[p]⟩ ⟨[]⟩, .func (.func 22) ⟨[p]⟩ ⟨[]⟩], true⟩)) := by kernel_rfl
theorem lex_ok {l : Bs} {f n : Nat} {h : Heap} {res : Rz (List Tok)} (hs : lex f l = some res) (hf : f < 5000) (hn : 6 * f + 6200 ≤ n) (hl : l.length < 4611686018427387904) : wp (cF n 8 [.string (mkS l)] h) (LexQ h res) := by
 obtain ⟨n, rfl⟩ : ∃ n', n = n' + 1 := ⟨n - 1, by omega⟩
 have e40 : decide ((4000 : Int) < (l.length : Int)) = decide (4000 < l.length) := n_lt 4000 l.length
 have nA : (h.alloc (.cells ⟨22, [.slice none 0 0], true⟩)).next = h.next + 1 := rfl
 have bA : (h.alloc (.cells ⟨22, [.slice none 0 0], true⟩)).blk h.next = some ⟨22, [.slice none 0 0], true⟩ := blk_alloc_eq
 have uA : Un h.next h (h.alloc (.cells ⟨22, [.slice none 0 0], true⟩)) := Un.alloc _ _ (Nat.le_refl _)
 rw [c8]
 simp -implicitDefEqProofs only [f8, q8_0, q8_1, e40, SS, SU, Nat.reduceAdd, Nat.reduceLeDiff, Nat.reduceBEq, Nat.reduceMul]
 generalize h.alloc (.cells ⟨22, [.slice none 0 0], true⟩) = hA at *
 have nB : (hA.alloc (.cells ⟨24, [.nilIface], true⟩)).next = h.next + 2 := by rw [next_alloc]; omega
 have bB : (hA.alloc (.cells ⟨24, [.nilIface], true⟩)).blk h.next = some ⟨22, [.slice none 0 0], true⟩ := (blk_alloc_lt (by omega)).trans bA
 have cB : (hA.alloc (.cells ⟨24, [.nilIface], true⟩)).blk hA.next = some ⟨24, [.nilIface], true⟩ := blk_alloc_eq
 have uB : Un h.next h (hA.alloc (.cells ⟨24, [.nilIface], true⟩)) := uA.trans (Un.alloc _ _ (by omega))
 generalize hA.alloc (.cells ⟨24, [.nilIface], true⟩) = hB at *
 unfold lex at hs
 rcases b2 (decide (4000 < l.length)) with g | g
 ·have := of_decide_eq_true g
  simp only [this, if_true] at hs
  injection hs with hs; subst hs
  have hbox : boxA 52 (.agg ⟨[.int .i64 3, .int .i64 4000]⟩) hB = (.pointer (some ⟨hB.next, 0, none⟩), hB.alloc (.cells ⟨52, [.int .i64 3, .int .i64 4000], true⟩)) := rfl
  have bC : (hB.alloc (.cells ⟨52, [.int .i64 3, .int .i64 4000], true⟩)).blk h.next = some ⟨22, [.slice none 0 0], true⟩ := (blk_alloc_lt (by omega)).trans bB
  have cC : (hB.alloc (.cells ⟨52, [.int .i64 3, .int .i64 4000], true⟩)).blk hA.next = some ⟨24, [.nilIface], true⟩ := (blk_alloc_lt (by omega)).trans cB
  have fC : (hB.alloc (.cells ⟨52, [.int .i64 3, .int .i64 4000], true⟩)).blk hB.next = some ⟨52, [.int .i64 3, .int .i64 4000], true⟩ := blk_alloc_eq
  have nC : (hB.alloc (.cells ⟨52, [.int .i64 3, .int .i64 4000], true⟩)).next = h.next + 3 := by rw [next_alloc]; omega
  have uC : Un h.next h (hB.alloc (.cells ⟨52, [.int .i64 3, .int .i64 4000], true⟩)) := uB.trans (Un.alloc _ _ (by omega))
  simp -implicitDefEqProofs only [g, hbox, SS, SU, Nat.reduceAdd, Nat.reduceLeDiff, Nat.reduceBEq, Nat.reduceMul]
  generalize hB.alloc (.cells ⟨52, [.int .i64 3, .int .i64 4000], true⟩) = hC at *
  have c3 : (hC.set h.next (.cells ⟨22, [.slice none 0 0], true⟩)).blk hA.next = some ⟨24, [.nilIface], true⟩ := (blk_set_ne (by omega)).trans cC
  have d2 : ((hC.set h.next (.cells ⟨22, [.slice none 0 0], true⟩)).set hA.next (.cells ⟨24, [.iface 51 (Pt hB.next)], true⟩)).blk h.next = some ⟨22, [.slice none 0 0], true⟩ := (blk_set_ne (by omega)).trans (blk_set_eq (by omega))
  have d3 : ((hC.set h.next (.cells ⟨22, [.slice none 0 0], true⟩)).set hA.next (.cells ⟨24, [.iface 51 (Pt hB.next)], true⟩)).blk hA.next = some ⟨24, [.iface 51 (Pt hB.next)], true⟩ := blk_set_eq (by rw [next_set]; omega)
  simp -implicitDefEqProofs only [bC, c3, d2, d3, SS, SU, Nat.reduceAdd, Nat.reduceLeDiff, Nat.reduceBEq, Nat.reduceMul]
  exact wp_some.2 ⟨uC.trans ⟨by rw [next_set, next_set]; exact Nat.le_refl _, fun x hx => (blk_set_ne (by omega)).trans (blk_set_ne (by omega))⟩, hB.next, rfl, by omega, (blk_set_ne (by omega)).trans ((blk_set_ne (by omega)).trans fC)⟩
 ·have := of_decide_eq_false g
  simp only [this, if_false] at hs
  have hbox : boxA 57 (.agg ⟨[.string (mkS l), .int .i64 0, .slice none 0 0, .slice none 0 0]⟩) hB = (.pointer (some ⟨hB.next, 0, none⟩), hB.alloc (.cells ⟨57, [.string (mkS l), .int .i64 0, .slice none 0 0, .slice none 0 0], true⟩)) := rfl
  simp -implicitDefEqProofs only [g, q8_2, p8_0, hbox, readers_eq, SS, SU, Nat.reduceAdd, Nat.reduceLeDiff, Nat.reduceBEq, Nat.reduceMul]
  have bC : (hB.alloc (.cells ⟨57, [.string (mkS l), .int .i64 0, .slice none 0 0, .slice none 0 0], true⟩)).blk h.next = some ⟨22, [.slice none 0 0], true⟩ := (blk_alloc_lt (by omega)).trans bB
  have cC : (hB.alloc (.cells ⟨57, [.string (mkS l), .int .i64 0, .slice none 0 0, .slice none 0 0], true⟩)).blk hA.next = some ⟨24, [.nilIface], true⟩ := (blk_alloc_lt (by omega)).trans cB
  have xC : LX (hB.alloc (.cells ⟨57, [.string (mkS l), .int .i64 0, .slice none 0 0, .slice none 0 0], true⟩)) hB.next l 0 (.slice none 0 0) (.slice none 0 0) := blk_alloc_eq
  have nC : (hB.alloc (.cells ⟨57, [.string (mkS l), .int .i64 0, .slice none 0 0, .slice none 0 0], true⟩)).next = h.next + 3 := by rw [next_alloc]; omega
  have uC : Un h.next h (hB.alloc (.cells ⟨57, [.string (mkS l), .int .i64 0, .slice none 0 0, .slice none 0 0], true⟩)) := uB.trans (Un.alloc _ _ (by omega))
  generalize hB.alloc (.cells ⟨57, [.string (mkS l), .int .i64 0, .slice none 0 0, .slice none 0 0], true⟩) = hC at *
  have bD : (hC.alloc (.cells ⟨34, [.func (.func 19) ⟨[Pt hB.next]⟩ ⟨[]⟩, .func (.func 20) ⟨[Pt hB.next]⟩ ⟨[]⟩, .func (.func 21) ⟨[Pt hB.next]⟩ ⟨[]⟩, .func (.func 22) ⟨[Pt hB.next]⟩ ⟨[]⟩], true⟩)).blk h.next = some ⟨22, [.slice none 0 0], true⟩ := (blk_alloc_lt (by omega)).trans bC
  have cD : (hC.alloc (.cells ⟨34, [.func (.func 19) ⟨[Pt hB.next]⟩ ⟨[]⟩, .func (.func 20) ⟨[Pt hB.next]⟩ ⟨[]⟩, .func (.func 21) ⟨[Pt hB.next]⟩ ⟨[]⟩, .func (.func 22) ⟨[Pt hB.next]⟩ ⟨[]⟩], true⟩)).blk hA.next = some ⟨24, [.nilIface], true⟩ := (blk_alloc_lt (by omega)).trans cC
  have xD := alloc_lx xC (.cells ⟨34, [.func (.func 19) ⟨[Pt hB.next]⟩ ⟨[]⟩, .func (.func 20) ⟨[Pt hB.next]⟩ ⟨[]⟩, .func (.func 21) ⟨[Pt hB.next]⟩ ⟨[]⟩, .func (.func 22) ⟨[Pt hB.next]⟩ ⟨[]⟩], true⟩)
  have rD : (hC.alloc (.cells ⟨34, [.func (.func 19) ⟨[Pt hB.next]⟩ ⟨[]⟩, .func (.func 20) ⟨[Pt hB.next]⟩ ⟨[]⟩, .func (.func 21) ⟨[Pt hB.next]⟩ ⟨[]⟩, .func (.func 22) ⟨[Pt hB.next]⟩ ⟨[]⟩], true⟩)).blk hC.next = some ⟨34, [.func (.func 19) ⟨[Pt hB.next]⟩ ⟨[]⟩, .func (.func 20) ⟨[Pt hB.next]⟩ ⟨[]⟩, .func (.func 21) ⟨[Pt hB.next]⟩ ⟨[]⟩, .func (.func 22) ⟨[Pt hB.next]⟩ ⟨[]⟩], true⟩ := blk_alloc_eq
  have nD : (hC.alloc (.cells ⟨34, [.func (.func 19) ⟨[Pt hB.next]⟩ ⟨[]⟩, .func (.func 20) ⟨[Pt hB.next]⟩ ⟨[]⟩, .func (.func 21) ⟨[Pt hB.next]⟩ ⟨[]⟩, .func (.func 22) ⟨[Pt hB.next]⟩ ⟨[]⟩], true⟩)).next = h.next + 4 := by rw [next_alloc]; omega
  have uD : Un h.next h (hC.alloc (.cells ⟨34, [.func (.func 19) ⟨[Pt hB.next]⟩ ⟨[]⟩, .func (.func 20) ⟨[Pt hB.next]⟩ ⟨[]⟩, .func (.func 21) ⟨[Pt hB.next]⟩ ⟨[]⟩, .func (.func 22) ⟨[Pt hB.next]⟩ ⟨[]⟩], true⟩)) := uC.trans (Un.alloc _ _ (by omega))
  generalize hC.alloc (.cells ⟨34, [.func (.func 19) ⟨[Pt hB.next]⟩ ⟨[]⟩, .func (.func 20) ⟨[Pt hB.next]⟩ ⟨[]⟩, .func (.func 21) ⟨[Pt hB.next]⟩ ⟨[]⟩, .func (.func 22) ⟨[Pt hB.next]⟩ ⟨[]⟩], true⟩) = hD at *
  exact lex_loop (lo := hC.next + 1) (N := n) (n := n) (by omega) (t2 := h.next) (t3 := hA.next) (rb := hC.next) (p := hB.next) (Nat.le_refl _) (by omega) (by omega) (by omega) (by omega) (by omega) f [] [] 0 n hD [] _ _ [] res (by rw [List.drop_zero]; exact hs) (by omega) ⟨xD, .inl ⟨rfl, rfl, rfl⟩, .nil, .inl ⟨rfl, rfl, rfl⟩, by omega, by omega, fun x hx => by cases hx⟩ ⟨bD, cD, rD⟩ uD (by omega) hf (by omega) (by simp; omega) (by simp; omega) (fun t ht => by cases ht) (fun x hx => by cases hx)
end Go.Proofs.YteekjekckgpbfaaDoor.Abs
end
section
namespace Go.Proofs.YteekjekckgpbfaaDoor.Sp
mutual
def wtP : Part → Nat
 | ⟨_, _, _, _, ws⟩ => 1 + wtL ws
def wtL : List Part → Nat
 | [] => 0
 | p :: ps => wtP p + wtL ps
end
theorem wtL_append (a b : List Part) : wtL (a ++ b) = wtL a + wtL b := by
 induction a with
 | nil => simp [wtL]
 | cons x a ih => simp [wtL, ih]; omega
theorem wtL_flush (w : Nat) (out : List Part) (text : Bs) : wtL (flush w out text) ≤ wtL out + text.length := by
 unfold flush
 cases text with
 | nil => simp
 | cons c t => simp [wtL_append, wtL, wtP]
theorem wtL_len : ∀ ps : List Part, ps.length ≤ wtL ps := by
 intro ps
 induction ps with
 | nil => simp
 | cons x ps ih => obtain ⟨k, t, o, q, ws⟩ := x; simp [wtL, wtP]; omega
theorem parts_wt : ∀ f : Nat,
  (∀ w d out text i r ps j r', parts f w d out text i r = some (.ok (ps, j, r')) → wtL ps + r'.length ≤ wtL out + text.length + r.length ∧ r'.length ≤ r.length) ∧
  (∀ w d i c t x j r', dollar f w d i (c :: t) = some (.ok (x, j, r')) → r'.length < (c :: t).length ∧ ∀ p, x = some p → wtP p + r'.length ≤ (c :: t).length) ∧
  (∀ w d fr i r p j r', braces f w d fr i r = some (.ok (p, j, r')) → wtP p + r'.length ≤ r.length) := by
 intro f
 induction f with
 | zero => exact ⟨fun w d out text i r ps j r' h => by simp [parts] at h, fun w d i c t x j r' h => by simp [dollar] at h, fun w d fr i r p j r' h => by simp [braces] at h⟩
 | succ f ih =>
  obtain ⟨ihp, ihd, ihb⟩ := ih
  refine ⟨?_, ?_, ?_⟩
  ·intro w d out text i r ps j r' h
   cases r with
   | nil =>
    simp only [parts] at h
    injection h with h; injection h with h; injection h with h1 h; injection h with h2 h3
    subst h1; subst h3
    have hfl := wtL_flush w out text; simp; omega
   | cons c t =>
    rw [parts_cons] at h
    split at h
    ·injection h with h; injection h with h; injection h with h1 h; injection h with h2 h3
     subst h1; subst h3
     have hfl := wtL_flush w out text; simp; omega
    split at h
    ·have := ihp _ _ _ _ _ _ _ _ _ h; simp at this ⊢; omega
    split at h
    ·split at h
     ·injection h with h; cases h
     ·rename_i x t' _
      have := ihp _ _ _ _ _ _ _ _ _ h; have he := esc_le w x; simp at this ⊢; omega
    split at h
    ·split at h
     ·injection h with h; cases h
     ·have := ihp _ _ _ _ _ _ _ _ _ h; have hfl := wtL_flush w out text; simp [wtL_append, wtL, wtP] at this ⊢; omega
    split at h
    ·split at h
     ·cases h
     ·injection h with h; cases h
     ·rename_i p i' r'' hd
      have h1 := ihd _ _ _ _ _ _ _ _ hd
      have h2 := h1.2 p rfl
      have := ihp _ _ _ _ _ _ _ _ _ h; have hfl := wtL_flush w out text; simp [wtL_append, wtL] at this h1 h2 ⊢; omega
     ·rename_i i' r'' hd
      have h1 := ihd _ _ _ _ _ _ _ _ hd
      have := ihp _ _ _ _ _ _ _ _ _ h; simp at this h1 ⊢; omega
    split at h
    ·injection h with h; cases h
    split at h
    ·split at h
     ·injection h with h; cases h
     ·rename_i n hf
      have hn := find_lt hf
      have := ihp _ _ _ _ _ _ _ _ _ h; have hfl := wtL_flush w out text; simp [wtL_append, wtL, wtP] at this ⊢; omega
    split at h
    ·split at h
     ·cases h
     ·injection h with h; cases h
     ·rename_i qs i' r'' hq
      have h1 := ihp _ _ _ _ _ _ _ _ _ hq
      split at h
      ·rename_i hp
       have h2 := pre_le hp
       have := ihp _ _ _ _ _ _ _ _ _ h
       have h3 : wtL (if qs.isEmpty = true then [⟨1, [], [], true, []⟩] else qs) ≤ wtL qs + 1 := by
        split
        ·simp [wtL, wtP]
        ·omega
       have hfl := wtL_flush w out text; simp [wtL_append, wtL] at this h1 h2 h3 ⊢; omega
      ·injection h with h; cases h
    ·have := ihp _ _ _ _ _ _ _ _ _ h; simp at this ⊢; omega
  ·intro w d i c t x j r' h
   simp only [dollar] at h
   split at h
   ·injection h with h; cases h
   split at h
   ·split at h
    ·cases h
    ·injection h with h; cases h
    ·rename_i r'' hc
     have h1 := (closed_len f).1 _ _ _ hc
     injection h with h; injection h with h; injection h with h1' h; injection h with h2 h3
     subst h1'; subst h3
     simp at h1
     refine ⟨by simp; omega, fun p hp => ?_⟩
     injection hp with hp; subst hp
     simp [wtP, wtL]; omega
   split at h
   ·split at h
    ·cases h
    ·injection h with h; cases h
    ·rename_i p i' r'' hb
     have h1 := ihb _ _ _ _ _ _ _ _ hb
     injection h with h; injection h with h; injection h with h1' h; injection h with h2 h3
     subst h1'; subst h3
     simp at h1
     have h2 := pre_le (show pre [36, 123] (c :: t) = true by assumption)
     refine ⟨by simp at h2 ⊢; omega, fun q hq => ?_⟩
     injection hq with hq; subst hq
     simp; omega
   split at h
   ·injection h with h; injection h with h; injection h with h1' h; injection h with h2 h3
    subst h1'; subst h3
    exact ⟨by simp, fun p hp => by cases hp⟩
   ·injection h with h; injection h with h; injection h with h1' h; injection h with h2 h3
    subst h1'; subst h3
    refine ⟨by simp; omega, fun p hp => ?_⟩
    injection hp with hp; subst hp
    have := paramLen_le' [63, 35, 64, 42] t
    simp [wtP, wtL] at this ⊢; omega
  ·intro w d fr i r p j r' h
   simp only [braces] at h
   split at h
   ·injection h with h; cases h
   split at h
   ·rename_i hc
    injection h with h; injection h with h; injection h with h1' h; injection h with h2 h3
    subst h1'; subst h3
    have := paramLen_le' [63, 64, 42] (r.drop 1)
    have h2 := pre_le (show pre [35] r = true from (Bool.and_eq_true_iff.1 hc).1)
    simp [wtP, wtL] at this h2 ⊢; omega
   split at h
   ·injection h with h; cases h
   split at h
   ·injection h with h; injection h with h; injection h with h1' h; injection h with h2 h3
    subst h1'; subst h3
    have := paramLen_le' [63, 35, 64, 42] r
    have h2 := pre_le (show pre [125] (r.drop (paramLen [63, 35, 64, 42] r)) = true by assumption)
    simp [wtP, wtL] at this h2 ⊢; omega
   split at h
   ·injection h with h; cases h
   ·split at h
    ·cases h
    ·injection h with h; cases h
    ·rename_i ws i' r'' hq
     have h1 := ihp _ _ _ _ _ _ _ _ _ hq
     split at h
     ·injection h with h; injection h with h; injection h with h1' h; injection h with h2 h3
      subst h1'; subst h3
      have := paramLen_le' [63, 35, 64, 42] r
      have h2 := pre_le (show pre [125] r'' = true by assumption); simp [wtP, wtL] at this h1 h2 ⊢; omega
     ·injection h with h; cases h
end Go.Proofs.YteekjekckgpbfaaDoor.Sp
end
section
namespace Go.Proofs.YteekjekckgpbfaaDoor.Abs
open Sp
attribute [local congr] bindO_congr bindR_congr condV_congr wp_congr
theorem n_nes (a : Nat) : ((a : Int) != (a : Int)) = false := by simp
theorem s_nes (a : Bs) : (!(a == a)) = false := by simp
theorem s_nes' (a : Bs) : (a == a) = true := by simp
theorem b_nes (a : Bool) : (a != a) = false := by simp
theorem b_neq (a b : Bool) : binA E 4 .neq (.bool a) (.bool b) = some (.bool (a != b)) := by kernel_rfl
theorem RepL.cell {g : Nat → Option Blk} {A : Nat → Prop} {cs : List Value} {ps : List Part} (h : RepL g A cs ps) {j : Nat} {k : Nat} {t o : Bs} {q : Bool} {ws : List Part} (hj : ps[j]? = some ⟨k, t, o, q, ws⟩) :
  ∃ w, RepW g A w ws ∧ cs[j * 6]? = some (.int .i64 (k : Int)) ∧ cs[j * 6 + 1]? = some (.string (mkS t)) ∧ cs[j * 6 + 2]? = some (.string (mkS o)) ∧ cs[j * 6 + 3]? = some (.bool q) ∧ cs[j * 6 + 4]? = some w := by
 obtain ⟨o', q', w, ws', e, hw, hc, hl⟩ := h.get hj
 injection e with e1 e2 e3 e4 e5
 subst e3; subst e4; subst e5
 have g : ∀ i, i < 6 → cs[j * 6 + i]? = ((cs.drop (j * 6)).take 6)[i]? := fun i hi => by rw [List.getElem?_take_of_lt hi, List.getElem?_drop]
 rw [hc] at g
 exact ⟨w, hw, g 0 (by omega), g 1 (by omega), g 2 (by omega), g 3 (by omega), g 4 (by omega)⟩
theorem wtL_mem {x : Part} {ps : List Part} (h : x ∈ ps) : wtP x ≤ wtL ps := by
 induction ps with
 | nil => cases h
 | cons y ps ih =>
  simp only [wtL]
  rcases List.mem_cons.1 h with e | e
  ·subst e; omega
  ·have := ih e; omega
theorem sameParts_loop {ps : List Part} {h : Heap} {A B : Nat → Prop} {v v' : Value} {n N : Nat} (hps : ps.length ≤ 100000) (hv : RepW h.blk A v ps) (hv' : RepW h.blk B v' ps)
  (hin : ∀ x, x ∈ ps → ∀ w w', RepW h.blk A w (match x with | ⟨_, _, _, _, ws⟩ => ws) → RepW h.blk B w' (match x with | ⟨_, _, _, _, ws⟩ => ws) → cF n 34 [w, w'] h = some (.ret (.bool true), h)) : ∀ (m jx : Nat), jx ≤ ps.length → ps.length - jx < m →
  l34_11 (cF n) N m v v' (.int .i64 (jx : Int)) h = some (.ret (.bool true), h) := by
 have hlen : lenA E 37 v = some (.int .i64 (ps.length : Int)) := by
  cases hv with
  | nil => rfl
  | some b cs n _ _ _ _ hn _ => rw [ln37, hn]
 intro m
 induction m with
 | zero => intro jx _ h; omega
 | succ m ih =>
  intro jx hj hm
  rcases b2 (decide (jx < ps.length)) with hlt | hlt
  ·have hlt0 := of_decide_eq_true hlt
   have hg : ps[jx]? = some ps[jx] := by simp [hlt0]
   have hmem : ps[jx] ∈ ps := List.getElem_mem ..
   have hin1 := hin _ hmem
   generalize ps[jx] = x at hg hin1
   obtain ⟨k, t, o, q, ws⟩ := x
   have hb1 : jx + 1 < 9223372036854775808 := by omega
   have hrec := ih (jx + 1) (by omega) (by omega)
   cases hv with
   | nil => simp at hlt0
   | some b cs n1 _ ha hb hl hn hpos =>
    cases hv' with
    | nil => simp at hlt0
    | some b' cs' n2 _ ha' hb' hl' hn' hpos' =>
     obtain ⟨w, hw, g0, g1, g2, g3, g4⟩ := hl.cell hg
     obtain ⟨w', hw', d0, d1, d2, d3, d4⟩ := hl'.cell hg
     have hcall := hin1 w w' hw hw'
     have z0 : 0 + jx * 6 = jx * 6 := by omega
     have z00 : jx * 6 + 0 = jx * 6 := rfl
     simp -implicitDefEqProofs only [l34_11, p34_12, hlen, hlt, ia37 b 0 n1 n1 jx (by omega), ia37 b' 0 n2 n2 jx (by omega), z0, z00, hb, hb', g0, g1, g2, g3, g4, d0, d1, d2, d3, d4, n_nes, s_nes, s_nes', b_neq, b_nes, hcall, p34_19, p34_16, wrap_nat (jx + 1) hb1, hrec, SS, SU, Nat.reduceAdd, Nat.reduceLeDiff, Nat.reduceBEq, Nat.reduceMul]
  ·simp -implicitDefEqProofs only [l34_11, p34_12, hlen, hlt, p34_7, SS, SU, Nat.reduceAdd, Nat.reduceLeDiff, Nat.reduceBEq, Nat.reduceMul]
theorem sameParts_ok {h : Heap} {A B : Nat → Prop} : ∀ (M : Nat) (ps : List Part) (v v' : Value) (n : Nat), wtL ps ≤ M → RepW h.blk A v ps → RepW h.blk B v' ps → M ≤ 100000 → M + 2 ≤ n → cF n 34 [v, v'] h = some (.ret (.bool true), h) := by
 intro M
 induction M with
 | zero =>
  intro ps v v' n hw hv hv' hM hn
  have : ps = [] := by
   have := wtL_len ps
   exact List.length_eq_zero_iff.1 (by omega)
  subst this
  obtain ⟨n, rfl⟩ : ∃ n', n = n' + 1 := ⟨n - 1, by omega⟩
  cases hv with
  | nil =>
   cases hv' with
   | nil =>
    have := sameParts_loop (h := h) (A := A) (B := B) (n := n) (N := n) (ps := []) (by simp) .nil .nil (fun x hx => by cases hx) n 0 (by simp) (by simp; omega)
    have hl : lenA E 37 (.slice none 0 0) = some (.int .i64 0) := rfl
    have e0 : ((0 : Nat) : Int) = 0 := rfl
    rw [e0] at this
    have z : ((0 : Int) != 0) = false := rfl
    rw [c34]
    simp -implicitDefEqProofs only [f34, p34_0, hl, z, p34_10, this, SS, SU, Nat.reduceAdd, Nat.reduceLeDiff, Nat.reduceBEq, Nat.reduceMul]
   | some _ _ _ _ _ _ _ h1 h2 => simp at h1; omega
  | some _ _ _ _ _ _ _ h1 h2 => simp at h1; omega
 | succ M ih =>
  intro ps v v' n hw hv hv' hM hn
  obtain ⟨n, rfl⟩ : ∃ n', n = n' + 1 := ⟨n - 1, by omega⟩
  have hl := wtL_len ps
  have hloop := sameParts_loop (h := h) (A := A) (B := B) (n := n) (N := n) (ps := ps) (v := v) (v' := v') (by omega) hv hv' (fun x hx w w' hw1 hw2 => by
   obtain ⟨k, t, o, q, ws⟩ := x
   have := wtL_mem hx
   simp only [wtP] at this
   exact ih ws w w' n (by omega) hw1 hw2 (by omega) (by omega)) n 0 (by omega) (by omega)
  have e0 : ((0 : Nat) : Int) = 0 := rfl
  rw [e0] at hloop
  have l1 : lenA E 37 v = some (.int .i64 (ps.length : Int)) := by
   cases hv with
   | nil => rfl
   | some b cs n _ _ _ _ hn _ => rw [ln37, hn]
  have l2 : lenA E 37 v' = some (.int .i64 (ps.length : Int)) := by
   cases hv' with
   | nil => rfl
   | some b cs n _ _ _ _ hn _ => rw [ln37, hn]
  rw [c34]
  simp -implicitDefEqProofs only [f34, p34_0, l1, l2, n_nes, p34_10, hloop, SS, SU, Nat.reduceAdd, Nat.reduceLeDiff, Nat.reduceBEq, Nat.reduceMul]
theorem same_loop {ts : List Tok} {h : Heap} {A B : Nat → Prop} {v v' : Value} {n N : Nat} (hps : ts.length ≤ 100000) (hv : RepTk h A v ts) (hv' : RepTk h B v' ts)
  (hin : ∀ x, x ∈ ts → wtL x.parts ≤ 90000) (hn : 90002 ≤ n) : ∀ (m jx : Nat), jx ≤ ts.length → ts.length - jx < m →
  l11_11 (cF n) N m v v' (.int .i64 (jx : Int)) h = some (.ret (.bool true), h) := by
 have hlen : lenA E 22 v = some (.int .i64 (ts.length : Int)) := by
  rcases hv with ⟨rfl, rfl⟩ | ⟨b, cs, n1, rfl, hn, hpos, ha, hb, hl⟩
  ·rfl
  ·rw [ln22, hn]
 intro m
 induction m with
 | zero => intro jx _ h; omega
 | succ m ih =>
  intro jx hj hm
  rcases b2 (decide (jx < ts.length)) with hlt | hlt
  ·have hlt0 := of_decide_eq_true hlt
   have hg : ts[jx]? = some ts[jx] := by simp [hlt0]
   have hmem : ts[jx] ∈ ts := List.getElem_mem ..
   have hin1 := hin _ hmem
   generalize ts[jx] = x at hg hin1
   have hb1 : jx + 1 < 9223372036854775808 := by omega
   have hrec := ih (jx + 1) (by omega) (by omega)
   rcases hv with ⟨rfl, rfl⟩ | ⟨b, cs, n1, rfl, hn1, hpos, ha, hb, hl⟩
   ·simp at hlt0
   ·rcases hv' with ⟨rfl, rfl⟩ | ⟨b', cs', n2, rfl, hn2, hpos', ha', hb', hl'⟩
    ·simp at hlt0
    ·obtain ⟨w, hw, g0, g1, g2, g3, g4, _⟩ := hl.get hg
     obtain ⟨w', hw', d0, d1, d2, d3, d4, _⟩ := hl'.get hg
     have hcall := sameParts_ok 90000 x.parts w w' n hin1 hw hw' (by omega) (by omega)
     have z0 : 0 + jx * 5 = jx * 5 := by omega
     have z00 : jx * 5 + 0 = jx * 5 := rfl
     simp -implicitDefEqProofs only [l11_11, p11_12, hlen, hlt, ia22 b 0 n1 n1 jx (by omega), ia22 b' 0 n2 n2 jx (by omega), z0, z00, hb, hb', g0, g1, g2, g3, g4, d0, d1, d2, d3, d4, n_nes, s_nes, s_nes', b_neq, b_nes, hcall, p11_19, p11_16, wrap_nat (jx + 1) hb1, hrec, SS, SU, Nat.reduceAdd, Nat.reduceLeDiff, Nat.reduceBEq, Nat.reduceMul]
  ·simp -implicitDefEqProofs only [l11_11, p11_12, hlen, hlt, p11_7, SS, SU, Nat.reduceAdd, Nat.reduceLeDiff, Nat.reduceBEq, Nat.reduceMul]
theorem same_ok {ts : List Tok} {h : Heap} {A B : Nat → Prop} {v v' : Value} {n : Nat} (hps : ts.length ≤ 90000) (hv : RepTk h A v ts) (hv' : RepTk h B v' ts)
  (hin : ∀ x, x ∈ ts → wtL x.parts ≤ 90000) (hn : 90003 ≤ n) : cF n 11 [v, v'] h = some (.ret (.bool true), h) := by
 obtain ⟨n, rfl⟩ : ∃ n', n = n' + 1 := ⟨n - 1, by omega⟩
 have hloop := same_loop (n := n) (N := n) (by omega) hv hv' hin (by omega) n 0 (by omega) (by omega)
 have e0 : ((0 : Nat) : Int) = 0 := rfl
 rw [e0] at hloop
 have l1 : lenA E 22 v = some (.int .i64 (ts.length : Int)) := by
  rcases hv with ⟨rfl, rfl⟩ | ⟨b, cs, n1, rfl, hn, hpos, ha, hb, hl⟩
  ·rfl
  ·rw [ln22, hn]
 have l2 : lenA E 22 v' = some (.int .i64 (ts.length : Int)) := by
  rcases hv' with ⟨rfl, rfl⟩ | ⟨b, cs, n1, rfl, hn, hpos, ha, hb, hl⟩
  ·rfl
  ·rw [ln22, hn]
 clear hin hv hv' hn hps
 refine Eq.trans (c11 ..) ?_
 simp -implicitDefEqProofs only [f11, p11_0, l1, l2, n_nes, p11_10, hloop, SS, SU, Nat.reduceAdd, Nat.reduceLeDiff, Nat.reduceBEq, Nat.reduceMul]
end Go.Proofs.YteekjekckgpbfaaDoor.Abs
end
section
namespace Go.Proofs.YteekjekckgpbfaaDoor.Sp
theorem closed_some : ∀ f : Nat, (∀ d r, r.length < f → ∃ x, closed f d r = some x) ∧ (∀ r, r.length < f → ∃ x, closedQ f r = some x) := by
 intro f
 induction f with
 | zero => exact ⟨fun d r h => by omega, fun r h => by omega⟩
 | succ f ih =>
  constructor
  ·intro d r h
   cases r with
   | nil => exact ⟨_, rfl⟩
   | cons c t =>
    simp only [List.length_cons] at h
    simp only [closed]
    split
    ·exact ih.1 _ _ (by simp; omega)
    split
    ·split
     ·exact ⟨_, rfl⟩
     ·exact ih.1 _ _ (by simp; omega)
    split
    ·split
     ·rename_i hq
      obtain ⟨x, hx⟩ := ih.2 t (by omega)
      rw [hx] at hq; cases hq
     ·exact ⟨_, rfl⟩
     ·rename_i t' hq
      have := (closed_len f).2 _ _ hq
      exact ih.1 _ _ (by omega)
    split
    ·exact ih.1 _ _ (by omega)
    split
    ·split
     ·exact ⟨_, rfl⟩
     ·exact ih.1 _ _ (by omega)
    ·exact ih.1 _ _ (by omega)
  ·intro r h
   cases r with
   | nil => exact ⟨_, rfl⟩
   | cons c t =>
    simp only [List.length_cons] at h
    simp only [closedQ]
    split
    ·exact ih.2 _ (by simp; omega)
    split
    ·exact ⟨_, rfl⟩
    split
    ·split
     ·rename_i hq
      obtain ⟨x, hx⟩ := ih.1 1 (t.drop 1) (by simp; omega)
      rw [hx] at hq; cases hq
     ·exact ⟨_, rfl⟩
     ·rename_i t' hq
      have := (closed_len f).1 _ _ _ hq
      simp at this
      exact ih.2 _ (by omega)
    ·exact ih.2 _ (by omega)
theorem ops_pos {o : Bs} {r : Bs} (h : opsL.find? (fun o => pre o r) = some o) : 1 ≤ o.length := by
 have hm := List.mem_of_find?_eq_some h
 have hall : opsL.all (fun o => decide (1 ≤ o.length)) = true := by decide
 rw [List.all_eq_true] at hall
 simpa using hall o hm
theorem parts_some : ∀ f : Nat,
  (∀ w d out text i r, r.length < f → ∃ x, parts f w d out text i r = some x) ∧
  (∀ w d i c t, (c :: t).length ≤ f → ∃ x, dollar f w d i (c :: t) = some x) ∧
  (∀ w d fr i r, r.length < f → ∃ x, braces f w d fr i r = some x) := by
 intro f
 induction f with
 | zero => exact ⟨fun w d out text i r h => by omega, fun w d i c t h => by simp at h, fun w d fr i r h => by omega⟩
 | succ f ih =>
  obtain ⟨ihp, ihd, ihb⟩ := ih
  refine ⟨?_, ?_, ?_⟩
  ·intro w d out text i r h
   cases r with
   | nil => exact ⟨_, parts.eq_2 ..⟩
   | cons c t =>
    simp only [List.length_cons] at h
    rw [parts_cons]
    split
    ·exact ⟨_, rfl⟩
    split
    ·exact ihp _ _ _ _ _ _ (by simp; omega)
    split
    ·split
     ·exact ⟨_, rfl⟩
     ·exact ihp _ _ _ _ _ _ (by simp at h; omega)
    split
    ·split
     ·exact ⟨_, rfl⟩
     ·exact ihp _ _ _ _ _ _ (by simp at h; omega)
    split
    ·split
     ·rename_i hq
      obtain ⟨x, hx⟩ := ihd w d i c t (by simp; omega)
      rw [hx] at hq; cases hq
     ·exact ⟨_, rfl⟩
     ·rename_i p i' r'' hd
      have h1 := ((parts_len f).2.1 _ _ _ _ _ _ _ _ hd).1
      simp at h1
      exact ihp _ _ _ _ _ _ (by omega)
     ·rename_i i' r'' hd
      have h1 := ((parts_len f).2.1 _ _ _ _ _ _ _ _ hd).1
      simp at h1
      exact ihp _ _ _ _ _ _ (by omega)
    split
    ·exact ⟨_, rfl⟩
    split
    ·split
     ·exact ⟨_, rfl⟩
     ·exact ihp _ _ _ _ _ _ (by simp; omega)
    split
    ·split
     ·rename_i hq
      obtain ⟨x, hx⟩ := ihp 1 d [] [] (i + 1) t (by omega)
      rw [hx] at hq; cases hq
     ·exact ⟨_, rfl⟩
     ·rename_i qs i' r'' hq
      have h1 := ((parts_len f).1 _ _ _ _ _ _ _ _ _ hq).2
      split
      ·exact ihp _ _ _ _ _ _ (by simp; omega)
      ·exact ⟨_, rfl⟩
    ·exact ihp _ _ _ _ _ _ (by omega)
  ·intro w d i c t h
   simp only [List.length_cons] at h
   simp only [dollar]
   split
   ·exact ⟨_, rfl⟩
   split
   ·rename_i hp
    have := pre_le hp
    simp at this
    split
    ·rename_i hq
     obtain ⟨x, hx⟩ := (closed_some f).1 1 ((c :: t).drop 2) (by simp; omega)
     rw [hx] at hq; cases hq
    ·exact ⟨_, rfl⟩
    ·exact ⟨_, rfl⟩
   split
   ·rename_i hp
    have := pre_le hp
    simp at this
    split
    ·rename_i hq
     obtain ⟨x, hx⟩ := ihb w d i (i + 2) ((c :: t).drop 2) (by simp; omega)
     rw [hx] at hq; cases hq
    ·exact ⟨_, rfl⟩
    ·exact ⟨_, rfl⟩
   split
   ·exact ⟨_, rfl⟩
   ·exact ⟨_, rfl⟩
  ·intro w d fr i r h
   simp only [braces]
   split
   ·exact ⟨_, rfl⟩
   split
   ·exact ⟨_, rfl⟩
   split
   ·exact ⟨_, rfl⟩
   split
   ·exact ⟨_, rfl⟩
   split
   ·exact ⟨_, rfl⟩
   ·rename_i hk _ o ho
    have h1 := ops_pos ho
    have h2 := pre_le (show (pre o (r.drop (paramLen [63, 35, 64, 42] r)) = true) by have := List.find?_some ho; simpa using this)
    simp at h2
    split
    ·rename_i hq
     obtain ⟨x, hx⟩ := ihp (if inQ w = true then 4 else 3) (d + 1) [] [] (i + paramLen [63, 35, 64, 42] r + o.length) (r.drop (paramLen [63, 35, 64, 42] r + o.length)) (by simp; omega)
     rw [hx] at hq; cases hq
    ·exact ⟨_, rfl⟩
    ·split <;> exact ⟨_, rfl⟩
theorem docRows_some (last : Bs) : ∀ (f : Nat) (acc : Bs) (i : Nat) (r : Bs), r.length < f → ∃ x, docRows last f acc i r = some x := by
 intro f
 induction f with
 | zero => intro acc i r h; omega
 | succ f ih =>
  intro acc i r h
  simp only [docRows]
  split
  ·exact ⟨_, rfl⟩
  split
  ·exact ⟨_, rfl⟩
  ·rename_i h1 h2
   refine ih _ _ _ ?_
   have : r.length ≠ 0 := by intro e; exact h1 (by simp [List.length_eq_zero_iff.1 e])
   simp only [List.length_drop]; omega
theorem docs_some (f : Nat) : ∀ (ws : List (Nat × Bs)) (toks : List Tok) (i : Nat) (r : Bs), r.length < f → (∀ x, x ∈ ws → x.1 < toks.length) → ∃ x, docs f ws toks i r = some x := by
 intro ws
 induction ws with
 | nil => intro toks i r h hw; exact ⟨_, rfl⟩
 | cons w ws ih =>
  intro toks i r h hw
  obtain ⟨k, last⟩ := w
  have hk : k < toks.length := hw (k, last) List.mem_cons_self
  have hw' : ∀ x, x ∈ ws → x.1 < toks.length := fun x hx => hw x (List.mem_cons_of_mem _ hx)
  simp only [docs]
  split
  ·rename_i hq
   obtain ⟨x, hx⟩ := docRows_some last f [] i r h
   rw [hx] at hq; cases hq
  ·exact ⟨_, rfl⟩
  ·rename_i text i1 r1 hd
   have h1 := docRows_len last _ _ _ _ _ _ _ hd
   simp at h1
   split
   ·rename_i hn
    simp at hn; omega
   ·split
    ·exact ih _ _ _ (by omega) (by simpa using hw')
    ·split
     ·rename_i hq
      obtain ⟨x, hx⟩ := (parts_some f).1 2 0 [] [] i text (by omega)
      rw [hx] at hq; cases hq
     ·exact ⟨_, rfl⟩
     ·exact ih _ _ _ (by omega) (by simpa using hw')
theorem parts_go {f w d i : Nat} {out : List Part} {text : Bs} {c : UInt8} {t : Bs} {ps : List Part} {j : Nat} {r' : Bs} (h : parts f w d out text i (c :: t) = some (.ok (ps, j, r'))) (he : ends w c = false) : r'.length < (c :: t).length := by
 cases f with
 | zero => simp [parts] at h
 | succ f =>
  rw [parts_cons] at h
  simp only [he, Bool.false_eq_true, if_false] at h
  split at h
  ·have := ((parts_len f).1 _ _ _ _ _ _ _ _ _ h).2; simp at this ⊢; omega
  split at h
  ·split at h
   ·injection h with h; cases h
   ·have := ((parts_len f).1 _ _ _ _ _ _ _ _ _ h).2; simp at this ⊢; omega
  split at h
  ·split at h
   ·injection h with h; cases h
   ·have := ((parts_len f).1 _ _ _ _ _ _ _ _ _ h).2; simp at this ⊢; omega
  split at h
  ·split at h
   ·cases h
   ·injection h with h; cases h
   ·rename_i p i' r'' hd
    have h1 := ((parts_len f).2.1 _ _ _ _ _ _ _ _ hd).1
    have := ((parts_len f).1 _ _ _ _ _ _ _ _ _ h).2; simp at this h1 ⊢; omega
   ·rename_i i' r'' hd
    have h1 := ((parts_len f).2.1 _ _ _ _ _ _ _ _ hd).1
    have := ((parts_len f).1 _ _ _ _ _ _ _ _ _ h).2; simp at this h1 ⊢; omega
  split at h
  ·injection h with h; cases h
  split at h
  ·split at h
   ·injection h with h; cases h
   ·have := ((parts_len f).1 _ _ _ _ _ _ _ _ _ h).2; simp at this ⊢; omega
  split at h
  ·split at h
   ·cases h
   ·injection h with h; cases h
   ·rename_i qs i' r'' hq
    have h1 := ((parts_len f).1 _ _ _ _ _ _ _ _ _ hq).2
    split at h
    ·have := ((parts_len f).1 _ _ _ _ _ _ _ _ _ h).2; simp at this ⊢; omega
    ·injection h with h; cases h
  ·have := ((parts_len f).1 _ _ _ _ _ _ _ _ _ h).2; simp at this ⊢; omega
theorem skip_len : ∀ (n i : Nat) (r : Bs), r.length ≤ n → (skip i r).2.length ≤ r.length ∧ ∀ c t, (skip i r).2 = c :: t → (c == 32) = false ∧ (c == 9) = false := by
 intro n
 induction n with
 | zero =>
  intro i r h
  have : r = [] := List.length_eq_zero_iff.1 (by omega)
  subst this
  exact ⟨Nat.le_refl _, fun c t e => by cases e⟩
 | succ n ih =>
  intro i r h
  cases r with
  | nil => exact ⟨Nat.le_refl _, fun c t e => by cases e⟩
  | cons c t =>
   simp only [List.length_cons] at h
   unfold skip
   split
   ·have := ih (i + 1) t (by omega)
    exact ⟨by simp; omega, this.2⟩
   ·rename_i g
    have g2 : (c == 32) = false ∧ (c == 9) = false := by
     rcases bb (c == 32) with a | a <;> rcases bb (c == 9) with b | b <;> simp [a, b] at g ⊢
    split
    ·split
     ·refine ⟨Nat.le_refl _, fun d u e => ?_⟩
      injection e with e1 e2; subst e1; exact g2
     ·rename_i d t'
      split
      ·have := ih (i + 2) t' (by simp at h; omega)
       exact ⟨by simp; omega, this.2⟩
      ·refine ⟨Nat.le_refl _, fun d u e => ?_⟩
       injection e with e1 e2; subst e1; exact g2
    ·refine ⟨Nat.le_refl _, fun d u e => ?_⟩
     injection e with e1 e2; subst e1; exact g2
theorem marks_none {c : UInt8} {t : Bs} (h : marksL.find? (fun m => pre m ((c :: t).drop (digitOf (c :: t)))) = none) (h32 : (c == 32) = false) (h9 : (c == 9) = false) (h10 : (c == 10) = false) (h38 : (c == 38) = false) : ends 0 c = false := by
 have hm : ∀ b : UInt8, [b] ∈ marksL → pre [b] ((c :: t).drop (digitOf (c :: t))) = false := fun b hb => by
  have := List.find?_eq_none.1 h [b] hb
  simpa using this
 by_cases hd : digitOf (c :: t) = 0
 ·rw [hd] at hm
  have hx : ∀ b : UInt8, [b] ∈ marksL → (c == b) = false := fun b hb => by
   have := hm b hb
   simpa [pre] using this
  have e59 := hx 59 (by decide)
  have e124 := hx 124 (by decide)
  have e40 := hx 40 (by decide)
  have e41 := hx 41 (by decide)
  have e60 := hx 60 (by decide)
  have e62 := hx 62 (by decide)
  show ([32, 9, 10, 59, 38, 124, 40, 41, 60, 62] : List UInt8).contains c = false
  simp only [List.contains_cons, List.contains_nil, h32, h9, h10, e59, h38, e124, e40, e41, e60, e62]
  rfl
 ·cases t with
  | nil => exact absurd rfl hd
  | cons d t =>
   simp only [digitOf] at hd
   split at hd
   ·rename_i g
    simp only [Bool.and_eq_true, decide_eq_true_eq] at g
    have h1 : 48 ≤ c.toNat := by omega
    have h2 : c.toNat ≤ 50 := by omega
    have hne : ∀ b : UInt8, (b.toNat < 48 ∨ 50 < b.toNat) → (c == b) = false := fun b hb => by
     have : c ≠ b := fun e => by subst e; omega
     simpa using this
    show ([32, 9, 10, 59, 38, 124, 40, 41, 60, 62] : List UInt8).contains c = false
    simp only [List.contains_cons, List.contains_nil, hne 32 (by decide), hne 9 (by decide), hne 10 (by decide), hne 59 (by decide), hne 38 (by decide), hne 124 (by decide), hne 40 (by decide), hne 41 (by decide), hne 60 (by decide), hne 62 (by decide)]
    rfl
   ·exact absurd rfl hd
theorem marks_pos {m r : Bs} (h : marksL.find? (fun m => pre m r) = some m) : 1 ≤ m.length := by
 have hm := List.mem_of_find?_eq_some h
 have hall : marksL.all (fun o => decide (1 ≤ o.length)) = true := by decide
 rw [List.all_eq_true] at hall
 simpa using hall m hm
theorem row_pos {c : UInt8} {t : Bs} (h : (c == 10) = false) : 1 ≤ (row (c :: t)).length := by
 unfold row
 rw [List.takeWhile_cons]
 have : (c != 10) = true := by simp only [bne, h]; rfl
 rw [this, if_pos rfl]; simp
theorem lexL_some : ∀ (f : Nat) (toks : List Tok) (waits : List (Nat × Bs)) (i : Nat) (r : Bs), r.length + 1 < f → (∀ x, x ∈ waits → x.1 < toks.length) → ∃ x, lexL f toks waits i r = some x := by
 intro f
 induction f with
 | zero => intro toks waits i r h; omega
 | succ f ih =>
  intro toks waits i0 r0 h hw
  have hsk := skip_len _ i0 r0 (Nat.le_refl _)
  simp only [lexL]
  generalize skip i0 r0 = z at hsk
  obtain ⟨i, r⟩ := z
  cases r with
  | nil => simp only; split <;> exact ⟨_, rfl⟩
  | cons c t =>
   simp only [List.length_cons] at hsk
   obtain ⟨hl, hc⟩ := hsk
   obtain ⟨h32, h9⟩ := hc c t rfl
   have hw2 : ∀ (k : Tok), ∀ x, x ∈ waits → x.1 < (toks ++ [k]).length := fun k x hx => by have := hw x hx; simp; omega
   simp only
   split
   ·split
    ·rename_i hq
     obtain ⟨x, hx⟩ := docs_some f waits (toks ++ [⟨2, [], [], false, i⟩]) (i + 1) t (by omega) (hw2 _)
     rw [hx] at hq; cases hq
    ·exact ⟨_, rfl⟩
    ·rename_i toks' i' r' hd
     obtain ⟨_, _, h3⟩ := docs_len f (r0.length + (List.foldr (fun (t : Tok) n => t.text.length + n) 0 (toks ++ [⟨2, [], [], false, i⟩]))) _ _ _ _ _ _ _ hd (by omega) (fun x hx => by
      have : ∀ (l : List Tok), x ∈ l → x.text.length ≤ List.foldr (fun (t : Tok) n => t.text.length + n) 0 l := by
       intro l
       induction l with
       | nil => intro h; cases h
       | cons y l ih2 =>
        intro h
        simp only [List.foldr_cons]
        rcases List.mem_cons.1 h with e | e
        ·subst e; omega
        ·have := ih2 e; omega
      have := this _ hx
      omega)
     exact ih _ _ _ _ (by omega) (fun x hx => by cases hx)
   ·rename_i g10
    have g10 : (c == 10) = false := by simpa using g10
    split
    ·have := row_pos (t := t) g10
     exact ih _ _ _ _ (by simp only [List.length_drop, List.length_cons]; omega) hw
    ·split
     ·rename_i m hm
      have := marks_pos hm
      exact ih _ _ _ _ (by simp only [List.length_drop, List.length_cons]; omega) (hw2 _)
     ·rename_i hm
      split
      ·exact ⟨_, rfl⟩
      ·rename_i g38
       have g38 : (c == 38) = false := by simpa using g38
       have he := marks_none hm h32 h9 g10 g38
       split
       ·rename_i hq
        obtain ⟨x, hx⟩ := (parts_some f).1 0 0 [] [] i (c :: t) (by simp; omega)
        rw [hx] at hq; cases hq
       ·exact ⟨_, rfl⟩
       ·rename_i ps i' r' hp
        have hgo := parts_go hp he
        simp only [List.length_cons] at hgo
        split
        ·split
         ·exact ⟨_, rfl⟩
         ·refine ih _ _ _ _ (by omega) (fun x hx => ?_)
          rcases List.mem_append.1 hx with e | e
          ·have := hw x e; simp; omega
          ·simp at e; subst e; simp
        ·exact ih _ _ _ _ (by omega) (hw2 _)
theorem lex_some (s : Bs) : ∃ x, lex 4003 s = some x := by
 unfold lex
 split
 ·exact ⟨_, rfl⟩
 ·exact lexL_some 4003 [] [] 0 s (by omega) (fun x hx => by cases hx)
end Go.Proofs.YteekjekckgpbfaaDoor.Sp
end
section
namespace Go.Proofs.YteekjekckgpbfaaDoor.Sp
theorem docs_wt (f M : Nat) : ∀ (ws : List (Nat × Bs)) (toks : List Tok) (i : Nat) (r : Bs) (toks' : List Tok) (j : Nat) (r' : Bs), docs f ws toks i r = some (.ok (toks', j, r')) → r.length ≤ M → (∀ t, t ∈ toks → wtL t.parts ≤ M) → toks'.length = toks.length ∧ (∀ t, t ∈ toks' → wtL t.parts ≤ M) ∧ r'.length ≤ r.length := by
 intro ws
 induction ws with
 | nil =>
  intro toks i r toks' j r' h hr ht
  simp only [docs] at h
  injection h with h; injection h with h; injection h with h1 h; injection h with h2 h3
  subst h1; subst h3
  exact ⟨rfl, ht, Nat.le_refl _⟩
 | cons w ws ih =>
  intro toks i r toks' j r' h hr ht
  obtain ⟨k, last⟩ := w
  simp only [docs] at h
  split at h
  ·cases h
  ·injection h with h; cases h
  ·rename_i text i1 r1 hd
   have h1 := docRows_len last _ _ _ _ _ _ _ hd
   simp at h1
   split at h
   ·cases h
   ·rename_i t hk
    have hset : ∀ (x : Tok), wtL x.parts ≤ M → ∀ y, y ∈ toks.set k x → wtL y.parts ≤ M := by
     intro x hx y hy
     rcases List.mem_or_eq_of_mem_set hy with h | h
     ·exact ht y h
     ·rw [h]; exact hx
    split at h
    ·obtain ⟨a, b, c⟩ := ih _ _ _ _ _ _ h (by omega) (hset _ (ht t (List.mem_of_getElem? hk)))
     exact ⟨by simpa using a, b, by omega⟩
    ·split at h
     ·cases h
     ·injection h with h; cases h
     ·rename_i ps _ _ hp
      have h2 := ((parts_wt f).1 _ _ _ _ _ _ _ _ _ hp).1
      simp [wtL] at h2
      obtain ⟨a, b, c⟩ := ih _ _ _ _ _ _ h (by omega) (hset _ (by simp only; omega))
      exact ⟨by simpa using a, b, by omega⟩
theorem lexL_wt (M : Nat) : ∀ (f : Nat) (toks : List Tok) (waits : List (Nat × Bs)) (i : Nat) (r : Bs) (toks' : List Tok), lexL f toks waits i r = some (.ok toks') → r.length ≤ M → (∀ t, t ∈ toks → wtL t.parts ≤ M) → toks'.length ≤ toks.length + 2 * f ∧ ∀ t, t ∈ toks' → wtL t.parts ≤ M := by
 intro f
 induction f with
 | zero => intro toks waits i r toks' h; simp [lexL] at h
 | succ f ih =>
  intro toks waits i0 r0 toks' h hr ht
  have hsk := (skip_len _ i0 r0 (Nat.le_refl _)).1
  simp only [lexL] at h
  generalize skip i0 r0 = z at hsk h
  obtain ⟨i, r⟩ := z
  cases r with
  | nil =>
   simp only at h
   split at h
   ·injection h with h; injection h with h; subst h
    exact ⟨by omega, ht⟩
   ·injection h with h; cases h
  | cons c t =>
   simp only [List.length_cons] at hsk
   have hadd : ∀ (k : Tok), wtL k.parts ≤ M → ∀ x, x ∈ toks ++ [k] → wtL x.parts ≤ M := fun k hk x hx => by
    rcases List.mem_append.1 hx with e | e
    ·exact ht x e
    ·simp at e; subst e; exact hk
   simp only at h
   split at h
   ·split at h
    ·cases h
    ·injection h with h; cases h
    ·rename_i toks1 i' r' hd
     obtain ⟨a, b, c⟩ := docs_wt f M _ _ _ _ _ _ _ hd (by omega) (hadd _ (by simp [wtL]))
     have := ih _ _ _ _ _ h (by omega) b
     simp at a
     exact ⟨by omega, this.2⟩
   ·split at h
    ·have := ih _ _ _ _ _ h (by simp only [List.length_drop, List.length_cons]; omega) ht
     exact ⟨by omega, this.2⟩
    ·split at h
     ·rename_i m hm
      have := ih _ _ _ _ _ h (by simp only [List.length_drop, List.length_cons]; omega) (hadd _ (by simp [wtL]))
      simp at this
      exact ⟨by omega, this.2⟩
     ·split at h
      ·injection h with h; cases h
      ·split at h
       ·cases h
       ·injection h with h; cases h
       ·rename_i ps i' r' hp
        have h2 := (parts_wt f).1 _ _ _ _ _ _ _ _ _ hp
        simp [wtL] at h2
        split at h
        ·split at h
         ·injection h with h; cases h
         ·rename_i e q _
          have hb : ∀ x, x ∈ toks ++ [⟨0, [], ps, false, i⟩, ⟨3, [], [], q, i⟩] → wtL x.parts ≤ M := fun x hx => by
           rcases List.mem_append.1 hx with e | e
           ·exact ht x e
           ·simp at e
            rcases e with e | e
            ·subst e; simp only; omega
            ·subst e; simp [wtL]
          have := ih _ _ _ _ _ h (by omega) hb
          simp at this
          exact ⟨by omega, by simpa using this.2⟩
        ·have := ih _ _ _ _ _ h (by omega) (hadd _ (by simp only; omega))
         simp at this
         exact ⟨by omega, by simpa using this.2⟩
theorem lex_wt {f : Nat} {s : Bs} {toks : List Tok} (h : lex f s = some (.ok toks)) : toks.length ≤ 2 * f ∧ ∀ t, t ∈ toks → wtL t.parts ≤ 4000 := by
 unfold lex at h
 split at h
 ·injection h with h; cases h
 ·rename_i g
  have := lexL_wt 4000 _ _ _ _ _ _ h (by omega) (fun t ht => by cases ht)
  simp at this
  exact ⟨by omega, this.2⟩
end Go.Proofs.YteekjekckgpbfaaDoor.Sp
end
section
namespace Go.Proofs.YteekjekckgpbfaaDoor.Sp
def Tl (e : Bs) : Prop := e = [] ∨ ∃ b, e = 10 :: b
theorem pre_yes {p r : Bs} (e : Bs) (h : pre p r = true) : pre p (r ++ e) = true := by
 have hl := pre_le h
 unfold pre at h ⊢
 rw [List.take_append_of_le_length hl]
 exact h
theorem pre_no {p r : Bs} (e : Bs) (h : pre p r = false) (hl : p.length ≤ r.length) : pre p (r ++ e) = false := by
 unfold pre at h ⊢
 rw [List.take_append_of_le_length hl]
 exact h
theorem pre_tl {p : Bs} (hp : p.contains 10 = false) {e : Bs} (he : Tl e) (r : Bs) : pre p (r ++ e) = pre p r := by
 rcases he with rfl | ⟨b, rfl⟩
 ·rw [List.append_nil]
 rcases bb (pre p r) with h | h
 ·rw [h, pre_yes _ h]
 rw [h]
 by_cases hl : p.length ≤ r.length
 ·exact pre_no _ h hl
 unfold pre
 rw [beq_eq_false_iff_ne]
 intro hh
 have : (10 : UInt8) ∈ p := by
  rw [← hh]
  have : p.length = r.length + (p.length - r.length) := by omega
  rw [this, List.take_append, List.take_of_length_le (by omega)]
  have : r.length + (p.length - r.length) - r.length = (p.length - r.length - 1) + 1 := by omega
  rw [this, List.take_succ_cons]
  simp
 rw [List.contains_iff_mem.2 this] at hp
 cases hp
theorem find_app {c : UInt8} (e : Bs) : ∀ {r : Bs} {n : Nat}, find c r = some n → find c (r ++ e) = some n := by
 intro r
 induction r with
 | nil => intro n h; cases h
 | cons b r ih =>
  intro n h
  rw [List.cons_append]
  unfold find at h ⊢
  split at h
  ·rename_i hc; rw [if_pos hc]; exact h
  ·rename_i hc
   rw [if_neg hc]
   cases hf : find c r with
   | none => rw [hf] at h; cases h
   | some m => rw [hf] at h; rw [ih hf]; exact h
theorem drop_app {n : Nat} {r : Bs} (e : Bs) (h : n ≤ r.length) : (r ++ e).drop n = r.drop n ++ e := List.drop_append_of_le_length h
theorem take_app {n : Nat} {r : Bs} (e : Bs) (h : n ≤ r.length) : (r ++ e).take n = r.take n := List.take_append_of_le_length h
theorem nameFrom_tl {e : Bs} (he : Tl e) : ∀ (r : Bs) (n : Nat), nameFrom n (r ++ e) = nameFrom n r := by
 rcases he with rfl | ⟨b, rfl⟩
 ·intro r n; rw [List.append_nil]
 intro r
 induction r with
 | nil =>
  intro n
  have : (isLetter 10 || (decide (0 < n) && isDigit 10)) = false := by
   have h1 : isLetter 10 = false := by decide
   have h2 : isDigit 10 = false := by decide
   rw [h1, h2]; simp
  simp [nameFrom, this]
 | cons c t ih =>
  intro n
  simp only [List.cons_append, nameFrom, ih]
theorem paramLen_tl {m : Bs} (hm : m.contains 10 = false) {e : Bs} (he : Tl e) (r : Bs) : paramLen m (r ++ e) = paramLen m r := by
 unfold paramLen
 rw [nameFrom_tl he]
 cases r with
 | cons c t => rfl
 | nil =>
  rcases he with rfl | ⟨b, rfl⟩
  ·rfl
  have h2 : isDigit 10 = false := by decide
  simp only [List.nil_append, h2, hm, Bool.false_or]
  simp
theorem closed_ext (e : Bs) (k : Nat) : ∀ f : Nat, (∀ d r r', closed f d r = some (some r') → closed (f + k) d (r ++ e) = some (some (r' ++ e))) ∧ (∀ r r', closedQ f r = some (some r') → closedQ (f + k) (r ++ e) = some (some (r' ++ e))) := by
 intro f
 induction f with
 | zero => exact ⟨fun d r r' h => by simp [closed] at h, fun r r' h => by simp [closedQ] at h⟩
 | succ f ih =>
  obtain ⟨ihc, ihq⟩ := ih
  have c0 : ∀ d r', closed f d [] = some (some r') → False := by
   intro d r' h
   cases f with
   | zero => simp [closed] at h
   | succ f => simp [closed] at h
  have q0 : ∀ r', closedQ f [] = some (some r') → False := by
   intro r' h
   cases f with
   | zero => simp [closedQ] at h
   | succ f => simp [closedQ] at h
  have dr : ∀ (t r' : Bs) d, closed f d (t.drop 1) = some (some r') → closed (f + k) d ((t ++ e).drop 1) = some (some (r' ++ e)) := by
   intro t r' d h
   cases t with
   | nil => exact (c0 _ _ h).elim
   | cons x t => exact ihc _ _ _ h
  have dq : ∀ (t r' : Bs), closedQ f (t.drop 1) = some (some r') → closedQ (f + k) ((t ++ e).drop 1) = some (some (r' ++ e)) := by
   intro t r' h
   cases t with
   | nil => exact (q0 _ h).elim
   | cons x t => exact ihq _ _ h
  refine ⟨?_, ?_⟩
  ·intro d r r' h
   rw [Nat.add_right_comm]
   cases r with
   | nil => simp [closed] at h
   | cons c t =>
    rw [List.cons_append]
    unfold closed at h ⊢
    by_cases g0 : (c == 92) = true
    ·rw [if_pos g0] at h ⊢; exact dr _ _ _ h
    rw [if_neg g0] at h ⊢
    by_cases g1 : (c == 39) = true
    ·rw [if_pos g1] at h ⊢
     cases hf : find 39 t with
     | none => rw [hf] at h; cases h
     | some n =>
      rw [hf] at h
      rw [find_app e hf]
      have := find_lt hf
      dsimp only
      rw [drop_app e (by omega)]
      exact ihc _ _ _ h
    rw [if_neg g1] at h ⊢
    by_cases g2 : (c == 34) = true
    ·rw [if_pos g2] at h ⊢
     cases hq : closedQ f t with
     | none => rw [hq] at h; cases h
     | some y =>
      cases y with
      | none => rw [hq] at h; cases h
      | some t' =>
       rw [hq] at h
       rw [ihq _ _ hq]
       exact ihc _ _ _ h
    rw [if_neg g2] at h ⊢
    by_cases g3 : (c == 40) = true
    ·rw [if_pos g3] at h ⊢; exact ihc _ _ _ h
    rw [if_neg g3] at h ⊢
    by_cases g4 : (c == 41) = true
    ·rw [if_pos g4] at h ⊢
     by_cases g5 : (d == 1) = true
     ·rw [if_pos g5] at h ⊢
      injection h with h; injection h with h; subst h; rfl
     ·rw [if_neg g5] at h ⊢; exact ihc _ _ _ h
    rw [if_neg g4] at h ⊢
    exact ihc _ _ _ h
  ·intro r r' h
   rw [Nat.add_right_comm]
   cases r with
   | nil => simp [closedQ] at h
   | cons c t =>
    rw [List.cons_append]
    unfold closedQ at h ⊢
    by_cases g0 : (c == 92) = true
    ·rw [if_pos g0] at h ⊢; exact dq _ _ h
    rw [if_neg g0] at h ⊢
    by_cases g1 : (c == 34) = true
    ·rw [if_pos g1] at h ⊢
     injection h with h; injection h with h; subst h; rfl
    rw [if_neg g1] at h ⊢
    by_cases g2 : pre [36, 40] (c :: t) = true
    ·have g2' := pre_yes e g2
     rw [List.cons_append] at g2'
     rw [if_pos g2] at h
     rw [if_pos g2']
     have ht : 1 ≤ t.length := by have := pre_le g2; simp at this; omega
     cases hc : closed f 1 (t.drop 1) with
     | none => rw [hc] at h; cases h
     | some y =>
      cases y with
      | none => rw [hc] at h; cases h
      | some t' =>
       rw [hc] at h
       rw [dr _ _ _ hc]
       exact ihq _ _ h
    ·rw [if_neg g2] at h
     have ht : t ≠ [] := by intro ht; subst ht; exact q0 _ h
     have hl : 1 ≤ t.length := List.length_pos_iff.2 ht
     have g2' : pre [36, 40] (c :: t ++ e) = false := pre_no e (by simpa using g2) (by simp; omega)
     rw [List.cons_append] at g2'
     rw [if_neg (by rw [g2']; simp)]
     exact ihq _ _ h
theorem ops_tl {e : Bs} (he : Tl e) (r : Bs) : opsL.find? (fun o => pre o (r ++ e)) = opsL.find? (fun o => pre o r) := by
 have : ∀ o ∈ opsL, o.contains 10 = false := by decide
 have key : ∀ l : List Bs, (∀ o ∈ l, o.contains 10 = false) → l.find? (fun o => pre o (r ++ e)) = l.find? (fun o => pre o r) := by
  intro l
  induction l with
  | nil => intro _; rfl
  | cons o l ih =>
   intro hl
   rw [List.find?_cons, List.find?_cons, pre_tl (hl o (by simp)) he, ih (fun x hx => hl x (by simp [hx]))]
 exact key _ this
theorem marks_tl {e : Bs} (he : Tl e) (r : Bs) : marksL.find? (fun o => pre o (r ++ e)) = marksL.find? (fun o => pre o r) := by
 have : ∀ o ∈ marksL, o.contains 10 = false := by decide
 have key : ∀ l : List Bs, (∀ o ∈ l, o.contains 10 = false) → l.find? (fun o => pre o (r ++ e)) = l.find? (fun o => pre o r) := by
  intro l
  induction l with
  | nil => intro _; rfl
  | cons o l ih =>
   intro hl
   rw [List.find?_cons, List.find?_cons, pre_tl (hl o (by simp)) he, ih (fun x hx => hl x (by simp [hx]))]
 exact key _ this
theorem m1_10 : ([63, 35, 64, 42] : Bs).contains 10 = false := by decide
theorem m2_10 : ([63, 64, 42] : Bs).contains 10 = false := by decide
theorem parts_ext {e : Bs} (he : Tl e) (k : Nat) : ∀ f : Nat,
  (∀ w d out text i r ps j r', parts f w d out text i r = some (.ok (ps, j, r')) → (w = 0 ∨ e = [] ∨ r' ≠ []) → parts (f + k) w d out text i (r ++ e) = some (.ok (ps, j, r' ++ e))) ∧
  (∀ w d i r p j r', dollar f w d i r = some (.ok (p, j, r')) → r ≠ [] → dollar (f + k) w d i (r ++ e) = some (.ok (p, j, r' ++ e))) ∧
  (∀ w d fr i r p j r', braces f w d fr i r = some (.ok (p, j, r')) → braces (f + k) w d fr i (r ++ e) = some (.ok (p, j, r' ++ e))) := by
 intro f
 induction f with
 | zero => exact ⟨fun w d out text i r ps j r' h => by simp [parts] at h, fun w d i r p j r' h => by simp [dollar] at h, fun w d fr i r p j r' h => by simp [braces] at h⟩
 | succ f ih =>
  obtain ⟨ihp, ihd, ihb⟩ := ih
  refine ⟨?_, ?_, ?_⟩
  ·intro w d out text i r ps j r' h hw
   rw [Nat.add_right_comm]
   cases r with
   | nil =>
    simp only [parts, Option.some.injEq, Rz.ok.injEq, Prod.mk.injEq] at h
    obtain ⟨rfl, rfl, rfl⟩ := h
    rcases he with rfl | ⟨b, rfl⟩
    ·simp [parts]
    rcases hw with rfl | hw | hw
    ·rw [List.nil_append, parts_cons, if_pos (by decide)]
    ·cases hw
    ·exact (hw rfl).elim
   | cons c t =>
    rw [List.cons_append, parts_cons]
    rw [parts_cons] at h
    by_cases g0 : ends w c = true
    ·rw [if_pos g0] at h ⊢
     simp only [Option.some.injEq, Rz.ok.injEq, Prod.mk.injEq] at h
     obtain ⟨rfl, rfl, rfl⟩ := h
     rfl
    rw [if_neg g0] at h ⊢
    by_cases g1 : pre [92, 10] (c :: t) = true
    ·have g1' := pre_yes e g1
     rw [List.cons_append] at g1'
     rw [if_pos g1] at h
     rw [if_pos g1']
     have ht : 1 ≤ t.length := by have := pre_le g1; simp at this; omega
     rw [drop_app e ht]
     exact ihp _ _ _ _ _ _ _ _ _ h hw
    rw [if_neg g1] at h
    by_cases ht : t = []
    ·subst ht
     have h92 : (c == 92) = false := by
      rcases bb (c == 92) with g | g
      ·exfalso
       rcases bb (inQ w) with q | q
       ·rw [if_pos (by rw [g, q]; rfl)] at h; simp at h
       ·rw [if_neg (by rw [g, q]; decide), if_pos g] at h; simp at h
      ·exact g
     have g1' : pre [92, 10] (c :: ([] ++ e)) = false := by
      unfold pre
      rw [beq_eq_false_iff_ne]
      intro hh
      simp only [List.length_cons, List.length_nil, List.take_succ_cons] at hh
      injection hh with hh
      subst hh
      simp at h92
     rw [if_neg (by rw [g1']; simp)]
     rw [if_neg (by rw [h92]; simp)] at h ⊢
     rw [if_neg (by rw [h92]; simp)] at h ⊢
     by_cases g4 : (c == 36) = true
     ·rw [if_pos g4] at h ⊢
      cases hd : dollar f w d i [c] with
      | none => rw [hd] at h; cases h
      | some x =>
       cases x with
       | bad a b => rw [hd] at h; cases h
       | ok y =>
        obtain ⟨y, j1, r1⟩ := y
        have := ihd _ _ _ _ _ _ _ hd (by simp)
        rw [List.cons_append] at this
        rw [hd] at h
        rw [this]
        cases y with
        | none => exact ihp _ _ _ _ _ _ _ _ _ h hw
        | some y => exact ihp _ _ _ _ _ _ _ _ _ h hw
     rw [if_neg g4] at h ⊢
     by_cases g5 : (c == 96 || c == 34 && w == 4) = true
     ·rw [if_pos g5] at h; cases h
     rw [if_neg g5] at h ⊢
     by_cases g6 : (c == 39 && !inQ w) = true
     ·rw [if_pos g6] at h; simp [find] at h
     rw [if_neg g6] at h ⊢
     by_cases g7 : (c == 34 && !inQ w) = true
     ·rw [if_pos g7] at h
      exfalso
      cases hp : parts f 1 d [] [] (i + 1) [] with
      | none => rw [hp] at h; cases h
      | some x =>
       cases f with
       | zero => simp [parts] at hp
       | succ f =>
        simp only [parts, Option.some.injEq] at hp
        subst hp
        simp only [parts] at h
        rw [if_neg (by decide)] at h
        cases h
     rw [if_neg g7] at h ⊢
     exact ihp _ _ _ _ _ _ _ _ _ h hw
    have hl : 1 ≤ t.length := List.length_pos_iff.2 ht
    have g1' : pre [92, 10] (c :: t ++ e) = false := pre_no e (by simpa using g1) (by simp; omega)
    rw [List.cons_append] at g1'
    rw [if_neg (by rw [g1']; simp)]
    by_cases g2 : (c == 92 && inQ w) = true
    ·rw [if_pos g2] at h ⊢
     cases t with
     | nil => exact (ht rfl).elim
     | cons x t' => exact ihp _ _ _ _ _ _ _ _ _ h hw
    rw [if_neg g2] at h ⊢
    by_cases g3 : (c == 92) = true
    ·rw [if_pos g3] at h ⊢
     cases t with
     | nil => exact (ht rfl).elim
     | cons x t' => exact ihp _ _ _ _ _ _ _ _ _ h hw
    rw [if_neg g3] at h ⊢
    by_cases g4 : (c == 36) = true
    ·rw [if_pos g4] at h ⊢
     cases hd : dollar f w d i (c :: t) with
     | none => rw [hd] at h; cases h
     | some x =>
      cases x with
      | bad a b => rw [hd] at h; cases h
      | ok y =>
       obtain ⟨y, j1, r1⟩ := y
       have := ihd _ _ _ _ _ _ _ hd (by simp)
       rw [List.cons_append] at this
       rw [hd] at h
       rw [this]
       cases y with
       | none => exact ihp _ _ _ _ _ _ _ _ _ h hw
       | some y => exact ihp _ _ _ _ _ _ _ _ _ h hw
    rw [if_neg g4] at h ⊢
    by_cases g5 : (c == 96 || c == 34 && w == 4) = true
    ·rw [if_pos g5] at h; cases h
    rw [if_neg g5] at h ⊢
    by_cases g6 : (c == 39 && !inQ w) = true
    ·rw [if_pos g6] at h ⊢
     cases hf : find 39 t with
     | none => rw [hf] at h; cases h
     | some n =>
      rw [hf] at h
      rw [find_app e hf]
      have := find_lt hf
      dsimp only at h ⊢
      rw [drop_app e (by omega), take_app e (by omega)]
      exact ihp _ _ _ _ _ _ _ _ _ h hw
    rw [if_neg g6] at h ⊢
    by_cases g7 : (c == 34 && !inQ w) = true
    ·rw [if_pos g7] at h ⊢
     cases hp : parts f 1 d [] [] (i + 1) t with
     | none => rw [hp] at h; cases h
     | some x =>
      cases x with
      | bad a b => rw [hp] at h; cases h
      | ok y =>
       obtain ⟨ps1, j1, r1⟩ := y
       rw [hp] at h
       dsimp only at h
       by_cases g8 : pre [34] r1 = true
       ·rw [if_pos g8] at h
        have hl1 := pre_le g8
        have hr1 : r1 ≠ [] := by intro hh; subst hh; simp at hl1
        rw [ihp _ _ _ _ _ _ _ _ _ hp (.inr (.inr hr1))]
        dsimp only
        rw [if_pos (pre_yes e g8), drop_app e (by simpa using hl1)]
        exact ihp _ _ _ _ _ _ _ _ _ h hw
       ·rw [if_neg g8] at h; cases h
    rw [if_neg g7] at h ⊢
    exact ihp _ _ _ _ _ _ _ _ _ h hw
  ·intro w d i r p j r' h hr
   rw [Nat.add_right_comm]
   have hrl : 1 ≤ r.length := List.length_pos_iff.2 hr
   have e1 : pre [36, 40, 40] (r ++ e) = pre [36, 40, 40] r := pre_tl (by decide) he r
   have e2 : pre [36, 40] (r ++ e) = pre [36, 40] r := pre_tl (by decide) he r
   have e3 : pre [36, 123] (r ++ e) = pre [36, 123] r := pre_tl (by decide) he r
   have e4 : (r ++ e).drop 1 = r.drop 1 ++ e := drop_app e hrl
   have e5 : paramLen [63, 35, 64, 42] (r.drop 1 ++ e) = paramLen [63, 35, 64, 42] (r.drop 1) := paramLen_tl m1_10 he _
   simp only [dollar] at h ⊢
   rw [e1, e2, e3, e4, e5]
   by_cases g0 : pre [36, 40, 40] r = true
   ·rw [if_pos g0] at h; cases h
   rw [if_neg g0] at h ⊢
   by_cases g1 : pre [36, 40] r = true
   ·rw [if_pos g1] at h ⊢
    have hl := pre_le g1
    simp only [List.length_cons, List.length_nil, Nat.zero_add] at hl
    rw [drop_app e hl]
    cases hc : closed f 1 (r.drop 2) with
    | none => rw [hc] at h; cases h
    | some x =>
     cases x with
     | none => rw [hc] at h; cases h
     | some r1 =>
      rw [hc] at h
      rw [(closed_ext e k f).1 _ _ _ hc]
      have hcl := (closed_len f).1 _ _ _ hc
      simp only [List.length_drop] at hcl
      simp only [Option.some.injEq, Rz.ok.injEq, Prod.mk.injEq, List.length_append] at h ⊢
      obtain ⟨rfl, rfl, rfl⟩ := h
      have q1 : r.length + e.length - 2 - (r1.length + e.length) - 1 = r.length - 2 - r1.length - 1 := by omega
      have q2 : r.length + e.length - (r1.length + e.length) = r.length - r1.length := by omega
      rw [q1, q2, take_app e (by simp; omega)]
      exact ⟨rfl, rfl, rfl⟩
   rw [if_neg g1] at h ⊢
   by_cases g2 : pre [36, 123] r = true
   ·rw [if_pos g2] at h ⊢
    have hl := pre_le g2
    simp only [List.length_cons, List.length_nil, Nat.zero_add] at hl
    rw [drop_app e hl]
    cases hb : braces f w d i (i + 2) (r.drop 2) with
    | none => rw [hb] at h; cases h
    | some x =>
     cases x with
     | bad a b => rw [hb] at h; cases h
     | ok y =>
      obtain ⟨y, j1, r1⟩ := y
      rw [hb] at h
      rw [ihb _ _ _ _ _ _ _ _ hb]
      simp only [Option.some.injEq, Rz.ok.injEq, Prod.mk.injEq] at h ⊢
      obtain ⟨rfl, rfl, rfl⟩ := h
      exact ⟨rfl, rfl, rfl⟩
   rw [if_neg g2] at h ⊢
   by_cases g3 : (paramLen [63, 35, 64, 42] (r.drop 1) == 0) = true
   ·rw [if_pos g3] at h ⊢
    simp only [Option.some.injEq, Rz.ok.injEq, Prod.mk.injEq] at h ⊢
    obtain ⟨rfl, rfl, rfl⟩ := h
    exact ⟨rfl, rfl, rfl⟩
   rw [if_neg g3] at h ⊢
   have hp := paramLen_le' [63, 35, 64, 42] (r.drop 1)
   rw [drop_app e hp, take_app e hp]
   simp only [Option.some.injEq, Rz.ok.injEq, Prod.mk.injEq] at h ⊢
   obtain ⟨rfl, rfl, rfl⟩ := h
   exact ⟨rfl, rfl, rfl⟩
  ·intro w d fr i r p j r' h
   rw [Nat.add_right_comm]
   have e1 : pre [35] (r ++ e) = pre [35] r := pre_tl (by decide) he r
   have e5 : paramLen [63, 35, 64, 42] (r ++ e) = paramLen [63, 35, 64, 42] r := paramLen_tl m1_10 he _
   have hp := paramLen_le' [63, 35, 64, 42] r
   have e6 : (r ++ e).drop (paramLen [63, 35, 64, 42] r) = r.drop (paramLen [63, 35, 64, 42] r) ++ e := drop_app e hp
   simp only [braces] at h ⊢
   rw [e1, e5, e6]
   by_cases g0 : 20 ≤ d
   ·rw [if_pos g0] at h; cases h
   rw [if_neg g0] at h ⊢
   have hlen : (pre [35] r && (paramLen [63, 64, 42] ((r ++ e).drop 1) != 0 && pre [125] ((r ++ e).drop (1 + paramLen [63, 64, 42] ((r ++ e).drop 1))))) = (pre [35] r && (paramLen [63, 64, 42] (r.drop 1) != 0 && pre [125] (r.drop (1 + paramLen [63, 64, 42] (r.drop 1))))) := by
    rcases bb (pre [35] r) with g | g
    ·have hl := pre_le g
     simp only [List.length_cons, List.length_nil, Nat.zero_add] at hl
     have hp2 := paramLen_le' [63, 64, 42] (r.drop 1)
     simp only [List.length_drop] at hp2
     rw [drop_app e hl, paramLen_tl m2_10 he, drop_app e (by omega), pre_tl (by decide) he]
    ·rw [g]; rfl
   rw [hlen]
   by_cases g1 : (pre [35] r && (paramLen [63, 64, 42] (r.drop 1) != 0 && pre [125] (r.drop (1 + paramLen [63, 64, 42] (r.drop 1))))) = true
   ·rw [if_pos g1] at h ⊢
    simp only [Bool.and_eq_true] at g1
    have hl := pre_le g1.1
    simp only [List.length_cons, List.length_nil, Nat.zero_add] at hl
    have hl2 := pre_le g1.2.2
    simp only [List.length_cons, List.length_nil, List.length_drop, Nat.zero_add] at hl2
    have hp2 := paramLen_le' [63, 64, 42] (r.drop 1)
    rw [drop_app e hl, paramLen_tl m2_10 he, take_app e hp2, drop_app e (by omega)]
    simp only [Option.some.injEq, Rz.ok.injEq, Prod.mk.injEq] at h ⊢
    obtain ⟨rfl, rfl, rfl⟩ := h
    exact ⟨rfl, rfl, rfl⟩
   rw [if_neg g1] at h ⊢
   by_cases g2 : (paramLen [63, 35, 64, 42] r == 0) = true
   ·rw [if_pos g2] at h; cases h
   rw [if_neg g2] at h ⊢
   rw [pre_tl (p := [125]) (by decide) he, ops_tl he]
   by_cases g3 : pre [125] (r.drop (paramLen [63, 35, 64, 42] r)) = true
   ·rw [if_pos g3] at h ⊢
    have hl := pre_le g3
    simp only [List.length_cons, List.length_nil, List.length_drop] at hl
    rw [take_app e hp, drop_app e (by omega)]
    simp only [Option.some.injEq, Rz.ok.injEq, Prod.mk.injEq] at h ⊢
    obtain ⟨rfl, rfl, rfl⟩ := h
    exact ⟨rfl, rfl, rfl⟩
   rw [if_neg g3] at h ⊢
   cases ho : opsL.find? (fun o => pre o (r.drop (paramLen [63, 35, 64, 42] r))) with
   | none => rw [ho] at h; cases h
   | some o =>
    rw [ho] at h
    have hl := pre_le (t := o) (r := r.drop (paramLen [63, 35, 64, 42] r)) (by simpa using List.find?_some ho)
    simp only [List.length_drop] at hl
    dsimp only at h ⊢
    rw [drop_app e (by omega), take_app e hp]
    cases hq : parts f (if inQ w then 4 else 3) (d + 1) [] [] (i + paramLen [63, 35, 64, 42] r + o.length) (r.drop (paramLen [63, 35, 64, 42] r + o.length)) with
    | none => rw [hq] at h; cases h
    | some x =>
     cases x with
     | bad a b => rw [hq] at h; cases h
     | ok y =>
      obtain ⟨ws, j1, r1⟩ := y
      rw [hq] at h
      dsimp only at h
      by_cases g4 : pre [125] r1 = true
      ·rw [if_pos g4] at h
       have hl1 := pre_le g4
       have hr1 : r1 ≠ [] := by intro hh; subst hh; simp at hl1
       rw [ihp _ _ _ _ _ _ _ _ _ hq (.inr (.inr hr1))]
       dsimp only
       rw [if_pos (pre_yes e g4), drop_app e (by simpa using hl1)]
       simp only [Option.some.injEq, Rz.ok.injEq, Prod.mk.injEq] at h ⊢
       obtain ⟨rfl, rfl, rfl⟩ := h
       exact ⟨rfl, rfl, rfl⟩
      ·rw [if_neg g4] at h; cases h
end Go.Proofs.YteekjekckgpbfaaDoor.Sp
end
section
namespace Go.Proofs.YteekjekckgpbfaaDoor.Sp
theorem nameFrom_le : ∀ (r : Bs) (n : Nat), nameFrom n r ≤ n + r.length := by
 intro r
 induction r with
 | nil => intro n; simp [nameFrom]
 | cons c r ih => intro n; simp only [nameFrom]; split; have := ih (n + 1); simp; omega; simp
theorem parts_at : ∀ f : Nat,
  (∀ w d out text i r ps j r', parts f w d out text i r = some (.ok (ps, j, r')) → j + r'.length = i + r.length) ∧
  (∀ w d i r x j r', dollar f w d i r = some (.ok (x, j, r')) → r ≠ [] → j + r'.length = i + r.length) ∧
  (∀ w d fr i r p j r', braces f w d fr i r = some (.ok (p, j, r')) → j + r'.length = i + r.length) := by
 intro f
 induction f with
 | zero => exact ⟨fun w d out text i r ps j r' h => by simp [parts] at h, fun w d i r p j r' h => by simp [dollar] at h, fun w d fr i r p j r' h => by simp [braces] at h⟩
 | succ f ih =>
  obtain ⟨ihp, ihd, ihb⟩ := ih
  refine ⟨?_, ?_, ?_⟩
  ·intro w d out text i r ps j r' h
   cases r with
   | nil =>
    simp only [parts, Option.some.injEq, Rz.ok.injEq, Prod.mk.injEq] at h
    obtain ⟨rfl, rfl, rfl⟩ := h
    rfl
   | cons c t =>
    rw [parts_cons] at h
    by_cases g0 : ends w c = true
    ·rw [if_pos g0] at h
     simp only [Option.some.injEq, Rz.ok.injEq, Prod.mk.injEq] at h
     obtain ⟨rfl, rfl, rfl⟩ := h
     rfl
    rw [if_neg g0] at h
    by_cases g1 : pre [92, 10] (c :: t) = true
    ·rw [if_pos g1] at h
     have h2 := pre_le g1
     have := ihp _ _ _ _ _ _ _ _ _ h
     simp at this h2 ⊢; omega
    rw [if_neg g1] at h
    by_cases g2 : (c == 92 && inQ w) = true
    ·rw [if_pos g2] at h
     cases t with
     | nil => cases h
     | cons x t' => have := ihp _ _ _ _ _ _ _ _ _ h; simp; omega
    rw [if_neg g2] at h
    by_cases g3 : (c == 92) = true
    ·rw [if_pos g3] at h
     cases t with
     | nil => cases h
     | cons x t' => have := ihp _ _ _ _ _ _ _ _ _ h; simp; omega
    rw [if_neg g3] at h
    by_cases g4 : (c == 36) = true
    ·rw [if_pos g4] at h
     cases hd : dollar f w d i (c :: t) with
     | none => rw [hd] at h; cases h
     | some x =>
      cases x with
      | bad a b => rw [hd] at h; cases h
      | ok y =>
       obtain ⟨y, j1, r1⟩ := y
       have h1 := ihd _ _ _ _ _ _ _ hd (by simp)
       rw [hd] at h
       cases y with
       | none => have := ihp _ _ _ _ _ _ _ _ _ h; omega
       | some y => have := ihp _ _ _ _ _ _ _ _ _ h; omega
    rw [if_neg g4] at h
    by_cases g5 : (c == 96 || c == 34 && w == 4) = true
    ·rw [if_pos g5] at h; cases h
    rw [if_neg g5] at h
    by_cases g6 : (c == 39 && !inQ w) = true
    ·rw [if_pos g6] at h
     cases hf : find 39 t with
     | none => rw [hf] at h; cases h
     | some n =>
      rw [hf] at h
      have h1 := find_lt hf
      have := ihp _ _ _ _ _ _ _ _ _ h
      simp at this ⊢; omega
    rw [if_neg g6] at h
    by_cases g7 : (c == 34 && !inQ w) = true
    ·rw [if_pos g7] at h
     cases hp : parts f 1 d [] [] (i + 1) t with
     | none => rw [hp] at h; cases h
     | some x =>
      cases x with
      | bad a b => rw [hp] at h; cases h
      | ok y =>
       obtain ⟨ps1, j1, r1⟩ := y
       rw [hp] at h
       dsimp only at h
       have h1 := ihp _ _ _ _ _ _ _ _ _ hp
       by_cases g8 : pre [34] r1 = true
       ·rw [if_pos g8] at h
        have hl1 := pre_le g8
        have := ihp _ _ _ _ _ _ _ _ _ h
        simp at this hl1 ⊢; omega
       ·rw [if_neg g8] at h; cases h
    rw [if_neg g7] at h
    have := ihp _ _ _ _ _ _ _ _ _ h
    simp; omega
  ·intro w d i r p j r' h hr
   have hrl : 1 ≤ r.length := List.length_pos_iff.2 hr
   simp only [dollar] at h
   by_cases g0 : pre [36, 40, 40] r = true
   ·rw [if_pos g0] at h; cases h
   rw [if_neg g0] at h
   by_cases g1 : pre [36, 40] r = true
   ·rw [if_pos g1] at h
    have hl := pre_le g1
    cases hc : closed f 1 (r.drop 2) with
    | none => rw [hc] at h; cases h
    | some x =>
     cases x with
     | none => rw [hc] at h; cases h
     | some r1 =>
      rw [hc] at h
      have hcl := (closed_len f).1 _ _ _ hc
      simp only [List.length_drop] at hcl
      simp only [Option.some.injEq, Rz.ok.injEq, Prod.mk.injEq] at h
      obtain ⟨rfl, rfl, rfl⟩ := h
      omega
   rw [if_neg g1] at h
   by_cases g2 : pre [36, 123] r = true
   ·rw [if_pos g2] at h
    have hl := pre_le g2
    cases hb : braces f w d i (i + 2) (r.drop 2) with
    | none => rw [hb] at h; cases h
    | some x =>
     cases x with
     | bad a b => rw [hb] at h; cases h
     | ok y =>
      obtain ⟨y, j1, r1⟩ := y
      rw [hb] at h
      have h1 := ihb _ _ _ _ _ _ _ _ hb
      simp only [Option.some.injEq, Rz.ok.injEq, Prod.mk.injEq] at h
      obtain ⟨rfl, rfl, rfl⟩ := h
      simp at h1 hl; omega
   rw [if_neg g2] at h
   have hp := paramLen_le' [63, 35, 64, 42] (r.drop 1)
   by_cases g3 : (paramLen [63, 35, 64, 42] (r.drop 1) == 0) = true
   ·rw [if_pos g3] at h
    simp only [Option.some.injEq, Rz.ok.injEq, Prod.mk.injEq] at h
    obtain ⟨rfl, rfl, rfl⟩ := h
    simp; omega
   rw [if_neg g3] at h
   simp only [Option.some.injEq, Rz.ok.injEq, Prod.mk.injEq] at h
   obtain ⟨rfl, rfl, rfl⟩ := h
   simp at hp ⊢; omega
  ·intro w d fr i r p j r' h
   have hp := paramLen_le' [63, 35, 64, 42] r
   simp only [braces] at h
   by_cases g0 : 20 ≤ d
   ·rw [if_pos g0] at h; cases h
   rw [if_neg g0] at h
   by_cases g1 : (pre [35] r && (paramLen [63, 64, 42] (r.drop 1) != 0 && pre [125] (r.drop (1 + paramLen [63, 64, 42] (r.drop 1))))) = true
   ·rw [if_pos g1] at h
    simp only [Bool.and_eq_true] at g1
    have hl2 := pre_le g1.2.2
    simp only [Option.some.injEq, Rz.ok.injEq, Prod.mk.injEq] at h
    obtain ⟨rfl, rfl, rfl⟩ := h
    simp at hl2 ⊢; omega
   rw [if_neg g1] at h
   by_cases g2 : (paramLen [63, 35, 64, 42] r == 0) = true
   ·rw [if_pos g2] at h; cases h
   rw [if_neg g2] at h
   by_cases g3 : pre [125] (r.drop (paramLen [63, 35, 64, 42] r)) = true
   ·rw [if_pos g3] at h
    have hl := pre_le g3
    simp only [Option.some.injEq, Rz.ok.injEq, Prod.mk.injEq] at h
    obtain ⟨rfl, rfl, rfl⟩ := h
    simp at hl ⊢; omega
   rw [if_neg g3] at h
   cases ho : opsL.find? (fun o => pre o (r.drop (paramLen [63, 35, 64, 42] r))) with
   | none => rw [ho] at h; cases h
   | some o =>
    rw [ho] at h
    have hl := pre_le (t := o) (r := r.drop (paramLen [63, 35, 64, 42] r)) (by simpa using List.find?_some ho)
    simp only [List.length_drop] at hl
    dsimp only at h
    cases hq : parts f (if inQ w then 4 else 3) (d + 1) [] [] (i + paramLen [63, 35, 64, 42] r + o.length) (r.drop (paramLen [63, 35, 64, 42] r + o.length)) with
    | none => rw [hq] at h; cases h
    | some x =>
     cases x with
     | bad a b => rw [hq] at h; cases h
     | ok y =>
      obtain ⟨ws, j1, r1⟩ := y
      rw [hq] at h
      dsimp only at h
      have h1 := ihp _ _ _ _ _ _ _ _ _ hq
      by_cases g4 : pre [125] r1 = true
      ·rw [if_pos g4] at h
       have hl1 := pre_le g4
       simp only [Option.some.injEq, Rz.ok.injEq, Prod.mk.injEq] at h
       obtain ⟨rfl, rfl, rfl⟩ := h
       simp at h1 hl1 ⊢; omega
      ·rw [if_neg g4] at h; cases h
/-! ### Blanks -/
theorem skip_at : ∀ (n i : Nat) (r : Bs), r.length ≤ n → (skip i r).1 + (skip i r).2.length = i + r.length := by
 intro n
 induction n with
 | zero => intro i r h; have : r = [] := List.length_eq_zero_iff.1 (by omega); subst this; simp [skip]
 | succ n ih =>
  intro i r h
  cases r with
  | nil => simp [skip]
  | cons c t =>
   simp only [List.length_cons] at h
   cases t with
   | nil =>
    unfold skip
    by_cases g0 : (c == 32 || c == 9) = true
    ·rw [if_pos g0]; simp [skip]
    rw [if_neg g0]
    by_cases g1 : (c == 92) = true
    ·rw [if_pos g1]
    ·rw [if_neg g1]
   | cons d t =>
    unfold skip
    by_cases g0 : (c == 32 || c == 9) = true
    ·rw [if_pos g0]; have := ih (i + 1) (d :: t) (by omega); simp at this ⊢; omega
    rw [if_neg g0]
    by_cases g1 : (c == 92) = true
    ·rw [if_pos g1]
     dsimp only
     by_cases g2 : (d == 10) = true
     ·rw [if_pos g2]; have := ih (i + 2) t (by simp at h; omega); simp at this ⊢; omega
     ·rw [if_neg g2]
    ·rw [if_neg g1]
theorem skip_cc (i : Nat) (c d : UInt8) (t : Bs) : skip i (c :: d :: t) = if c == 32 || c == 9 then skip (i + 1) (d :: t) else if c == 92 then (if d == 10 then skip (i + 2) t else (i, c :: d :: t)) else (i, c :: d :: t) := by
 conv => lhs; unfold skip
theorem skip_tl (b : Bs) : ∀ (n i : Nat) (r : Bs), r.length ≤ n → (skip i r).2 ≠ [92] → skip i (r ++ 10 :: b) = ((skip i r).1, (skip i r).2 ++ 10 :: b) := by
 have hnil : ∀ i, skip i (10 :: b) = (i, 10 :: b) := by
  intro i
  unfold skip
  rw [if_neg (by decide), if_neg (by decide)]
 intro n
 induction n with
 | zero => intro i r h hs; have : r = [] := List.length_eq_zero_iff.1 (by omega); subst this; exact hnil i
 | succ n ih =>
  intro i r h hs
  cases r with
  | nil => exact hnil i
  | cons c t =>
   simp only [List.length_cons] at h
   cases t with
   | nil =>
    unfold skip at hs ⊢
    by_cases g0 : (c == 32 || c == 9) = true
    ·rw [if_pos g0] at hs ⊢
     simp only [List.cons_append, List.nil_append]
     rw [if_pos g0]
     exact hnil _
    rw [if_neg g0] at hs ⊢
    by_cases g1 : (c == 92) = true
    ·rw [if_pos g1] at hs
     exfalso
     have : c = 92 := by simpa using g1
     subst this
     exact hs rfl
    ·rw [if_neg g1]
     simp only [List.cons_append, List.nil_append]
     rw [if_neg g0, if_neg g1]
   | cons d t =>
    rw [List.cons_append, List.cons_append, skip_cc, ← List.cons_append]
    rw [skip_cc] at hs ⊢
    by_cases g0 : (c == 32 || c == 9) = true
    ·rw [if_pos g0] at hs ⊢; rw [if_pos g0]; exact ih _ _ (by omega) hs
    rw [if_neg g0] at hs ⊢
    rw [if_neg g0]
    by_cases g1 : (c == 92) = true
    ·rw [if_pos g1] at hs ⊢
     rw [if_pos g1]
     by_cases g2 : (d == 10) = true
     ·rw [if_pos g2] at hs ⊢; rw [if_pos g2]; exact ih _ _ (by simp at h; omega) hs
     ·rw [if_neg g2, if_neg g2]; rfl
    ·rw [if_neg g1, if_neg g1]; rfl
theorem skip_mv (k : Nat) : ∀ (n i : Nat) (r : Bs), r.length ≤ n → skip (i + k) r = ((skip i r).1 + k, (skip i r).2) := by
 intro n
 induction n with
 | zero => intro i r h; have : r = [] := List.length_eq_zero_iff.1 (by omega); subst this; rfl
 | succ n ih =>
  intro i r h
  cases r with
  | nil => rfl
  | cons c t =>
   simp only [List.length_cons] at h
   cases t with
   | nil =>
    unfold skip
    by_cases g0 : (c == 32 || c == 9) = true
    ·rw [if_pos g0, if_pos g0]; simp [skip]; omega
    rw [if_neg g0, if_neg g0]
    by_cases g1 : (c == 92) = true
    ·rw [if_pos g1, if_pos g1]
    ·rw [if_neg g1, if_neg g1]
   | cons d t =>
    unfold skip
    by_cases g0 : (c == 32 || c == 9) = true
    ·rw [if_pos g0, if_pos g0, show i + k + 1 = i + 1 + k by omega]; exact ih _ _ (by omega)
    rw [if_neg g0, if_neg g0]
    by_cases g1 : (c == 92) = true
    ·rw [if_pos g1, if_pos g1]
     dsimp only
     by_cases g2 : (d == 10) = true
     ·rw [if_pos g2, if_pos g2, show i + k + 2 = i + 2 + k by omega]; exact ih _ _ (by simp at h; omega)
     ·rw [if_neg g2, if_neg g2]
    ·rw [if_neg g1, if_neg g1]
/-! ### Rows and here-documents -/
theorem row_tl (b : Bs) (r : Bs) : row (r ++ 10 :: b) = row r := by
 induction r with
 | nil => rfl
 | cons c t ih =>
  unfold row at ih ⊢
  rw [List.cons_append, List.takeWhile_cons, List.takeWhile_cons, ih]
theorem row_le (r : Bs) : (row r).length ≤ r.length := (List.takeWhile_prefix _).length_le
theorem docRows_nil (last : Bs) (f : Nat) (acc : Bs) (i : Nat) {x : Bs × Nat × Bs} (h : docRows last f acc i [] = some (.ok x)) : False := by
 cases f with
 | zero => simp [docRows] at h
 | succ f => simp [docRows] at h
theorem docRows_line (last : Bs) : ∀ (f : Nat) (acc : Bs) (i : Nat) (r text : Bs) (j : Nat) (r' : Bs), docRows last f acc i r = some (.ok (text, j, r')) →
  j + r'.length = i + r.length ∧ ((∀ k b, docRows last (f + k) acc i (r ++ 10 :: b) = some (.ok (text, j, r' ++ 10 :: b))) ∨ (r' = [] ∧ ∀ k b, docRows last (f + k) acc i (r ++ 10 :: b) = some (.ok (text, j + 1, b)))) := by
 intro f
 induction f with
 | zero => intro acc i r text j r' h; simp [docRows] at h
 | succ f ih =>
  intro acc i r text j r' h
  have he : ∀ b : Bs, (r ++ 10 :: b).isEmpty = false := fun b => by cases r <;> rfl
  have hrl := row_le r
  simp only [docRows] at h
  by_cases g0 : r.isEmpty = true
  ·rw [if_pos g0] at h; cases h
  rw [if_neg g0] at h
  by_cases g1 : (row r == last) = true
  ·rw [if_pos g1] at h
   have g1' : row r = last := by simpa using g1
   simp only [Option.some.injEq, Rz.ok.injEq, Prod.mk.injEq] at h
   obtain ⟨rfl, rfl, rfl⟩ := h
   refine ⟨by rw [← g1']; simp; omega, ?_⟩
   by_cases hl : last.length + 1 ≤ r.length
   ·refine .inl fun k b => ?_
    rw [Nat.add_right_comm]
    simp only [docRows]
    rw [if_neg (by rw [he]; simp), row_tl, if_pos g1, drop_app _ hl]
    have : min (last.length + 1) (r ++ 10 :: b).length = min (last.length + 1) r.length := by simp; omega
    rw [this]
   ·have hl2 : last.length = r.length := by rw [← g1'] at hl ⊢; omega
    refine .inr ⟨List.drop_eq_nil_of_le (by omega), fun k b => ?_⟩
    rw [Nat.add_right_comm]
    simp only [docRows]
    rw [if_neg (by rw [he]; simp), row_tl, if_pos g1]
    have e1 : min (last.length + 1) (r ++ 10 :: b).length = min (last.length + 1) r.length + 1 := by simp; omega
    have e2 : (r ++ 10 :: b).drop (last.length + 1) = b := by rw [hl2, ← List.drop_drop, List.drop_left]; rfl
    rw [e1, e2]
    rfl
  ·rw [if_neg g1] at h
   by_cases hl : (row r).length + 1 ≤ r.length
   ·have hi := ih _ _ _ _ _ _ h
    refine ⟨by have := hi.1; simp at this; omega, ?_⟩
    have e0 : ∀ b, min ((row r).length + 1) (r ++ 10 :: b).length = min ((row r).length + 1) r.length := fun b => by simp; omega
    rcases hi.2 with hi | ⟨h1, hi⟩
    ·refine .inl fun k b => ?_
     rw [Nat.add_right_comm]
     simp only [docRows]
     rw [if_neg (by rw [he]; simp), row_tl, if_neg g1, drop_app _ hl, take_app _ hl, e0]
     exact hi k b
    ·refine .inr ⟨h1, fun k b => ?_⟩
     rw [Nat.add_right_comm]
     simp only [docRows]
     rw [if_neg (by rw [he]; simp), row_tl, if_neg g1, drop_app _ hl, take_app _ hl, e0]
     exact hi k b
   ·rw [List.drop_eq_nil_of_le (by omega)] at h
    exact (docRows_nil _ _ _ _ h).elim
theorem docRows_mono (last : Bs) (k : Nat) : ∀ (f : Nat) (acc : Bs) (i : Nat) (r : Bs) (x : Bs × Nat × Bs), docRows last f acc i r = some (.ok x) → docRows last (f + k) acc i r = some (.ok x) := by
 intro f
 induction f with
 | zero => intro acc i r x h; simp [docRows] at h
 | succ f ih =>
  intro acc i r x h
  rw [Nat.add_right_comm]
  simp only [docRows] at h ⊢
  by_cases g0 : r.isEmpty = true
  ·rw [if_pos g0] at h; cases h
  rw [if_neg g0] at h ⊢
  by_cases g1 : (row r == last) = true
  ·rw [if_pos g1] at h ⊢; exact h
  ·rw [if_neg g1] at h ⊢; exact ih _ _ _ _ h
theorem parts_mono (k : Nat) {f w d : Nat} {out : List Part} {text : Bs} {i : Nat} {r : Bs} {x : List Part × Nat × Bs} (h : parts f w d out text i r = some (.ok x)) : parts (f + k) w d out text i r = some (.ok x) := by
 obtain ⟨ps, j, r'⟩ := x
 have := (parts_ext (e := []) (.inl rfl) k f).1 _ _ _ _ _ _ _ _ _ h (.inr (.inl rfl))
 simpa using this
theorem docs_mono (f k : Nat) : ∀ (ws : List (Nat × Bs)) (toks : List Tok) (i : Nat) (r : Bs) (x : List Tok × Nat × Bs), docs f ws toks i r = some (.ok x) → docs (f + k) ws toks i r = some (.ok x) := by
 intro ws
 induction ws with
 | nil => intro toks i r x h; exact h
 | cons w ws ih =>
  obtain ⟨k0, last⟩ := w
  intro toks i r x h
  simp only [docs] at h ⊢
  cases hd : docRows last f [] i r with
  | none => rw [hd] at h; cases h
  | some y =>
   cases y with
   | bad a b => rw [hd] at h; cases h
   | ok y =>
    obtain ⟨text, i1, r1⟩ := y
    rw [hd] at h
    rw [docRows_mono last k _ _ _ _ _ hd]
    dsimp only at h ⊢
    cases ht : toks[k0]? with
    | none => rw [ht] at h; cases h
    | some t =>
     rw [ht] at h
     dsimp only at h ⊢
     by_cases hq : t.quoted = true
     ·rw [if_pos hq] at h ⊢; exact ih _ _ _ _ h
     ·rw [if_neg hq] at h ⊢
      cases hp : parts f 2 0 [] [] i text with
      | none => rw [hp] at h; cases h
      | some z =>
       cases z with
       | bad a b => rw [hp] at h; cases h
       | ok z =>
        rw [hp] at h
        rw [parts_mono k hp]
        obtain ⟨ps, z1, z2⟩ := z
        exact ih _ _ _ _ h
def sk (toks : List Tok) : List (Nat × Nat) := toks.map fun t => (t.kind, t.at')
theorem sk_set {toks : List Tok} {k : Nat} {t u : Tok} (h : toks[k]? = some t) (h1 : u.kind = t.kind) (h2 : u.at' = t.at') : sk (toks.set k u) = sk toks := by
 unfold sk
 rw [List.map_set]
 refine List.ext_getElem? fun j => ?_
 rw [List.getElem?_set]
 split
 ·rename_i hj
  subst hj
  have hlt : k < toks.length := (List.getElem?_eq_some_iff.1 h).1
  simp [hlt, h, h1, h2]
  have := (List.getElem?_eq_some_iff.1 h).2
  simp [this]
 ·rfl
theorem docs_sk (f : Nat) : ∀ (ws : List (Nat × Bs)) (toks : List Tok) (i : Nat) (r : Bs) (toks' : List Tok) (j : Nat) (r' : Bs), docs f ws toks i r = some (.ok (toks', j, r')) → sk toks' = sk toks ∧ j + r'.length = i + r.length := by
 intro ws
 induction ws with
 | nil =>
  intro toks i r toks' j r' h
  simp only [docs, Option.some.injEq, Rz.ok.injEq, Prod.mk.injEq] at h
  obtain ⟨rfl, rfl, rfl⟩ := h
  exact ⟨rfl, rfl⟩
 | cons w ws ih =>
  obtain ⟨k0, last⟩ := w
  intro toks i r toks' j r' h
  simp only [docs] at h
  cases hd : docRows last f [] i r with
  | none => rw [hd] at h; cases h
  | some y =>
   cases y with
   | bad a b => rw [hd] at h; cases h
   | ok y =>
    obtain ⟨text, i1, r1⟩ := y
    have hat := (docRows_line last _ _ _ _ _ _ _ hd).1
    rw [hd] at h
    dsimp only at h
    cases ht : toks[k0]? with
    | none => rw [ht] at h; cases h
    | some t =>
     rw [ht] at h
     dsimp only at h
     by_cases hq : t.quoted = true
     ·rw [if_pos hq] at h
      obtain ⟨a, b⟩ := ih _ _ _ _ _ _ h
      exact ⟨a.trans (sk_set ht rfl rfl), by omega⟩
     ·rw [if_neg hq] at h
      cases hp : parts f 2 0 [] [] i text with
      | none => rw [hp] at h; cases h
      | some z =>
       cases z with
       | bad a b => rw [hp] at h; cases h
       | ok z =>
        rw [hp] at h
        obtain ⟨ps, z1, z2⟩ := z
        obtain ⟨a, b⟩ := ih _ _ _ _ _ _ h
        exact ⟨a.trans (sk_set ht rfl rfl), by omega⟩
theorem docs_line (f : Nat) : ∀ (ws : List (Nat × Bs)) (toks : List Tok) (i : Nat) (r : Bs) (toks' : List Tok) (j : Nat) (r' : Bs), docs f ws toks i r = some (.ok (toks', j, r')) →
  (∀ k b, docs (f + k) ws toks i (r ++ 10 :: b) = some (.ok (toks', j, r' ++ 10 :: b))) ∨ (r' = [] ∧ ws ≠ [] ∧ ∀ k b, docs (f + k) ws toks i (r ++ 10 :: b) = some (.ok (toks', j + 1, b))) := by
 intro ws
 induction ws with
 | nil =>
  intro toks i r toks' j r' h
  simp only [docs, Option.some.injEq, Rz.ok.injEq, Prod.mk.injEq] at h
  obtain ⟨rfl, rfl, rfl⟩ := h
  exact .inl fun k b => rfl
 | cons w ws ih =>
  obtain ⟨k0, last⟩ := w
  intro toks i r toks' j r' h
  simp only [docs] at h
  cases hd : docRows last f [] i r with
  | none => rw [hd] at h; cases h
  | some y =>
   cases y with
   | bad a b => rw [hd] at h; cases h
   | ok y =>
    obtain ⟨text, i1, r1⟩ := y
    have hline := (docRows_line last _ _ _ _ _ _ _ hd).2
    rw [hd] at h
    dsimp only at h
    cases ht : toks[k0]? with
    | none => rw [ht] at h; cases h
    | some t =>
     rw [ht] at h
     dsimp only at h
     have key : ∀ u, docs f ws (toks.set k0 u) i1 r1 = some (.ok (toks', j, r')) → (∀ k b i2 r2, docRows last (f + k) [] i (r ++ 10 :: b) = some (.ok (text, i2, r2)) → docs (f + k) ((k0, last) :: ws) toks i (r ++ 10 :: b) = docs (f + k) ws (toks.set k0 u) i2 r2) →
       (∀ k b, docs (f + k) ((k0, last) :: ws) toks i (r ++ 10 :: b) = some (.ok (toks', j, r' ++ 10 :: b))) ∨ (r' = [] ∧ (k0, last) :: ws ≠ [] ∧ ∀ k b, docs (f + k) ((k0, last) :: ws) toks i (r ++ 10 :: b) = some (.ok (toks', j + 1, b))) := by
      intro u hu hst
      rcases hline with hA | ⟨hr1, hB⟩
      ·rcases ih _ _ _ _ _ _ hu with hC | ⟨c1, c2, c3⟩
       ·exact .inl fun k b => (hst k b _ _ (hA k b)).trans (hC k b)
       ·exact .inr ⟨c1, by simp, fun k b => (hst k b _ _ (hA k b)).trans (c3 k b)⟩
      ·subst hr1
       cases ws with
       | nil =>
        simp only [docs, Option.some.injEq, Rz.ok.injEq, Prod.mk.injEq] at hu
        obtain ⟨rfl, rfl, rfl⟩ := hu
        exact .inr ⟨rfl, by simp, fun k b => (hst k b _ _ (hB k b)).trans rfl⟩
       | cons w2 ws =>
        exfalso
        obtain ⟨k2, last2⟩ := w2
        simp only [docs] at hu
        cases hd2 : docRows last2 f [] i1 [] with
        | none => rw [hd2] at hu; cases hu
        | some y =>
         cases y with
         | bad a b => rw [hd2] at hu; cases hu
         | ok y => exact docRows_nil _ _ _ _ hd2
     by_cases hq : t.quoted = true
     ·rw [if_pos hq] at h
      refine key _ h fun k b i2 r2 h2 => ?_
      simp only [docs]
      rw [h2]
      dsimp only
      rw [ht]
      dsimp only
      rw [if_pos hq]
     ·rw [if_neg hq] at h
      cases hp : parts f 2 0 [] [] i text with
      | none => rw [hp] at h; cases h
      | some z =>
       cases z with
       | bad a b => rw [hp] at h; cases h
       | ok z =>
        rw [hp] at h
        obtain ⟨ps, z1, z2⟩ := z
        dsimp only at h
        refine key _ h fun k b i2 r2 h2 => ?_
        simp only [docs]
        rw [h2]
        dsimp only
        rw [ht]
        dsimp only
        rw [if_neg hq, parts_mono k hp]
/-! ### The lexer's loop -/
theorem lexL_nil (f : Nat) (toks : List Tok) (waits : List (Nat × Bs)) {i0 i : Nat} {r0 : Bs} (h : skip i0 r0 = (i, [])) : lexL (f + 1) toks waits i0 r0 = if waits.isEmpty then some (.ok toks) else some (.bad 19 i) := by simp only [lexL, h]
theorem lexL_cons (f : Nat) (toks : List Tok) (waits : List (Nat × Bs)) {i0 i : Nat} {r0 : Bs} {c : UInt8} {t : Bs} (h : skip i0 r0 = (i, c :: t)) : lexL (f + 1) toks waits i0 r0 = (
   if c == 10 then match docs f waits (toks ++ [⟨2, [], [], false, i⟩]) (i + 1) t with
    | none => none
    | some (.bad a b) => some (.bad a b)
    | some (.ok (toks', i', r')) => lexL f toks' [] i' r'
   else if c == 35 then lexL f toks waits (i + (row (c :: t)).length) ((c :: t).drop (row (c :: t)).length)
   else match marksL.find? (fun m => pre m ((c :: t).drop (digitOf (c :: t)))) with
    | some m => lexL f (toks ++ [⟨1, (c :: t).take (digitOf (c :: t) + m.length), [], false, i⟩]) waits (i + digitOf (c :: t) + m.length) ((c :: t).drop (digitOf (c :: t) + m.length))
    | none => if c == 38 then some (.bad 19 i)
     else match parts f 0 0 [] [] i (c :: t) with
      | none => none
      | some (.bad a b) => some (.bad a b)
      | some (.ok (ps, i', r')) =>
       if announces toks then match wordEnd ps [] false with
        | none => some (.bad 19 i)
        | some (e, q) => lexL f (toks ++ [⟨0, [], ps, false, i⟩, ⟨3, [], [], q, i⟩]) (waits ++ [(toks.length + 1, e)]) i' r'
       else lexL f (toks ++ [⟨0, [], ps, false, i⟩]) waits i' r') := by simp only [lexL, h]; rfl
theorem lexL_mono (k : Nat) : ∀ (f : Nat) (toks : List Tok) (waits : List (Nat × Bs)) (i : Nat) (r : Bs) (x : List Tok), lexL f toks waits i r = some (.ok x) → lexL (f + k) toks waits i r = some (.ok x) := by
 intro f
 induction f with
 | zero => intro toks waits i r x h; simp [lexL] at h
 | succ f ih =>
  intro toks waits i0 r0 x h
  rw [Nat.add_right_comm]
  cases hs : skip i0 r0 with
  | mk i r =>
  cases r with
  | nil => rw [lexL_nil _ _ _ hs] at h ⊢; exact h
  | cons c t =>
   rw [lexL_cons _ _ _ hs] at h ⊢
   by_cases g0 : (c == 10) = true
   ·rw [if_pos g0] at h ⊢
    cases hd : docs f waits (toks ++ [⟨2, [], [], false, i⟩]) (i + 1) t with
    | none => rw [hd] at h; cases h
    | some y =>
     cases y with
     | bad a b => rw [hd] at h; cases h
     | ok y =>
      rw [hd] at h
      rw [docs_mono f k _ _ _ _ _ hd]
      exact ih _ _ _ _ _ h
   rw [if_neg g0] at h ⊢
   by_cases g1 : (c == 35) = true
   ·rw [if_pos g1] at h ⊢; exact ih _ _ _ _ _ h
   rw [if_neg g1] at h ⊢
   cases hm : marksL.find? (fun m => pre m ((c :: t).drop (digitOf (c :: t)))) with
   | some m => rw [hm] at h; exact ih _ _ _ _ _ h
   | none =>
    rw [hm] at h
    dsimp only at h ⊢
    by_cases g2 : (c == 38) = true
    ·rw [if_pos g2] at h; cases h
    rw [if_neg g2] at h ⊢
    cases hp : parts f 0 0 [] [] i (c :: t) with
    | none => rw [hp] at h; cases h
    | some y =>
     cases y with
     | bad a b => rw [hp] at h; cases h
     | ok y =>
      rw [hp] at h
      rw [parts_mono k hp]
      obtain ⟨ps, i1, r1⟩ := y
      dsimp only at h ⊢
      by_cases g3 : announces toks = true
      ·rw [if_pos g3] at h ⊢
       cases hw : wordEnd ps [] false with
       | none => rw [hw] at h; cases h
       | some z => rw [hw] at h; exact ih _ _ _ _ _ h
      ·rw [if_neg g3] at h ⊢; exact ih _ _ _ _ _ h
def K3 (l : List (Nat × Nat)) : Prop := ∃ x ∈ l, x.1 = 3
theorem K3.left {l m : List (Nat × Nat)} (h : K3 l) : K3 (l ++ m) := by obtain ⟨x, hx, e⟩ := h; exact ⟨x, List.mem_append_left _ hx, e⟩
theorem sk_append (a b : List Tok) : sk (a ++ b) = sk a ++ sk b := List.map_append ..
theorem digit_tl {c : UInt8} {t : Bs} (b : Bs) : digitOf ((c :: t) ++ 10 :: b) = digitOf (c :: t) := by
 cases t with
 | nil =>
  have : ((10 : UInt8) == 60 || (10 : UInt8) == 62) = false := by decide
  simp only [List.cons_append, List.nil_append, digitOf, this, Bool.and_false]
  rfl
 | cons d t => rfl
theorem digit_le (c : UInt8) (t : Bs) : digitOf (c :: t) ≤ 1 := by
 unfold digitOf
 split
 ·split <;> omega
 ·omega
theorem lexL_k3 : ∀ (f : Nat) (toks : List Tok) (waits : List (Nat × Bs)) (i : Nat) (r : Bs) (x : List Tok), lexL f toks waits i r = some (.ok x) → K3 (sk toks) → K3 (sk x) := by
 intro f
 induction f with
 | zero => intro toks waits i r x h; simp [lexL] at h
 | succ f ih =>
  intro toks waits i0 r0 x h hk
  cases hs : skip i0 r0 with
  | mk i r =>
  cases r with
  | nil =>
   rw [lexL_nil _ _ _ hs] at h
   split at h
   ·injection h with h; injection h with h; subst h; exact hk
   ·cases h
  | cons c t =>
   rw [lexL_cons _ _ _ hs] at h
   by_cases g0 : (c == 10) = true
   ·rw [if_pos g0] at h
    cases hd : docs f waits (toks ++ [⟨2, [], [], false, i⟩]) (i + 1) t with
    | none => rw [hd] at h; cases h
    | some y =>
     cases y with
     | bad a b => rw [hd] at h; cases h
     | ok y =>
      obtain ⟨toks1, i1, r1⟩ := y
      rw [hd] at h
      have := (docs_sk f _ _ _ _ _ _ _ hd).1
      refine ih _ _ _ _ _ h ?_
      rw [this, sk_append]
      exact hk.left
   rw [if_neg g0] at h
   by_cases g1 : (c == 35) = true
   ·rw [if_pos g1] at h; exact ih _ _ _ _ _ h hk
   rw [if_neg g1] at h
   cases hm : marksL.find? (fun m => pre m ((c :: t).drop (digitOf (c :: t)))) with
   | some m => rw [hm] at h; refine ih _ _ _ _ _ h ?_; rw [sk_append]; exact hk.left
   | none =>
    rw [hm] at h
    dsimp only at h
    by_cases g2 : (c == 38) = true
    ·rw [if_pos g2] at h; cases h
    rw [if_neg g2] at h
    cases hp : parts f 0 0 [] [] i (c :: t) with
    | none => rw [hp] at h; cases h
    | some y =>
     cases y with
     | bad a b => rw [hp] at h; cases h
     | ok y =>
      rw [hp] at h
      obtain ⟨ps, i1, r1⟩ := y
      dsimp only at h
      by_cases g3 : announces toks = true
      ·rw [if_pos g3] at h
       cases hw : wordEnd ps [] false with
       | none => rw [hw] at h; cases h
       | some z => rw [hw] at h; refine ih _ _ _ _ _ h ?_; rw [sk_append]; exact hk.left
      ·rw [if_neg g3] at h; refine ih _ _ _ _ _ h ?_; rw [sk_append]; exact hk.left
theorem lexL_stroke (f : Nat) (toks : List Tok) (waits : List (Nat × Bs)) {i0 i : Nat} {r0 : Bs} (h : skip i0 r0 = (i, [92])) {x : List Tok} (hx : lexL (f + 1) toks waits i0 r0 = some (.ok x)) : False := by
 rw [lexL_cons _ _ _ h, if_neg (by decide), if_neg (by decide)] at hx
 have : marksL.find? (fun m => pre m (([92] : Bs).drop (digitOf [92]))) = none := by decide
 rw [this] at hx
 dsimp only at hx
 rw [if_neg (by decide)] at hx
 cases f with
 | zero => simp [parts] at hx
 | succ f =>
  have : parts (f + 1) 0 0 [] [] i [92] = some (.bad 19 i) := by
   rw [parts_cons, if_neg (by decide), if_neg (by decide), if_neg (by decide), if_pos (by decide)]
  rw [this] at hx
  cases hx
theorem lexL_line : ∀ (f : Nat) (toks : List Tok) (waits : List (Nat × Bs)) (i : Nat) (r : Bs) (x : List Tok), lexL f toks waits i r = some (.ok x) → (waits ≠ [] → K3 (sk toks)) →
  ∃ tl, (tl = [⟨2, [], [], false, i + r.length⟩] ∨ (tl = [] ∧ K3 (sk x))) ∧ ∀ k b z, lexL k (x ++ tl) [] (i + r.length + 1) b = some (.ok z) → lexL (f + k) toks waits i (r ++ 10 :: b) = some (.ok z) := by
 intro f
 induction f with
 | zero => intro toks waits i r x h; simp [lexL] at h
 | succ f ih =>
  intro toks waits i0 r0 x h hw
  have hat := skip_at _ i0 r0 (Nat.le_refl _)
  have hst : (skip i0 r0).2 ≠ [92] := by
   intro hh
   exact lexL_stroke f toks waits (i := (skip i0 r0).1) (by rw [← hh]) h
  have hsk := fun b => skip_tl b _ i0 r0 (Nat.le_refl _) hst
  cases hs : skip i0 r0 with
  | mk i r =>
  rw [hs] at hat hsk
  dsimp only at hat hsk
  rw [← hat]
  cases r with
  | nil =>
   rw [lexL_nil _ _ _ hs] at h
   have hwe : waits = [] := by
    cases waits with
    | nil => rfl
    | cons _ _ => cases h
   subst hwe
   rw [if_pos (show ([] : List (Nat × Bs)).isEmpty = true from rfl)] at h
   injection h with h; injection h with h; subst h
   refine ⟨_, .inl rfl, fun k b z hz => ?_⟩
   have hk := hsk b
   rw [List.nil_append] at hk
   rw [Nat.add_right_comm, lexL_cons _ _ _ hk, if_pos (by decide)]
   simp only [docs]
   rw [Nat.add_comm f k]
   simp only [List.length_nil, Nat.add_zero] at hz
   exact lexL_mono f _ _ _ _ _ _ hz
  | cons c t =>
   have hk : ∀ b, skip i0 (r0 ++ 10 :: b) = (i, c :: (t ++ 10 :: b)) := hsk
   rw [lexL_cons _ _ _ hs] at h
   by_cases g0 : (c == 10) = true
   ·rw [if_pos g0] at h
    cases hd : docs f waits (toks ++ [⟨2, [], [], false, i⟩]) (i + 1) t with
    | none => rw [hd] at h; cases h
    | some y =>
     cases y with
     | bad a b => rw [hd] at h; cases h
     | ok y =>
      obtain ⟨toks1, i1, r1⟩ := y
      rw [hd] at h
      dsimp only at h
      obtain ⟨hk3, hat1⟩ := docs_sk f _ _ _ _ _ _ _ hd
      rcases docs_line f _ _ _ _ _ _ _ hd with hA | ⟨hr1, hws, hB⟩
      ·obtain ⟨tl, h1, h2⟩ := ih _ _ _ _ _ h (fun hh => (hh rfl).elim)
       have e : i + (c :: t).length = i1 + r1.length := by simp only [List.length_cons]; omega
       rw [e]
       refine ⟨tl, h1, fun k b z hz => ?_⟩
       rw [Nat.add_right_comm, lexL_cons _ _ _ (hk b), if_pos g0, hA k b]
       exact h2 k b z hz
      ·subst hr1
       have hx : x = toks1 := by
        cases f with
        | zero => simp [lexL] at h
        | succ f =>
         rw [lexL_nil f toks1 [] (i0 := i1) (i := i1) (r0 := []) rfl, if_pos (show ([] : List (Nat × Bs)).isEmpty = true from rfl)] at h
         injection h with h; injection h with h; exact h.symm
       subst hx
       refine ⟨[], .inr ⟨rfl, ?_⟩, fun k b z hz => ?_⟩
       ·rw [hk3, sk_append]
        exact (hw hws).left
       ·have e : i + (c :: t).length + 1 = i1 + 1 := by simp only [List.length_cons, List.length_nil] at hat1 ⊢; omega
        rw [e, List.append_nil] at hz
        rw [Nat.add_right_comm, lexL_cons _ _ _ (hk b), if_pos g0, hB k b]
        dsimp only
        rw [Nat.add_comm f k]
        exact lexL_mono f _ _ _ _ _ _ hz
   rw [if_neg g0] at h
   by_cases g1 : (c == 35) = true
   ·rw [if_pos g1] at h
    obtain ⟨tl, h1, h2⟩ := ih _ _ _ _ _ h hw
    have hrl := row_le (c :: t)
    have e : i + (row (c :: t)).length + ((c :: t).drop (row (c :: t)).length).length = i + (c :: t).length := by simp only [List.length_drop]; omega
    rw [e] at h1 h2
    refine ⟨tl, h1, fun k b z hz => ?_⟩
    rw [Nat.add_right_comm, lexL_cons _ _ _ (hk b), if_neg g0, if_pos g1]
    have er : row (c :: (t ++ 10 :: b)) = row (c :: t) := row_tl b (c :: t)
    rw [er, ← List.cons_append, drop_app _ hrl]
    exact h2 k b z hz
   rw [if_neg g1] at h
   have ed : ∀ b, digitOf (c :: (t ++ 10 :: b)) = digitOf (c :: t) := fun b => digit_tl b
   have hdl := digit_le c t
   have em : ∀ b, marksL.find? (fun m => pre m ((c :: (t ++ 10 :: b)).drop (digitOf (c :: t)))) = marksL.find? (fun m => pre m ((c :: t).drop (digitOf (c :: t)))) := by
    intro b
    rw [← List.cons_append, drop_app _ (by simp only [List.length_cons]; omega)]
    exact marks_tl (.inr ⟨b, rfl⟩) _
   cases hm : marksL.find? (fun m => pre m ((c :: t).drop (digitOf (c :: t)))) with
   | some m =>
    rw [hm] at h
    dsimp only at h
    have hml := pre_le (t := m) (r := (c :: t).drop (digitOf (c :: t))) (by simpa using List.find?_some hm)
    simp only [List.length_drop] at hml
    have hl : digitOf (c :: t) + m.length ≤ (c :: t).length := by simp only [List.length_cons] at hml ⊢; omega
    obtain ⟨tl, h1, h2⟩ := ih _ _ _ _ _ h (fun hh => by rw [sk_append]; exact (hw hh).left)
    have e : i + digitOf (c :: t) + m.length + ((c :: t).drop (digitOf (c :: t) + m.length)).length = i + (c :: t).length := by simp only [List.length_drop]; omega
    rw [e] at h1 h2
    refine ⟨tl, h1, fun k b z hz => ?_⟩
    rw [Nat.add_right_comm, lexL_cons _ _ _ (hk b), if_neg g0, if_neg g1, ed, em, hm]
    dsimp only
    rw [← List.cons_append, drop_app _ hl, take_app _ hl]
    exact h2 k b z hz
   | none =>
    rw [hm] at h
    dsimp only at h
    by_cases g2 : (c == 38) = true
    ·rw [if_pos g2] at h; cases h
    rw [if_neg g2] at h
    cases hp : parts f 0 0 [] [] i (c :: t) with
    | none => rw [hp] at h; cases h
    | some y =>
     cases y with
     | bad a b => rw [hp] at h; cases h
     | ok y =>
      rw [hp] at h
      obtain ⟨ps, i1, r1⟩ := y
      have hat1 := (parts_at f).1 _ _ _ _ _ _ _ _ _ hp
      have hpe := fun k b => (parts_ext (e := 10 :: b) (.inr ⟨b, rfl⟩) k f).1 _ _ _ _ _ _ _ _ _ hp (.inl rfl)
      dsimp only at h
      by_cases g3 : announces toks = true
      ·rw [if_pos g3] at h
       cases hwe : wordEnd ps [] false with
       | none => rw [hwe] at h; cases h
       | some z =>
        obtain ⟨ze, zq⟩ := z
        rw [hwe] at h
        dsimp only at h
        obtain ⟨tl, h1, h2⟩ := ih _ _ _ _ _ h (fun _ => by rw [sk_append]; exact ⟨(3, i), by simp [sk], rfl⟩)
        rw [hat1] at h1 h2
        refine ⟨tl, h1, fun k b z hz => ?_⟩
        rw [Nat.add_right_comm, lexL_cons _ _ _ (hk b), if_neg g0, if_neg g1, ed, em, hm]
        dsimp only
        rw [if_neg g2, ← List.cons_append, hpe k b]
        dsimp only
        rw [if_pos g3, hwe]
        exact h2 k b z hz
      ·rw [if_neg g3] at h
       obtain ⟨tl, h1, h2⟩ := ih _ _ _ _ _ h (fun hh => by rw [sk_append]; exact (hw hh).left)
       rw [hat1] at h1 h2
       refine ⟨tl, h1, fun k b z hz => ?_⟩
       rw [Nat.add_right_comm, lexL_cons _ _ _ (hk b), if_neg g0, if_neg g1, ed, em, hm]
       dsimp only
       rw [if_neg g2, ← List.cons_append, hpe k b]
       dsimp only
       rw [if_neg g3]
       exact h2 k b z hz
end Go.Proofs.YteekjekckgpbfaaDoor.Sp
end
section
namespace Go.Proofs.YteekjekckgpbfaaDoor.Sp
/-! ### Places are moved -/
def mv (k : Nat) (t : Tok) : Tok := { t with at' := t.at' + k }
def mvW (n : Nat) (ws : List (Nat × Bs)) : List (Nat × Bs) := ws.map fun x => (n + x.1, x.2)
theorem docRows_mv (last : Bs) (k : Nat) : ∀ (f : Nat) (acc : Bs) (i : Nat) (r : Bs), docRows last f acc (i + k) r = sh k (docRows last f acc i r) := by
 intro f
 induction f with
 | zero => intro acc i r; simp [docRows, sh]
 | succ f ih =>
  intro acc i r
  simp only [docRows]
  by_cases g0 : r.isEmpty = true
  ·rw [if_pos g0, if_pos g0]; rfl
  rw [if_neg g0, if_neg g0]
  by_cases g1 : (row r == last) = true
  ·rw [if_pos g1, if_pos g1]; simp only [sh]; rw [Nat.add_right_comm]
  ·rw [if_neg g1, if_neg g1, Nat.add_right_comm]; exact ih ..
theorem get_mv (p toks : List Tok) (k j : Nat) : (p ++ toks.map (mv k))[p.length + j]? = (toks[j]?).map (mv k) := by
 rw [List.getElem?_append_right (by omega), List.getElem?_map]
 have : p.length + j - p.length = j := by omega
 rw [this]
theorem set_mv (p toks : List Tok) (k j : Nat) (u : Tok) : (p ++ toks.map (mv k)).set (p.length + j) (mv k u) = p ++ (toks.set j u).map (mv k) := by
 rw [List.set_append_right _ _ (by omega), List.map_set]
 have : p.length + j - p.length = j := by omega
 rw [this]
theorem docs_mv (f k : Nat) (p : List Tok) : ∀ (ws : List (Nat × Bs)) (toks : List Tok) (i : Nat) (r : Bs) (toks' : List Tok) (j : Nat) (r' : Bs), docs f ws toks i r = some (.ok (toks', j, r')) → docs f (mvW p.length ws) (p ++ toks.map (mv k)) (i + k) r = some (.ok (p ++ toks'.map (mv k), j + k, r')) := by
 intro ws
 induction ws with
 | nil =>
  intro toks i r toks' j r' h
  simp only [docs, Option.some.injEq, Rz.ok.injEq, Prod.mk.injEq] at h
  obtain ⟨rfl, rfl, rfl⟩ := h
  rfl
 | cons w ws ih =>
  obtain ⟨k0, last⟩ := w
  intro toks i r toks' j r' h
  have e : mvW p.length ((k0, last) :: ws) = (p.length + k0, last) :: mvW p.length ws := rfl
  rw [e]
  simp only [docs] at h ⊢
  rw [docRows_mv]
  cases hd : docRows last f [] i r with
  | none => rw [hd] at h; cases h
  | some y =>
   cases y with
   | bad a b => rw [hd] at h; cases h
   | ok y =>
    obtain ⟨text, i1, r1⟩ := y
    rw [hd] at h
    dsimp only [sh] at h ⊢
    rw [get_mv]
    cases ht : toks[k0]? with
    | none => rw [ht] at h; cases h
    | some t =>
     rw [ht] at h
     dsimp only [Option.map] at h ⊢
     have hqq : (mv k t).quoted = t.quoted := rfl
     rw [hqq]
     by_cases hq : t.quoted = true
     ·rw [if_pos hq] at h ⊢
      have h3 := ih _ _ _ _ _ _ h
      rw [← set_mv] at h3
      exact h3
     ·rw [if_neg hq] at h ⊢
      rw [(parts_shift k f).1]
      cases hp : parts f 2 0 [] [] i text with
      | none => rw [hp] at h; cases h
      | some z =>
       cases z with
       | bad a b => rw [hp] at h; cases h
       | ok z =>
        rw [hp] at h
        obtain ⟨ps, z1, z2⟩ := z
        dsimp only [sh] at h ⊢
        have h3 := ih _ _ _ _ _ _ h
        rw [← set_mv] at h3
        exact h3
theorem ann_mv (k : Nat) {p : List Tok} (hp : announces p = false) (toks : List Tok) : announces (p ++ toks.map (mv k)) = announces toks := by
 rcases List.eq_nil_or_concat toks with rfl | ⟨l, t, rfl⟩
 ·rw [List.map_nil, List.append_nil, hp]; rfl
 ·unfold announces
  simp [List.getLast?_append, mv]
theorem lexL_mv (k : Nat) {p : List Tok} (hp : announces p = false) : ∀ (f : Nat) (toks : List Tok) (waits : List (Nat × Bs)) (i : Nat) (r : Bs) (x : List Tok), lexL f toks waits i r = some (.ok x) → lexL f (p ++ toks.map (mv k)) (mvW p.length waits) (i + k) r = some (.ok (p ++ x.map (mv k))) := by
 intro f
 induction f with
 | zero => intro toks waits i r x h; simp [lexL] at h
 | succ f ih =>
  intro toks waits i0 r0 x h
  have hmv := skip_mv k _ i0 r0 (Nat.le_refl _)
  have app : ∀ t : Tok, p ++ toks.map (mv k) ++ [mv k t] = p ++ (toks ++ [t]).map (mv k) := fun t => by simp
  cases hs : skip i0 r0 with
  | mk i r =>
  rw [hs] at hmv
  cases r with
  | nil =>
   rw [lexL_nil _ _ _ hs] at h
   rw [lexL_nil _ _ _ hmv]
   cases waits with
   | nil =>
    rw [if_pos (show ([] : List (Nat × Bs)).isEmpty = true from rfl)] at h
    injection h with h; injection h with h; subst h
    rfl
   | cons _ _ => cases h
  | cons c t =>
   rw [lexL_cons _ _ _ hs] at h
   rw [lexL_cons _ _ _ hmv]
   by_cases g0 : (c == 10) = true
   ·rw [if_pos g0] at h ⊢
    cases hd : docs f waits (toks ++ [⟨2, [], [], false, i⟩]) (i + 1) t with
    | none => rw [hd] at h; cases h
    | some y =>
     cases y with
     | bad a b => rw [hd] at h; cases h
     | ok y =>
      obtain ⟨toks1, i1, r1⟩ := y
      rw [hd] at h
      have e := app ⟨2, [], [], false, i⟩
      dsimp only [mv] at e
      rw [e, show i + k + 1 = i + 1 + k by omega, docs_mv f k p _ _ _ _ _ _ _ hd]
      exact ih _ _ _ _ _ h
   rw [if_neg g0] at h ⊢
   by_cases g1 : (c == 35) = true
   ·rw [if_pos g1] at h ⊢
    rw [Nat.add_right_comm]
    exact ih _ _ _ _ _ h
   rw [if_neg g1] at h ⊢
   cases hm : marksL.find? (fun m => pre m ((c :: t).drop (digitOf (c :: t)))) with
   | some m =>
    rw [hm] at h
    dsimp only at h ⊢
    have e := app ⟨1, (c :: t).take (digitOf (c :: t) + m.length), [], false, i⟩
    dsimp only [mv] at e
    rw [e, show i + k + digitOf (c :: t) + m.length = i + digitOf (c :: t) + m.length + k by omega]
    exact ih _ _ _ _ _ h
   | none =>
    rw [hm] at h
    dsimp only at h ⊢
    by_cases g2 : (c == 38) = true
    ·rw [if_pos g2] at h; cases h
    rw [if_neg g2] at h ⊢
    rw [(parts_shift k f).1]
    cases hq : parts f 0 0 [] [] i (c :: t) with
    | none => rw [hq] at h; cases h
    | some y =>
     cases y with
     | bad a b => rw [hq] at h; cases h
     | ok y =>
      rw [hq] at h
      obtain ⟨ps, i1, r1⟩ := y
      dsimp only [sh] at h ⊢
      rw [ann_mv k hp]
      by_cases g3 : announces toks = true
      ·rw [if_pos g3] at h ⊢
       cases hw : wordEnd ps [] false with
       | none => rw [hw] at h; cases h
       | some z =>
        obtain ⟨ze, zq⟩ := z
        rw [hw] at h
        dsimp only at h ⊢
        have e : p ++ toks.map (mv k) ++ [⟨0, [], ps, false, i + k⟩, ⟨3, [], [], zq, i + k⟩] = p ++ (toks ++ [(⟨0, [], ps, false, i⟩ : Tok), ⟨3, [], [], zq, i⟩]).map (mv k) := by simp [mv]
        have e2 : mvW p.length waits ++ [((p ++ toks.map (mv k)).length + 1, ze)] = mvW p.length (waits ++ [(toks.length + 1, ze)]) := by simp [mvW]; omega
        rw [e, e2]
        exact ih _ _ _ _ _ h
      ·rw [if_neg g3] at h ⊢
       have e := app ⟨0, [], ps, false, i⟩
       dsimp only [mv] at e
       rw [e]
       exact ih _ _ _ _ _ h
theorem lex_lines {f g : Nat} {a b : Bs} {x y : List Tok} (ha : lex f a = some (.ok x)) (hb : lex g b = some (.ok y)) (hx : ∀ t ∈ x, t.kind ≠ 3) (hl : a.length + 1 + b.length ≤ 4000) :
  lex (f + g) (a ++ 10 :: b) = some (.ok (x ++ ⟨2, [], [], false, a.length⟩ :: y.map (mv (a.length + 1)))) := by
 unfold lex at ha hb ⊢
 rw [if_neg (by omega)] at ha hb
 rw [if_neg (by simp; omega)]
 obtain ⟨tl, htl, h⟩ := lexL_line _ _ _ _ _ _ ha (fun hh => (hh rfl).elim)
 rcases htl with rfl | ⟨rfl, y0, hy0, hk⟩
 ·rw [Nat.zero_add] at h
  refine h g b _ ?_
  have hann : announces (x ++ [(⟨2, [], [], false, a.length⟩ : Tok)]) = false := by
   unfold announces
   simp [List.getLast?_append]
  have := lexL_mv (a.length + 1) hann _ _ _ _ _ _ hb
  rw [Nat.zero_add, List.map_nil, List.append_nil] at this
  have e : mvW (x ++ [(⟨2, [], [], false, a.length⟩ : Tok)]).length [] = [] := rfl
  rw [e] at this
  rw [this]
  simp
 ·obtain ⟨t, ht, rfl⟩ := List.mem_map.1 hy0
  exact (hx t ht hk).elim
theorem row_self {r : Bs} (h : r.contains 10 = false) : row r = r := by
 induction r with
 | nil => rfl
 | cons c t ih =>
  have hc : c ≠ 10 := by intro hc; subst hc; simp at h
  have ht : t.contains 10 = false := by
   rw [List.contains_cons] at h
   rcases bb (t.contains 10) with g | g
   ·rw [g, Bool.or_true] at h; cases h
   ·exact g
  have e := ih ht
  unfold row at e ⊢
  rw [List.takeWhile_cons, if_pos (by simpa using hc), e]
theorem lexL_end (f : Nat) (toks : List Tok) (i : Nat) : lexL (f + 1) toks [] i [] = some (.ok toks) := by
 rw [lexL_nil f toks [] (i := i) rfl, if_pos (show ([] : List (Nat × Bs)).isEmpty = true from rfl)]
theorem lex_remark {f : Nat} {a r : Bs} {x : List Tok} (ha : lex f a = some (.ok x)) (hr : r.contains 10 = false) (hl : a.length + 3 + r.length ≤ 4000) :
  ∃ z, lex (f + 2) (a ++ [10]) = some (.ok z) ∧ lex (f + 2) (a ++ 10 :: 35 :: 32 :: r) = some (.ok z) := by
 unfold lex at ha ⊢
 rw [if_neg (by omega)] at ha
 rw [if_neg (by simp; omega), if_neg (by simp; omega)]
 obtain ⟨tl, htl, h⟩ := lexL_line _ _ _ _ _ _ ha (fun hh => (hh rfl).elim)
 refine ⟨x ++ tl, h 2 [] _ (lexL_end _ _ _), h 2 _ _ ?_⟩
 rw [lexL_cons _ _ _ (i := 0 + a.length + 1) (c := 35) (t := 32 :: r) (by unfold skip; rw [if_neg (by decide), if_neg (by decide)]), if_neg (by decide), if_pos (by decide)]
 have : row (35 :: 32 :: r) = 35 :: 32 :: r := row_self (by
  rw [List.contains_cons, List.contains_cons, hr]; decide)
 rw [this, List.drop_length]
 exact lexL_end _ _ _
/-! ### The order of tokens -/
theorem docRows_le (last : Bs) : ∀ (f : Nat) (acc : Bs) (i : Nat) (r text : Bs) (j : Nat) (r' : Bs), docRows last f acc i r = some (.ok (text, j, r')) → i ≤ j := by
 intro f
 induction f with
 | zero => intro acc i r text j r' h; simp [docRows] at h
 | succ f ih =>
  intro acc i r text j r' h
  simp only [docRows] at h
  split at h
  ·cases h
  split at h
  ·injection h with h; injection h with h; injection h with h1 h2; injection h2 with h2 h3; omega
  ·have := ih _ _ _ _ _ _ h; omega
theorem docs_le (f : Nat) : ∀ (ws : List (Nat × Bs)) (toks : List Tok) (i : Nat) (r : Bs) (toks' : List Tok) (j : Nat) (r' : Bs), docs f ws toks i r = some (.ok (toks', j, r')) → i ≤ j := by
 intro ws
 induction ws with
 | nil => intro toks i r toks' j r' h; injection h with h; injection h with h; injection h with h1 h2; injection h2 with h2 h3; omega
 | cons w ws ih =>
  obtain ⟨k0, last⟩ := w
  intro toks i r toks' j r' h
  simp only [docs] at h
  split at h
  ·cases h
  ·cases h
  ·rename_i text i1 r1 hd
   have h1 := docRows_le _ _ _ _ _ _ _ _ hd
   split at h
   ·cases h
   ·split at h
    ·have := ih _ _ _ _ _ _ h; omega
    ·split at h
     ·cases h
     ·cases h
     ·have := ih _ _ _ _ _ _ h; omega
def ordS : List (Nat × Nat) → Prop
 | [] => True
 | [_] => True
 | a :: b :: l => (a.2 < b.2 ∨ (a.2 = b.2 ∧ b.1 = 3)) ∧ ordS (b :: l)
theorem ordS_snoc : ∀ {l : List (Nat × Nat)} {y : Nat × Nat}, ordS l → (∀ x ∈ l, x.2 < y.2 ∨ (x.2 = y.2 ∧ y.1 = 3)) → ordS (l ++ [y]) := by
 intro l
 induction l with
 | nil => intro y _ _; trivial
 | cons a l ih =>
  intro y h hy
  cases l with
  | nil => exact ⟨hy a (by simp), trivial⟩
  | cons b l => exact ⟨h.1, ih h.2 fun x hx => hy x (by simp at hx ⊢; exact .inr hx)⟩
theorem ordS_get : ∀ {l : List (Nat × Nat)}, ordS l → ∀ (i : Nat) (a b : Nat × Nat), l[i]? = some a → l[i + 1]? = some b → a.2 < b.2 ∨ (a.2 = b.2 ∧ b.1 = 3) := by
 intro l
 induction l with
 | nil => intro _ i a b h; simp at h
 | cons x l ih =>
  intro h i a b ha hb
  cases l with
  | nil => simp at hb
  | cons y l =>
   cases i with
   | zero =>
    simp only [List.getElem?_cons_zero, List.getElem?_cons_succ, Option.some.injEq, Nat.zero_add] at ha hb
    subst ha; subst hb
    exact h.1
   | succ i => exact ih h.2 i a b (by simpa using ha) (by simpa using hb)
theorem lexL_ord : ∀ (f : Nat) (toks : List Tok) (waits : List (Nat × Bs)) (i : Nat) (r : Bs) (x : List Tok), lexL f toks waits i r = some (.ok x) → ordS (sk toks) → (∀ y ∈ sk toks, y.2 < i) → ordS (sk x) ∧ ∀ y ∈ sk x, y.2 < i + r.length := by
 intro f
 induction f with
 | zero => intro toks waits i r x h; simp [lexL] at h
 | succ f ih =>
  intro toks waits i0 r0 x h ho hlt
  have hat := skip_at _ i0 r0 (Nat.le_refl _)
  have hsl := skip_len _ i0 r0 (Nat.le_refl _)
  cases hs : skip i0 r0 with
  | mk i r =>
  rw [hs] at hat hsl
  dsimp only at hat hsl
  have hi : i0 ≤ i := by omega
  have hlt' : ∀ y ∈ sk toks, y.2 < i := fun y hy => Nat.lt_of_lt_of_le (hlt y hy) hi
  have one : ∀ t : Tok, t.at' = i → ordS (sk (toks ++ [t])) ∧ ∀ j, i < j → ∀ y ∈ sk (toks ++ [t]), y.2 < j := by
   intro t ht
   have e : sk (toks ++ [t]) = sk toks ++ [(t.kind, i)] := by rw [sk_append]; simp [sk, ht]
   rw [e]
   refine ⟨ordS_snoc ho fun y hy => .inl (hlt' y hy), fun j hj y hy => ?_⟩
   rcases List.mem_append.1 hy with h1 | h1
   ·have := hlt' y h1; omega
   ·simp at h1; subst h1; exact hj
  rw [← hat]
  cases r with
  | nil =>
   rw [lexL_nil _ _ _ hs] at h
   split at h
   ·injection h with h; injection h with h; subst h
    exact ⟨ho, hlt'⟩
   ·cases h
  | cons c t =>
   rw [lexL_cons _ _ _ hs] at h
   by_cases g0 : (c == 10) = true
   ·rw [if_pos g0] at h
    cases hd : docs f waits (toks ++ [⟨2, [], [], false, i⟩]) (i + 1) t with
    | none => rw [hd] at h; cases h
    | some y =>
     cases y with
     | bad a b => rw [hd] at h; cases h
     | ok y =>
      obtain ⟨toks1, i1, r1⟩ := y
      rw [hd] at h
      dsimp only at h
      obtain ⟨hk, hat1⟩ := docs_sk f _ _ _ _ _ _ _ hd
      obtain ⟨o1, o2⟩ := one ⟨2, [], [], false, i⟩ rfl
      have hle := docs_le f _ _ _ _ _ _ _ hd
      have := ih _ _ _ _ _ h (by rw [hk]; exact o1) (by rw [hk]; exact o2 i1 (by omega))
      refine ⟨this.1, fun y hy => ?_⟩
      have := this.2 y hy
      simp only [List.length_cons]; omega
   rw [if_neg g0] at h
   by_cases g1 : (c == 35) = true
   ·rw [if_pos g1] at h
    have hrl := row_le (c :: t)
    have := ih _ _ _ _ _ h ho (fun y hy => by have := hlt' y hy; omega)
    refine ⟨this.1, fun y hy => ?_⟩
    have := this.2 y hy
    simp only [List.length_drop] at this
    omega
   rw [if_neg g1] at h
   cases hm : marksL.find? (fun m => pre m ((c :: t).drop (digitOf (c :: t)))) with
   | some m =>
    rw [hm] at h
    dsimp only at h
    have hml := pre_le (t := m) (r := (c :: t).drop (digitOf (c :: t))) (by simpa using List.find?_some hm)
    have hmp := marks_pos hm
    simp only [List.length_drop] at hml
    obtain ⟨o1, o2⟩ := one ⟨1, (c :: t).take (digitOf (c :: t) + m.length), [], false, i⟩ rfl
    have := ih _ _ _ _ _ h o1 (o2 _ (by omega))
    refine ⟨this.1, fun y hy => ?_⟩
    have := this.2 y hy
    simp only [List.length_drop] at this
    omega
   | none =>
    rw [hm] at h
    dsimp only at h
    by_cases g2 : (c == 38) = true
    ·rw [if_pos g2] at h; cases h
    rw [if_neg g2] at h
    cases hp : parts f 0 0 [] [] i (c :: t) with
    | none => rw [hp] at h; cases h
    | some y =>
     cases y with
     | bad a b => rw [hp] at h; cases h
     | ok y =>
      rw [hp] at h
      obtain ⟨ps, i1, r1⟩ := y
      have hat1 := (parts_at f).1 _ _ _ _ _ _ _ _ _ hp
      obtain ⟨s1, s2⟩ := hsl.2 c t rfl
      have hgo := parts_go hp (marks_none hm s1 s2 (by simpa using g0) (by simpa using g2))
      dsimp only at h
      by_cases g3 : announces toks = true
      ·rw [if_pos g3] at h
       cases hwe : wordEnd ps [] false with
       | none => rw [hwe] at h; cases h
       | some z =>
        obtain ⟨ze, zq⟩ := z
        rw [hwe] at h
        dsimp only at h
        obtain ⟨o1, o2⟩ := one ⟨0, [], ps, false, i⟩ rfl
        have e : sk (toks ++ [(⟨0, [], ps, false, i⟩ : Tok), ⟨3, [], [], zq, i⟩]) = sk (toks ++ [(⟨0, [], ps, false, i⟩ : Tok)]) ++ [(3, i)] := by simp [sk]
        have := ih _ _ _ _ _ h (by
         rw [e]
         refine ordS_snoc o1 fun y hy => ?_
         have := o2 (i + 1) (by omega) y hy
         rcases Nat.lt_or_ge y.2 i with h1 | h1
         ·exact .inl h1
         ·exact .inr ⟨by show y.2 = i; omega, rfl⟩) (by
         rw [e]
         intro y hy
         rcases List.mem_append.1 hy with h1 | h1
         ·exact o2 i1 (by omega) y h1
         ·simp at h1; subst h1; show i < i1; omega)
        refine ⟨this.1, fun y hy => ?_⟩
        have := this.2 y hy
        omega
      ·rw [if_neg g3] at h
       obtain ⟨o1, o2⟩ := one ⟨0, [], ps, false, i⟩ rfl
       have := ih _ _ _ _ _ h o1 (o2 i1 (by omega))
       refine ⟨this.1, fun y hy => ?_⟩
       have := this.2 y hy
       omega
theorem lex_ord {f : Nat} {s : Bs} {x : List Tok} (h : lex f s = some (.ok x)) : ordS (sk x) ∧ ∀ y ∈ sk x, y.2 < s.length := by
 unfold lex at h
 split at h
 ·cases h
 ·have := lexL_ord _ _ _ _ _ _ h trivial (fun y hy => by cases hy)
  simpa using this
end Go.Proofs.YteekjekckgpbfaaDoor.Sp
end
section
namespace Go.Proofs.YteekjekckgpbfaaDoor.Abs
open Sp
attribute [local congr] bindO_congr bindR_congr condV_congr wp_congr
def TokC (h : Heap) (cs : List Value) (o : Nat) (x : Tok) : Prop :=
 ∃ w A, RepW h.blk A w x.parts ∧ cs[o]? = some (.int .i64 (x.kind : Int)) ∧ cs[o + 1]? = some (.string (mkS x.text)) ∧ cs[o + 2]? = some w ∧ cs[o + 3]? = some (.bool x.quoted) ∧ cs[o + 4]? = some (.int .i64 (x.at' : Int)) ∧
  (cs.drop o).take 5 = [.int .i64 (x.kind : Int), .string (mkS x.text), w, .bool x.quoted, .int .i64 (x.at' : Int)] ∧ o + 5 ≤ cs.length
def RepV (h : Heap) (v : Value) (ts : List Tok) : Prop :=
 lenA E 22 v = some (.int .i64 (ts.length : Int)) ∧ (ts ≠ [] → ∃ b c cs, v = .slice (some ⟨b, 0, none⟩) ts.length c ∧ h.blk b = some ⟨39, cs, true⟩ ∧ ∀ j x, ts[j]? = some x → TokC h cs (j * 5) x)
theorem RepT.tokC {h : Heap} {A : Nat → Prop} {cs : List Value} {ts : List Tok} (hl : RepT h.blk A cs ts) {j : Nat} {x : Tok} (hj : ts[j]? = some x) : TokC h cs (j * 5) x := by
 obtain ⟨w, hw, g0, g1, g2, g3, g4, g5⟩ := hl.get hj
 refine ⟨w, A, hw, g0, g1, g2, g3, g4, g5, ?_⟩
 have := congrArg List.length g5
 simp at this
 omega
theorem RepTk.v {h : Heap} {A : Nat → Prop} {v : Value} {ts : List Tok} (k : RepTk h A v ts) : RepV h v ts := by
 rcases k with ⟨rfl, rfl⟩ | ⟨b, cs, n, rfl, rfl, hpos, ha, hb, hl⟩
 ·exact ⟨rfl, fun h => (h rfl).elim⟩
 ·exact ⟨by rw [ln22], fun _ => ⟨b, ts.length, cs, rfl, hb, fun j x hj => hl.tokC hj⟩⟩
theorem same_loop' {ts : List Tok} {h : Heap} {v v' : Value} {n N : Nat} (hps : ts.length ≤ 100000) (hv : RepV h v ts) (hv' : RepV h v' ts)
  (hin : ∀ x, x ∈ ts → wtL x.parts ≤ 90000) (hn : 90002 ≤ n) : ∀ (m jx : Nat), jx ≤ ts.length → ts.length - jx < m →
  l11_11 (cF n) N m v v' (.int .i64 (jx : Int)) h = some (.ret (.bool true), h) := by
 have hlen := hv.1
 intro m
 induction m with
 | zero => intro jx _ h; omega
 | succ m ih =>
  intro jx hj hm
  rcases b2 (decide (jx < ts.length)) with hlt | hlt
  ·have hlt0 := of_decide_eq_true hlt
   have hne : ts ≠ [] := by intro e; subst e; simp at hlt0
   have hg : ts[jx]? = some ts[jx] := by simp [hlt0]
   have hmem : ts[jx] ∈ ts := List.getElem_mem ..
   have hin1 := hin _ hmem
   generalize ts[jx] = x at hg hin1
   have hb1 : jx + 1 < 9223372036854775808 := by omega
   have hrec := ih (jx + 1) (by omega) (by omega)
   obtain ⟨b, c1, cs, rfl, hb, hl⟩ := hv.2 hne
   obtain ⟨b', c2, cs', rfl, hb', hl'⟩ := hv'.2 hne
   obtain ⟨w, A, hw, g0, g1, g2, g3, g4, _⟩ := hl _ _ hg
   obtain ⟨w', A', hw', d0, d1, d2, d3, d4, _⟩ := hl' _ _ hg
   have hcall := sameParts_ok 90000 x.parts w w' n hin1 hw hw' (by omega) (by omega)
   have z0 : 0 + jx * 5 = jx * 5 := by omega
   have z00 : jx * 5 + 0 = jx * 5 := rfl
   clear hv hv' hin hn hps hl hl'
   simp -implicitDefEqProofs only [l11_11, p11_12, hlen, hlt, ia22 b 0 ts.length c1 jx hlt0, ia22 b' 0 ts.length c2 jx hlt0, z0, z00, hb, hb', g0, g1, g2, g3, g4, d0, d1, d2, d3, d4, n_nes, s_nes, s_nes', b_neq, b_nes, hcall, p11_19, p11_16, wrap_nat (jx + 1) hb1, hrec, SS, SU, Nat.reduceAdd, Nat.reduceLeDiff, Nat.reduceBEq, Nat.reduceMul]
  ·clear hv hv' hin hn hps
   simp -implicitDefEqProofs only [l11_11, p11_12, hlen, hlt, p11_7, SS, SU, Nat.reduceAdd, Nat.reduceLeDiff, Nat.reduceBEq, Nat.reduceMul]
theorem same_ok' {ts : List Tok} {h : Heap} {v v' : Value} {n : Nat} (hps : ts.length ≤ 90000) (hv : RepV h v ts) (hv' : RepV h v' ts)
  (hin : ∀ x, x ∈ ts → wtL x.parts ≤ 90000) (hn : 90003 ≤ n) : cF n 11 [v, v'] h = some (.ret (.bool true), h) := by
 obtain ⟨n, rfl⟩ : ∃ n', n = n' + 1 := ⟨n - 1, by omega⟩
 have hloop := same_loop' (n := n) (N := n) (by omega) hv hv' hin (by omega) n 0 (by omega) (by omega)
 have e0 : ((0 : Nat) : Int) = 0 := rfl
 rw [e0] at hloop
 have l1 := hv.1
 have l2 := hv'.1
 clear hin hv hv' hn hps
 refine Eq.trans (c11 ..) ?_
 simp -implicitDefEqProofs only [f11, p11_0, l1, l2, n_nes, p11_10, hloop, SS, SU, Nat.reduceAdd, Nat.reduceLeDiff, Nat.reduceBEq, Nat.reduceMul]
/-! ### Blocks that stay -/
theorem un_alloc' (h : Heap) (o : AObj) : Un h.next h (h.alloc o) := Un.alloc h o (Nat.le_refl _)
theorem un_trans' {h h1 h2 : Heap} (u : Un h.next h h1) (k : Un h1.next h1 h2) : Un h.next h h2 := ⟨Nat.le_trans u.1 k.1, fun b hb => (k.2 b (Nat.lt_of_lt_of_le hb u.1)).trans (u.2 b hb)⟩
theorem alloc_set' (h : Heap) (b b' : Blk) : (h.alloc (.cells b)).set h.next (.cells b') = h.alloc (.cells b') := put_lx ⟨h.m, h.next + 1⟩ h.next (.cells b) (.cells b')
theorem min2' (a b : Nat) : minL [.int .i64 (a : Int), .int .i64 (b : Int)] = some (.int .i64 ((min a b : Nat) : Int)) := by
 show (bif true then (some (.int .i64 (bif decide ((b : Int) < (a : Int)) then (b : Int) else (a : Int))) : Option Value) else none) = _
 rcases b2 (decide ((b : Int) < (a : Int))) with g | g
 ·have := of_decide_eq_true g
  rw [g]
  simp only [cond_true]
  rw [show min a b = b by omega]
 ·have := of_decide_eq_false g
  rw [g]
  simp only [cond_true, cond_false]
  rw [show min a b = a by omega]
theorem RepTk.keep' {h h' : Heap} {A : Nat → Prop} {v : Value} {ts : List Tok} (k : RepTk h A v ts) (u : Un h.next h h') : RepTk h' A v ts := by
 have st : ∀ b y, h.blk b = some y → h'.blk b = some y := fun b y e => (u.2 _ (Heap.blk_lt e)).trans e
 rcases k with e | ⟨b, cs, n, e1, e2, e3, e4, e5, e6⟩
 ·exact .inl e
 ·exact .inr ⟨b, cs, n, e1, e2, e3, e4, st _ _ e5, e6.mono fun b y a e => ⟨a, st b y e⟩⟩
theorem TokC.keep {h h' : Heap} {cs : List Value} {o : Nat} {x : Tok} (k : TokC h cs o x) (u : Un h.next h h') : TokC h' cs o x := by
 obtain ⟨w, A, hw, r⟩ := k
 exact ⟨w, A, hw.mono fun b y a e => ⟨a, (u.2 _ (Heap.blk_lt e)).trans e⟩, r⟩
theorem RepV.keep {h h' : Heap} {v : Value} {ts : List Tok} (k : RepV h v ts) (u : Un h.next h h') : RepV h' v ts := by
 refine ⟨k.1, fun hne => ?_⟩
 obtain ⟨b, c, cs, e1, e2, e3⟩ := k.2 hne
 exact ⟨b, c, cs, e1, (u.2 _ (Heap.blk_lt e2)).trans e2, fun j x hj => (e3 j x hj).keep u⟩
theorem RepV.take {h : Heap} {b c : Nat} {cs : List Value} {ts us : List Tok} (hb : h.blk b = some ⟨39, cs, true⟩) (hl : ∀ j x, (ts ++ us)[j]? = some x → TokC h cs (j * 5) x) : RepV h (.slice (some ⟨b, 0, none⟩) ts.length c) ts := by
 refine ⟨by rw [ln22], fun _ => ⟨b, c, cs, rfl, hb, fun j x hj => hl j x ?_⟩⟩
 have hlt : j < ts.length := (List.getElem?_eq_some_iff.1 hj).1
 rw [List.getElem?_append_left hlt]
 exact hj
theorem RepV.one {h : Heap} {A : Nat → Prop} {b : Nat} {x : Tok} {w : Value} (hb : h.blk b = some ⟨39, [.int .i64 (x.kind : Int), .string (mkS x.text), w, .bool x.quoted, .int .i64 (x.at' : Int)], true⟩) (hw : RepW h.blk A w x.parts) : RepV h (.slice (some ⟨b, 0, none⟩) 1 1) [x] := by
 refine ⟨by rw [ln22]; rfl, fun _ => ⟨b, 1, _, rfl, hb, fun j y hj => ?_⟩⟩
 cases j with
 | zero =>
  simp only [List.getElem?_cons_zero, Option.some.injEq] at hj
  subst hj
  exact ⟨w, A, hw, rfl, rfl, rfl, rfl, rfl, rfl, Nat.le_refl _⟩
 | succ j => simp at hj
theorem lex_some' {f : Nat} {s : Bs} (h : s.length + 1 < f) : ∃ x, lex f s = some x := by
 unfold lex
 split
 ·exact ⟨_, rfl⟩
 ·exact lexL_some f [] [] 0 s h (fun x hx => by cases hx)
/-! ### Numbers taken ahead -/
def resv (n : Nat) (h : Heap) : Heap := ⟨h.m, h.next + n⟩
theorem reserveK_eq (n : Nat) (h : Heap) (F : Nat → Heap → Ans) : reserveK n h F = F h.next (resv n h) := rfl
theorem next_resv (n : Nat) (h : Heap) : (resv n h).next = h.next + n := rfl
theorem blk_resv {n b : Nat} {h : Heap} (hb : b < h.next) : (resv n h).blk b = h.blk b := by
 have h1 : Nat.blt b h.next = true := by simpa using hb
 have h2 : Nat.blt b (h.next + n) = true := by simp; omega
 show (match h.get b with | some (.cells k) => bif Nat.blt b (h.next + n) then some k else none | _ => none) = match h.get b with | some (.cells k) => bif Nat.blt b h.next then some k else none | _ => none
 rw [h1, h2]
theorem un_resv (n : Nat) (h : Heap) : Un h.next h (resv n h) := ⟨by rw [next_resv]; omega, fun b hb => blk_resv hb⟩
theorem atR_alloc (b : Nat) (h : Heap) (v : Value) (o : AObj) : atR h.next (valR (some (v, (atN b h).alloc o))) = some (.ret v, h.set b o) := rfl
theorem atR_alloc2 (b : Nat) (h : Heap) (v : Value) (o : AObj) : atR h.next (some (.ret v, (atN b h).alloc o)) = some (.ret v, h.set b o) := rfl
theorem atN_next (b : Nat) (h : Heap) : (atN b h).next = b := rfl
end Go.Proofs.YteekjekckgpbfaaDoor.Abs
end
section
namespace Go.Proofs.YteekjekckgpbfaaDoor.Sp
def putFor (c : UInt8) (new : Bs) (l : Bs) : Bs := l.flatMap fun b => if b == c then new else [b]
theorem index_eq (c : UInt8) (l : Bs) : Lib.index (c :: l) [c] = 0 := by
 unfold Lib.index
 rw [if_pos (by simp)]
theorem index_ne {b c : UInt8} (h : b ≠ c) (l : Bs) : Lib.index (b :: l) [c] = if Lib.index l [c] == -1 then -1 else Lib.index l [c] + 1 := by
 conv => lhs; unfold Lib.index
 rw [if_neg (by simp [Ne.symm h])]
theorem replaceK_eq (c : UInt8) (new : Bs) (k : Nat) (l : Bs) : Lib.replaceK [c] new (k + 1) (c :: l) = new ++ Lib.replaceK [c] new k l := by
 rw [Lib.replaceK, index_eq]
 rw [if_neg (by decide)]
 rfl
theorem replaceK_ne {b c : UInt8} (h : b ≠ c) (new : Bs) (k : Nat) (l : Bs) : Lib.replaceK [c] new k (b :: l) = b :: Lib.replaceK [c] new k l := by
 cases k with
 | zero => rfl
 | succ k =>
  rw [Lib.replaceK, Lib.replaceK, index_ne h]
  by_cases hi : (Lib.index l [c] == -1) = true
  ·simp [hi]
  ·have hge := Lib.index_ge l [c]
   have hne : Lib.index l [c] ≠ -1 := by simpa using hi
   obtain ⟨i, hi2⟩ : ∃ i : Nat, Lib.index l [c] = i := ⟨(Lib.index l [c]).toNat, by omega⟩
   rw [hi2]
   have e1 : (((i : Int)) == -1) = false := beq_eq_false_iff_ne.2 (by omega)
   have e2 : (((i : Int) + 1) == -1) = false := beq_eq_false_iff_ne.2 (by omega)
   have e3 : ((i : Int) + 1).toNat = i + 1 := by omega
   have e4 : ((i : Int)).toNat = i := by omega
   simp only [e1, Bool.false_eq_true, if_false, e2, e3, e4]
   have : i + 1 + [c].length = i + [c].length + 1 := by simp
   rw [this]
   rfl
theorem replace_byte (c : UInt8) (new l : Bs) : Lib.replaceAll l [c] new = putFor c new l := by
 unfold Lib.replaceAll Lib.replace
 by_cases h : ([c] == new) = true
 ·rw [if_pos h]
  have : [c] = new := by simpa using h
  subst this
  unfold putFor
  induction l with
  | nil => rfl
  | cons b l ih =>
   rw [List.flatMap_cons, ← ih]
   by_cases hb : (b == c) = true
   ·have : b = c := by simpa using hb
    subst this
    simp
   ·rw [if_neg hb]; rfl
 ·rw [if_neg h]
  have hn : Lib.replaceNum l [c] (-1) = l.count c := by
   unfold Lib.replaceNum
   rw [if_pos (Or.inl (by decide)), Lib.count_one]
  rw [hn]
  unfold putFor
  clear h hn
  induction l with
  | nil => rfl
  | cons b l ih =>
   rw [List.flatMap_cons]
   by_cases hb : b = c
   ·subst hb
    rw [List.count_cons_self, replaceK_eq, ih]
    simp
   ·rw [List.count_cons_of_ne hb, replaceK_ne hb, ih]
    simp [hb]
theorem putFor_none {c : UInt8} : ∀ l : Bs, (putFor c [] l).contains c = false := by
 intro l
 unfold putFor
 induction l with
 | nil => rfl
 | cons b l ih =>
  rw [List.flatMap_cons]
  by_cases hb : (b == c) = true
  ·rw [if_pos hb]; exact ih
  ·rw [if_neg hb, List.singleton_append, List.contains_cons, ih, Bool.or_false]
   cases h : (c == b) with
   | false => rfl
   | true =>
    have : c = b := by simpa using h
    subst this
    simp at hb
theorem putFor_len (c : UInt8) : ∀ l : Bs, (putFor c [] l).length ≤ l.length := by
 intro l
 unfold putFor
 induction l with
 | nil => simp
 | cons b l ih =>
  rw [List.flatMap_cons]
  by_cases hb : (b == c) = true
  ·rw [if_pos hb]; simp at ih ⊢; omega
  ·rw [if_neg hb]; simp at ih ⊢; omega
end Go.Proofs.YteekjekckgpbfaaDoor.Sp
end
section
namespace Go.Proofs.YteekjekckgpbfaaDoor.Abs
open Sp
attribute [local congr] bindO_congr bindR_congr condV_congr wp_congr
theorem oneq_if (t : Nat) (v : Value) : binA E 24 .neq (.iface t v) .nilIface = some (.bool true) := by kernel_rfl
theorem oneq_nil : binA E 24 .neq .nilIface .nilIface = some (.bool false) := by kernel_rfl
theorem oeq_nil : binA E 24 .eql .nilIface .nilIface = some (.bool true) := by kernel_rfl
theorem c17 (n : Nat) (x y z : Value) (h : Heap) : cF (n + 1) 17 [x, y, z] h = replA x y z h := by kernel_rfl
theorem repl_eq (n : Nat) (l new : Bs) (c : UInt8) (h : Heap) (h1 : l.length ≤ 100000) (h2 : new.length ≤ 1000) : cF (n + 1) 17 [.string (mkS l), .string (mkS [c]), .string (mkS new)] h = some (.ret (.string (mkS (putFor c new l))), h) := by
 rw [c17]
 have e1 : decide (slen (mkS l) ≤ 100000) = true := decide_eq_true h1
 have e2 : decide (1 ≤ slen (mkS [c])) = true := rfl
 have e3 : decide (slen (mkS new) ≤ 1000) = true := decide_eq_true h2
 show (bif decide (slen (mkS l) ≤ 100000) && decide (1 ≤ slen (mkS [c])) && decide (slen (mkS new) ≤ 1000) then some (Res.ret (.string (mkS (Lib.replaceAll l [c] new))), h) else none) = _
 rw [e1, e2, e3, replace_byte]
 rfl
theorem order_loop {x : List Tok} {s : Bs} {h : Heap} {v s1 : Value} {n N : Nat} (hps : x.length ≤ 100000) (hv : RepV h v x) (ho : ordS (sk x)) (hb : ∀ t ∈ x, t.at' < s.length) : ∀ (m j : Nat), j ≤ x.length → x.length - j < m →
  l7_26 (cF n) N m (.string (mkS s)) s1 v (.int .i64 (j : Int)) h = p7_14 (cF n) N (.string (mkS s)) s1 h := by
 have hlen := hv.1
 intro m
 induction m with
 | zero => intro j _ h; omega
 | succ m ih =>
  intro j hj hm
  rcases b2 (decide (j < x.length)) with hlt | hlt
  ·have hlt0 := of_decide_eq_true hlt
   have hne : x ≠ [] := by intro e; subst e; simp at hlt0
   have hg : x[j]? = some x[j] := by simp [hlt0]
   have hat := hb _ (List.getElem_mem hlt0)
   have hrec := ih (j + 1) (by omega) (by omega)
   obtain ⟨b, c1, cs, rfl, hbk, hl⟩ := hv.2 hne
   obtain ⟨w, A, hw, g0, _, _, _, g4, _⟩ := hl _ _ hg
   have hord : ∀ u, 0 < j → x[j - 1]? = some u → u.at' < x[j].at' ∨ (u.at' = x[j].at' ∧ x[j].kind = 3) := fun u h0 hu => by
    have := ordS_get ho (j - 1) (u.kind, u.at') (x[j].kind, x[j].at') (by simp [sk, hu]) (by rw [show j - 1 + 1 = j by omega]; simp [sk, hg])
    simpa using this
   generalize x[j] = t at hg g0 g4 hat hord
   have hb1 : j + 1 < 9223372036854775808 := by omega
   have z0 : 0 + j * 5 = j * 5 := by omega
   have z00 : j * 5 + 0 = j * 5 := rfl
   have e1 : decide (s.length ≤ t.at') = false := decide_eq_false (by omega)
   rw [l7_26]
   rcases Nat.eq_zero_or_pos j with h0 | h0
   ·have e2 : decide (0 < j) = false := decide_eq_false (by omega)
    clear ih hv hl ho hb hw hord
    simp -implicitDefEqProofs only [p7_27, hlen, hlt, ia22 b 0 x.length c1 j hlt0, z0, z00, hbk, g4, e1, e2, p7_34, p7_31, wrap_nat (j + 1) hb1, hrec, SS, SU, Nat.reduceAdd, Nat.reduceLeDiff, Nat.reduceBEq, Nat.reduceMul]
   ·have e2 : decide (0 < j) = true := decide_eq_true h0
    have hlt1 : j - 1 < x.length := by omega
    have hgu : x[j - 1]? = some x[j - 1] := by simp [hlt1]
    obtain ⟨w', A', hw', d0, _, _, _, d4, _⟩ := hl _ _ hgu
    have hord := hord _ h0 hgu
    generalize x[j - 1] = u at hgu d0 d4 hord
    have y0 : 0 + (j - 1) * 5 = (j - 1) * 5 := by omega
    have p1 := pull_sub1 j (by omega)
    have hb2 : j - 1 < 9223372036854775808 := by omega
    have e3 : decide (t.at' < u.at') = false := decide_eq_false (by omega)
    have e5 : ((t.kind : Int) != 3) = (t.kind != 3) := n_ne t.kind 3
    rcases b2 (t.at' == u.at') with g | g
    ·have e6 : (t.kind != 3) = false := by
      have g : t.at' = u.at' := by simpa using g
      rcases hord with hh | ⟨_, hh⟩
      ·omega
      ·rw [hh]; rfl
     clear ih hv hl ho hb hw hw' hord
     simp -implicitDefEqProofs only [p7_27, hlen, hlt, ia22 b 0 x.length c1 j hlt0, ia22 b 0 x.length c1 (j - 1) hlt1, z0, z00, y0, hbk, g0, g4, d4, e1, e2, e3, g, e5, e6, p1, wrap_nat _ hb2, p7_34, p7_31, wrap_nat (j + 1) hb1, hrec, SS, SU, Nat.reduceAdd, Nat.reduceLeDiff, Nat.reduceBEq, Nat.reduceMul]
    ·clear ih hv hl ho hb hw hw' hord
     simp -implicitDefEqProofs only [p7_27, hlen, hlt, ia22 b 0 x.length c1 j hlt0, ia22 b 0 x.length c1 (j - 1) hlt1, z0, z00, y0, hbk, g0, g4, d4, e1, e2, e3, g, p1, wrap_nat _ hb2, p7_34, p7_31, wrap_nat (j + 1) hb1, hrec, SS, SU, Nat.reduceAdd, Nat.reduceLeDiff, Nat.reduceBEq, Nat.reduceMul]
  ·clear ih hv ho hb
   simp -implicitDefEqProofs only [l7_26, p7_27, hlen, hlt, SS, SU, Nat.reduceAdd, Nat.reduceLeDiff, Nat.reduceBEq, Nat.reduceMul]
theorem order_run (a b : List UInt8) (h : Heap) : wp (cF 100101 7 [.string (mkS a), .string (mkS b)] h) (fun r _ => r = .ret (.bool true)) := by
 obtain ⟨n, hn⟩ : ∃ n, n = 100000 := ⟨_, rfl⟩
 have hN : 100101 = n + 100 + 1 := by omega
 rw [hN]
 have hm1 := min2' a.length 3000
 have ec : ((3000 : Nat) : Int) = 3000 := rfl
 rw [ec] at hm1
 have hm2 := min2' b.length 100
 have ec2 : ((100 : Nat) : Int) = 100 := rfl
 rw [ec2] at hm2
 have hs1 := sl9_hi a (min a.length 3000) h (by omega)
 have hs2 := fun h => sl9_hi b (min b.length 100) h (by omega)
 have la : (a.take (min a.length 3000)).length ≤ 3000 := by simp; omega
 have lb : (b.take (min b.length 100)).length ≤ 100 := by simp; omega
 rw [c7]
 simp -implicitDefEqProofs only [f7, p7_0, m12, hm1, hs1, SS, SU, Nat.reduceAdd, Nat.reduceLeDiff, Nat.reduceBEq, Nat.reduceMul]
 clear hm1 hs1 ec
 generalize a.take (min a.length 3000) = sa at *
 obtain ⟨ra, hra⟩ := lex_some' (f := 3003) (s := sa) (by omega)
 refine wp_bindR (lex_ok (n := n + 100) (h := h) hra (by omega) (by omega) (by omega)) ?_ ?_
 ·intro v h1 q1
  obtain ⟨u1, q1⟩ := q1
  cases ra with
  | bad c a =>
   obtain ⟨b1, e, _, _⟩ := q1
   have e := Res.ret.inj e
   subst e
   have e0 : ((0 : Nat) : Int) = 0 := rfl
   have e1 : ((0 : Int) == 0) = true := rfl
   clear hra la lb hn hN
   simp -implicitDefEqProofs only [oneq_if, e0, e1, SS, SU, Nat.reduceAdd, Nat.reduceLeDiff, Nat.reduceBEq, Nat.reduceMul]
   exact wp_some.2 rfl
  | ok x =>
   obtain ⟨vx, e, kx⟩ := q1
   have e := Res.ret.inj e
   subst e
   obtain ⟨w1, _⟩ := lex_wt hra
   obtain ⟨o1, o2⟩ := lex_ord hra
   have hloop := order_loop (n := n + 100) (N := n + 100) (h := h1) (v := vx) (s := sa) (s1 := .string (mkS b)) (x := x) (by omega) kx.v o1 (fun t ht => o2 (t.kind, t.at') (List.mem_map.2 ⟨t, ht, rfl⟩)) (n + 100) 0 (by omega) (by omega)
   have e0 : ((0 : Nat) : Int) = 0 := rfl
   rw [e0] at hloop
   have hs2 := hs2 h1
   generalize hsb : b.take (min b.length 100) = sb at *
   have hrl := putFor_len 10 sb
   have hrp := repl_eq (n + 99) sb [] 10 h1 (by omega) (by simp)
   have hr0 : (putFor 10 [] sb).contains 10 = false := putFor_none sb
   generalize putFor 10 [] sb = r at *
   have hsf := hasSuffix_eq (h := h1) (n + 98) sa [92] (by omega)
   rcases b2 (suf [92] sa) with g | g
   ·clear hra la lb hn hN w1 o1 o2
    simp -implicitDefEqProofs only [oneq_nil, p7_25, hloop, p7_14, hm2, hs2, hrp, hsf, g, SS, SU, Nat.reduceAdd, Nat.reduceLeDiff, Nat.reduceBEq, Nat.reduceMul]
    exact wp_some.2 rfl
   ·obtain ⟨z, hz1, hz2⟩ := lex_remark hra hr0 (by omega)
    have j1 : binA E 9 .add (.string (mkS sa)) (.string (mkS [10, 35, 32])) = some (.string (mkS (sa ++ [10, 35, 32]))) := bin_sadd E 9 sa _ (by simp only [most, List.length_cons, List.length_nil]; omega)
    have j2 : binA E 9 .add (.string (mkS (sa ++ [10, 35, 32]))) (.string (mkS r)) = some (.string (mkS (sa ++ 10 :: 35 :: 32 :: r))) := by
     rw [bin_sadd E 9 (sa ++ [10, 35, 32]) r (by simp only [most, List.length_append, List.length_cons, List.length_nil]; omega)]
     simp
    have j3 : binA E 9 .add (.string (mkS sa)) (.string (mkS [10])) = some (.string (mkS (sa ++ [10]))) := bin_sadd E 9 sa _ (by simp only [most, List.length_cons, List.length_nil]; omega)
    have lex1 := lex_ok (n := n + 100) (h := h1) hz2 (by omega) (by omega) (by simp; omega)
    have lex2 := fun h => lex_ok (n := n + 100) (h := h) hz1 (by omega) (by omega) (by simp; omega)
    obtain ⟨w2, w3⟩ := lex_wt hz1
    have hw : ∀ u ∈ z, wtL u.parts ≤ 90000 := fun u hu => by have := w3 u hu; omega
    have hzl : z.length ≤ 90000 := by omega
    have hn' : 90003 ≤ n + 100 := by omega
    clear hra la lb hn hN w1 o1 o2 hz1 hz2 w2 w3
    simp -implicitDefEqProofs only [oneq_nil, p7_25, hloop, p7_14, hm2, hs2, hrp, hsf, g, j1, j2, SS, SU, Nat.reduceAdd, Nat.reduceLeDiff, Nat.reduceBEq, Nat.reduceMul]
    refine wp_bindR lex1 ?_ ?_
    ·intro v h2 q
     obtain ⟨u2, va, e, hva⟩ := q
     have e := Res.ret.inj e
     subst e
     simp -implicitDefEqProofs only [j3, SS, SU, Nat.reduceAdd, Nat.reduceLeDiff, Nat.reduceBEq, Nat.reduceMul]
     refine wp_bindR (lex2 h2) ?_ ?_
     ·intro v h3 q
      obtain ⟨u3, vb, e, hvb⟩ := q
      have e := Res.ret.inj e
      subst e
      have hs := same_ok' hzl (hva.keep' u3).v hvb.v hw hn'
      clear hw hn' hzl
      simp -implicitDefEqProofs only [p7_22, oeq_nil, hs, SS, SU, Nat.reduceAdd, Nat.reduceLeDiff, Nat.reduceBEq, Nat.reduceMul]
      exact wp_some.2 rfl
     ·intro v h3 q
      obtain ⟨_, _, e, _⟩ := q; cases e
    ·intro v h2 q
     obtain ⟨_, _, e, _⟩ := q; cases e
 ·intro v h1 q
  obtain ⟨_, q⟩ := q
  cases ra with
  | ok toks => obtain ⟨_, e, _⟩ := q; cases e
  | bad c a => obtain ⟨_, e, _⟩ := q; cases e
end Go.Proofs.YteekjekckgpbfaaDoor.Abs
end
section
namespace Go.Proofs.YteekjekckgpbfaaDoor.Sp
def escB (b : UInt8) : Bs := if b == 92 || b == 34 || b == 36 || b == 96 then [92, b] else [b]
def escT (t : Bs) : Bs := t.flatMap escB
theorem esc_all (t : Bs) : putFor 96 [92, 96] (putFor 36 [92, 36] (putFor 34 [92, 34] (putFor 92 [92, 92] t))) = escT t := by
 unfold putFor escT
 rw [List.flatMap_assoc, List.flatMap_assoc, List.flatMap_assoc]
 congr 1
 funext b
 unfold escB
 by_cases h1 : b = 92
 ·subst h1; rfl
 by_cases h2 : b = 34
 ·subst h2; rfl
 by_cases h3 : b = 36
 ·subst h3; rfl
 by_cases h4 : b = 96
 ·subst h4; rfl
 simp [h1, h2, h3, h4]
theorem escT_len (t : Bs) : (escT t).length ≤ 2 * t.length := by
 unfold escT
 induction t with
 | nil => simp
 | cons b t ih =>
  rw [List.flatMap_cons, List.length_append]
  have : (escB b).length ≤ 2 := by unfold escB; split <;> simp
  simp only [List.length_cons]; omega
theorem parts_esc (d : Nat) : ∀ (t text rest : Bs) (i f : Nat), t.length + 1 ≤ f → parts f 1 d [] text i (escT t ++ 34 :: rest) = some (.ok (flush 1 [] (text ++ t), i + (escT t).length, 34 :: rest)) := by
 intro t
 induction t with
 | nil =>
  intro text rest i f hf
  obtain ⟨f, rfl⟩ : ∃ f', f = f' + 1 := ⟨f - 1, by simp at hf; omega⟩
  simp only [escT, List.flatMap_nil, List.nil_append, List.append_nil, List.length_nil, Nat.add_zero]
  rw [parts_cons, if_pos (by decide)]
 | cons b t ih =>
  intro text rest i f hf
  obtain ⟨f, rfl⟩ : ∃ f', f = f' + 1 := ⟨f - 1, by simp at hf; omega⟩
  have hf' : t.length + 1 ≤ f := by simp at hf; omega
  have ee : escT (b :: t) = escB b ++ escT t := List.flatMap_cons ..
  rw [ee]
  by_cases hs : (b == 92 || b == 34 || b == 36 || b == 96) = true
  ·have eb : escB b = [92, b] := by unfold escB; rw [if_pos hs]
   rw [eb]
   have eo : esc 1 b = [b] := by
    simp only [Bool.or_eq_true, beq_iff_eq] at hs
    rcases hs with ((rfl | rfl) | rfl) | rfl <;> rfl
   have hp : pre [92, 10] (92 :: (b :: (escT t ++ 34 :: rest))) = false := by
    have : b ≠ 10 := by
     simp only [Bool.or_eq_true, beq_iff_eq] at hs
     rcases hs with ((rfl | rfl) | rfl) | rfl <;> decide
    unfold pre
    rw [beq_eq_false_iff_ne]
    intro hh
    simp at hh
    exact this hh
   simp only [List.cons_append, List.nil_append]
   rw [parts_cons, if_neg (by decide), if_neg (by rw [hp]; simp), if_pos (by decide)]
   dsimp only
   rw [eo, ih _ _ _ _ hf', List.append_assoc]
   simp only [List.singleton_append, List.length_cons, List.length_append, List.length_nil, Option.some.injEq, Rz.ok.injEq, Prod.mk.injEq, true_and, and_true]
   omega
  ·have eb : escB b = [b] := by unfold escB; rw [if_neg hs]
   rw [eb]
   simp only [Bool.or_eq_true, beq_iff_eq, not_or] at hs
   obtain ⟨⟨⟨h1, h2⟩, h3⟩, h4⟩ := hs
   have b1 : (b == 92) = false := beq_eq_false_iff_ne.2 h1
   have b2 : (b == 34) = false := beq_eq_false_iff_ne.2 h2
   have b3 : (b == 36) = false := beq_eq_false_iff_ne.2 h3
   have b4 : (b == 96) = false := beq_eq_false_iff_ne.2 h4
   have he : ends 1 b = false := by unfold ends; simp [h2]
   have hp : pre [92, 10] (b :: (escT t ++ 34 :: rest)) = false := by
    unfold pre
    rw [beq_eq_false_iff_ne]
    intro hh
    simp at hh
    exact h1 hh.1
   have hq : inQ 1 = true := rfl
   simp only [List.cons_append, List.nil_append]
   rw [parts_cons, if_neg (by rw [he]; simp), if_neg (by rw [hp]; simp), if_neg (by rw [b1]; simp), if_neg (by rw [b1]; simp), if_neg (by rw [b3]; simp), if_neg (by rw [b4, b2]; simp), if_neg (by rw [hq]; simp), if_neg (by rw [hq]; simp)]
   rw [ih _ _ _ _ hf', List.append_assoc]
   simp only [List.singleton_append, List.length_cons, List.length_append, List.length_nil, Option.some.injEq, Rz.ok.injEq, Prod.mk.injEq, true_and, and_true]
   omega
theorem find_first {c : UInt8} : ∀ {t : Bs} (r : Bs), t.contains c = false → find c (t ++ c :: r) = some t.length := by
 intro t
 induction t with
 | nil => intro r _; unfold find; rw [List.nil_append]; simp
 | cons b t ih =>
  intro r h
  rw [List.contains_cons] at h
  have h1 : (c == b) = false := by cases hh : (c == b) <;> simp_all
  have h2 : t.contains c = false := by cases hh : t.contains c <;> simp_all
  have h3 : (b == c) = false := by
   rw [beq_eq_false_iff_ne] at h1 ⊢
   exact fun e => h1 e.symm
  rw [List.cons_append]
  unfold find
  rw [if_neg (by rw [h3]; simp), ih r h2]
  rfl
theorem parts_single {t : Bs} (ht : t.contains 39 = false) (rest : Bs) (i f : Nat) (hf : 2 ≤ f) : parts f 0 0 [] [] i (39 :: t ++ 39 :: 32 :: rest) = some (.ok ([⟨1, t, [], false, []⟩], i + t.length + 2, 32 :: rest)) := by
 obtain ⟨f, rfl⟩ : ∃ f', f = f' + 2 := ⟨f - 2, by omega⟩
 have hp : pre [92, 10] (39 :: (t ++ 39 :: 32 :: rest)) = false := by
  unfold pre
  rw [beq_eq_false_iff_ne]
  intro hh
  simp at hh
 rw [List.cons_append, parts_cons, if_neg (by decide), if_neg (by rw [hp]; simp), if_neg (by decide), if_neg (by decide), if_neg (by decide), if_neg (by decide), if_pos (by decide), find_first _ ht]
 dsimp only
 have e1 : (t ++ 39 :: 32 :: rest).take t.length = t := List.take_left
 have e2 : (t ++ 39 :: 32 :: rest).drop (t.length + 1) = 32 :: rest := by rw [← List.drop_drop, List.drop_left]; rfl
 rw [e1, e2, parts_cons, if_pos (by decide)]
 rfl
theorem parts_double (t rest : Bs) (i f : Nat) (hf : t.length + 3 ≤ f) : parts f 0 0 [] [] i (34 :: escT t ++ 34 :: 9 :: rest) = some (.ok ([⟨1, t, [], true, []⟩], i + 1 + (escT t).length + 1, 9 :: rest)) := by
 obtain ⟨f, rfl⟩ : ∃ f', f = f' + 2 := ⟨f - 2, by omega⟩
 have hp : pre [92, 10] (34 :: (escT t ++ 34 :: 9 :: rest)) = false := by
  unfold pre
  rw [beq_eq_false_iff_ne]
  intro hh
  simp at hh
 rw [List.cons_append, parts_cons, if_neg (by decide), if_neg (by rw [hp]; simp), if_neg (by decide), if_neg (by decide), if_neg (by decide), if_neg (by decide), if_neg (by decide), if_pos (by decide), parts_esc 0 t [] _ _ _ (by omega)]
 dsimp only
 rw [if_pos (by unfold pre; simp)]
 have e1 : (34 :: 9 :: rest : Bs).drop 1 = 9 :: rest := rfl
 rw [e1, parts_cons, if_pos (by decide)]
 have e2 : (flush 0 (flush 0 [] [] ++ (if (flush 1 [] ([] ++ t)).isEmpty then [(⟨1, [], [], true, []⟩ : Part)] else flush 1 [] ([] ++ t))) []) = [⟨1, t, [], true, []⟩] := by
  cases t with
  | nil => rfl
  | cons b t => rfl
 rw [e2]
def IsWord (q : Bool) (x : Tok) (t : Bs) : Prop := x.kind = 0 ∧ x.parts = [⟨1, t, [], q, []⟩]
inductive Words (q : Bool) : List Tok → List Bs → Prop
 | nil : Words q [] []
 | cons (x : Tok) (t : Bs) (xs : List Tok) (ts : List Bs) : IsWord q x t → Words q xs ts → Words q (x :: xs) (t :: ts)
theorem Words.append {q : Bool} {a b : List Tok} {c d : List Bs} (h : Words q a c) (k : Words q b d) : Words q (a ++ b) (c ++ d) := by
 induction h with
 | nil => exact k
 | cons x t xs ts hx _ ih => exact .cons x t _ _ hx ih
theorem ann_word {q : Bool} {toks : List Tok} {ts : List Bs} (h : Words q toks ts) : announces toks = false := by
 unfold announces
 cases hl : toks.getLast? with
 | none => rfl
 | some x =>
  have hm : x ∈ toks := List.mem_of_getLast? hl
  have : ∀ {xs : List Tok} {ts : List Bs}, Words q xs ts → x ∈ xs → x.kind = 0 := by
   intro xs ts hw
   induction hw with
   | nil => intro h; cases h
   | cons y t xs ts hy _ ih =>
    intro h
    rcases List.mem_cons.1 h with e | e
    ·subst e; exact hy.1
    ·exact ih e
  have hk := this h hm
  simp [hk]
def oneOf1 (t : Bs) : Bs := 39 :: t ++ [39, 32]
def twoOf1 (t : Bs) : Bs := 34 :: escT t ++ [34, 9]
theorem skip_blank (i : Nat) (c : UInt8) (r : Bs) (h : (c == 32 || c == 9) = true) : skip i (c :: r) = skip (i + 1) r := by
 conv => lhs; unfold skip
 rw [if_pos h]
theorem skip_stay (i : Nat) (c : UInt8) (r : Bs) (h : (c == 32 || c == 9) = false) (h2 : (c == 92) = false) : skip i (c :: r) = (i, c :: r) := by
 conv => lhs; unfold skip
 rw [if_neg (by rw [h]; simp), if_neg (by rw [h2]; simp)]
theorem lexL_skip {f i0 i1 : Nat} {r0 r1 : Bs} (toks : List Tok) (waits : List (Nat × Bs)) (h : skip i0 r0 = skip i1 r1) : lexL (f + 1) toks waits i0 r0 = lexL (f + 1) toks waits i1 r1 := by
 simp only [lexL, h]
theorem lexL_singles : ∀ (ts : List Bs) (toks : List Tok) (us : List Bs) (i f : Nat), Words false toks us → (∀ t ∈ ts, t.contains 39 = false ∧ t.length ≤ 100) → ts.length + 300 ≤ f →
  ∃ x, lexL f toks [] i (ts.flatMap oneOf1) = some (.ok x) ∧ Words false x (us ++ ts) := by
 intro ts
 induction ts with
 | nil =>
  intro toks us i f hw _ hf
  obtain ⟨f, rfl⟩ : ∃ f', f = f' + 1 := ⟨f - 1, by simp at hf; omega⟩
  exact ⟨toks, lexL_end _ _ _, by simpa using hw⟩
 | cons t ts ih =>
  intro toks us i f hw hts hf
  obtain ⟨f, rfl⟩ : ∃ f', f = f' + 1 := ⟨f - 1, by simp at hf; omega⟩
  obtain ⟨h39, hlen⟩ := hts t (by simp)
  have e0 : (t :: ts).flatMap oneOf1 = 39 :: (t ++ 39 :: 32 :: ts.flatMap oneOf1) := by
   rw [List.flatMap_cons]
   simp [oneOf1]
  rw [e0, lexL_cons f toks [] (i := i) (c := 39) (t := t ++ 39 :: 32 :: ts.flatMap oneOf1) (skip_stay _ _ _ (by decide) (by decide)), if_neg (by decide), if_neg (by decide)]
  have ed : digitOf (39 :: (t ++ 39 :: 32 :: ts.flatMap oneOf1)) = 0 := by
   unfold digitOf
   split
   ·rename_i c d r hh
    injection hh with h1 h2
    subst h1
    rfl
   ·rfl
  have em : marksL.find? (fun m => pre m ((39 :: (t ++ 39 :: 32 :: ts.flatMap oneOf1)).drop 0)) = none := by
   rw [List.find?_eq_none]
   intro m hm
   have h1 : ∀ m ∈ marksL, m ≠ [] ∧ m.head? ≠ some 39 := by decide
   obtain ⟨h2, h3⟩ := h1 m hm
   cases m with
   | nil => exact (h2 rfl).elim
   | cons c r =>
    have hc : c ≠ 39 := by simpa using h3
    unfold pre
    simp
    intro hh
    exact absurd hh.symm hc
  rw [ed, em]
  dsimp only
  rw [if_neg (by decide), ← List.cons_append, parts_single h39 _ _ _ (by simp at hf; omega)]
  dsimp only
  rw [if_neg (by rw [ann_word hw]; simp)]
  have hw' : Words false (toks ++ [⟨0, [], [⟨1, t, [], false, []⟩], false, i⟩]) (us ++ [t]) := hw.append (.cons _ _ _ _ ⟨rfl, rfl⟩ .nil)
  obtain ⟨f, rfl⟩ : ∃ f', f = f' + 1 := ⟨f - 1, by simp at hf; omega⟩
  rw [lexL_skip (i1 := i + t.length + 2 + 1) (r1 := ts.flatMap oneOf1) _ _ (skip_blank _ _ _ (by decide))]
  obtain ⟨x, h1, h2⟩ := ih _ _ (i + t.length + 2 + 1) (f + 1) hw' (fun u hu => hts u (by simp [hu])) (by simp at hf; omega)
  exact ⟨x, h1, by simpa using h2⟩
theorem lexL_doubles : ∀ (ts : List Bs) (toks : List Tok) (us : List Bs) (i f : Nat), Words true toks us → (∀ t ∈ ts, t.length ≤ 100) → ts.length + 300 ≤ f →
  ∃ x, lexL f toks [] i (ts.flatMap twoOf1) = some (.ok x) ∧ Words true x (us ++ ts) := by
 intro ts
 induction ts with
 | nil =>
  intro toks us i f hw _ hf
  obtain ⟨f, rfl⟩ : ∃ f', f = f' + 1 := ⟨f - 1, by simp at hf; omega⟩
  exact ⟨toks, lexL_end _ _ _, by simpa using hw⟩
 | cons t ts ih =>
  intro toks us i f hw hts hf
  obtain ⟨f, rfl⟩ : ∃ f', f = f' + 1 := ⟨f - 1, by simp at hf; omega⟩
  have hlen := hts t (by simp)
  have e0 : (t :: ts).flatMap twoOf1 = 34 :: (escT t ++ 34 :: 9 :: ts.flatMap twoOf1) := by
   rw [List.flatMap_cons]
   simp [twoOf1]
  rw [e0, lexL_cons f toks [] (i := i) (c := 34) (t := escT t ++ 34 :: 9 :: ts.flatMap twoOf1) (skip_stay _ _ _ (by decide) (by decide)), if_neg (by decide), if_neg (by decide)]
  have ed : digitOf (34 :: (escT t ++ 34 :: 9 :: ts.flatMap twoOf1)) = 0 := by
   unfold digitOf
   split
   ·rename_i c d r hh
    injection hh with h1 h2
    subst h1
    rfl
   ·rfl
  have em : marksL.find? (fun m => pre m ((34 :: (escT t ++ 34 :: 9 :: ts.flatMap twoOf1)).drop 0)) = none := by
   rw [List.find?_eq_none]
   intro m hm
   have h1 : ∀ m ∈ marksL, m ≠ [] ∧ m.head? ≠ some 34 := by decide
   obtain ⟨h2, h3⟩ := h1 m hm
   cases m with
   | nil => exact (h2 rfl).elim
   | cons c r =>
    have hc : c ≠ 34 := by simpa using h3
    unfold pre
    simp
    intro hh
    exact absurd hh.symm hc
  rw [ed, em]
  dsimp only
  rw [if_neg (by decide), ← List.cons_append, parts_double t _ _ _ (by simp at hf; omega)]
  dsimp only
  rw [if_neg (by rw [ann_word hw]; simp)]
  have hw' : Words true (toks ++ [⟨0, [], [⟨1, t, [], true, []⟩], false, i⟩]) (us ++ [t]) := hw.append (.cons _ _ _ _ ⟨rfl, rfl⟩ .nil)
  obtain ⟨f, rfl⟩ : ∃ f', f = f' + 1 := ⟨f - 1, by simp at hf; omega⟩
  rw [lexL_skip (i1 := i + 1 + (escT t).length + 1 + 1) (r1 := ts.flatMap twoOf1) _ _ (skip_blank _ _ _ (by decide))]
  obtain ⟨x, h1, h2⟩ := ih _ _ (i + 1 + (escT t).length + 1 + 1) (f + 1) hw' (fun u hu => hts u (by simp [hu])) (by simp at hf; omega)
  exact ⟨x, h1, by simpa using h2⟩
theorem lex_singles {ts : List Bs} (h : ∀ t ∈ ts, t.contains 39 = false ∧ t.length ≤ 100) (hn : ts.length ≤ 20) (hl : (ts.flatMap oneOf1).length ≤ 4000) : ∃ x, lex 400 (ts.flatMap oneOf1) = some (.ok x) ∧ Words false x ts := by
 unfold lex
 rw [if_neg (by omega)]
 exact lexL_singles ts [] [] 0 400 .nil h (by omega)
theorem lex_doubles {ts : List Bs} (h : ∀ t ∈ ts, t.length ≤ 100) (hn : ts.length ≤ 20) (hl : (ts.flatMap twoOf1).length ≤ 4000) : ∃ x, lex 400 (ts.flatMap twoOf1) = some (.ok x) ∧ Words true x ts := by
 unfold lex
 rw [if_neg (by omega)]
 exact lexL_doubles ts [] [] 0 400 .nil h (by omega)
end Go.Proofs.YteekjekckgpbfaaDoor.Sp
end
section
namespace Go.Proofs.YteekjekckgpbfaaDoor.Abs
open Sp
attribute [local congr] bindO_congr bindR_congr condV_congr wp_congr
def RepS (h : Heap) (v : Value) (l : List Bs) : Prop :=
 lenA E 40 v = some (.int .i64 (l.length : Int)) ∧ (l ≠ [] → ∃ b off c k, v = .slice (some ⟨b, off, none⟩) l.length c ∧ h.blk b = some k ∧ ∀ j t, l[j]? = some t → k.cells[off + j * 1]? = some (.string (mkS t)))
def RepO (h : Heap) (v : Value) (l : List Bs) : Prop :=
 (v = .slice none 0 0 ∧ l = []) ∨ ∃ b, v = .slice (some ⟨b, 0, none⟩) l.length l.length ∧ 0 < l.length ∧ h.blk b = some ⟨9, l.map fun t => .string (mkS t), true⟩
theorem RepO.v {h : Heap} {v : Value} {l : List Bs} (k : RepO h v l) : RepS h v l := by
 rcases k with ⟨rfl, rfl⟩ | ⟨b, rfl, h0, hb⟩
 ·exact ⟨rfl, fun h => (h rfl).elim⟩
 ·refine ⟨by rw [ln40], fun _ => ⟨b, 0, _, _, rfl, hb, fun j t hj => ?_⟩⟩
  simp only [Nat.zero_add, Nat.mul_one, List.getElem?_map, hj]
  rfl
theorem RepS.keep {h h' : Heap} {v : Value} {l : List Bs} (k : RepS h v l) (u : Un h.next h h') : RepS h' v l := by
 refine ⟨k.1, fun hne => ?_⟩
 obtain ⟨b, off, c, kk, e1, e2, e3⟩ := k.2 hne
 exact ⟨b, off, c, kk, e1, (u.2 _ (Heap.blk_lt e2)).trans e2, e3⟩
theorem RepO.keep {h h' : Heap} {v : Value} {l : List Bs} (k : RepO h v l) (u : Un h.next h h') : RepO h' v l := by
 rcases k with e | ⟨b, e1, e2, e3⟩
 ·exact .inl e
 ·exact .inr ⟨b, e1, e2, (u.2 _ (Heap.blk_lt e3)).trans e3⟩
/-! ### The tokens of both -/
theorem words_get {q : Bool} {x : List Tok} {ts : List Bs} (h : Words q x ts) : x.length = ts.length ∧ ∀ (j : Nat) (t : Bs), ts[j]? = some t → ∃ y : Tok, x[j]? = some y ∧ y.parts = [⟨1, t, [], q, []⟩] := by
 induction h with
 | nil => exact ⟨rfl, fun j t h => by simp at h⟩
 | cons x t xs ts hx _ ih =>
  refine ⟨by simp [ih.1], fun j u hu => ?_⟩
  cases j with
  | zero => simp at hu; subst hu; exact ⟨x, by simp, hx.2⟩
  | succ j => simpa using ih.2 j u (by simpa using hu)
theorem one_part {g : Nat → Option Blk} {A : Nat → Prop} {w : Value} {t : Bs} {q : Bool} (h : RepW g A w [⟨1, t, [], q, []⟩]) : ∃ b cs, w = .slice (some ⟨b, 0, none⟩) 1 1 ∧ g b = some ⟨49, cs, true⟩ ∧ cs[0]? = some (.int .i64 1) ∧ cs[1]? = some (.string (mkS t)) ∧ cs[3]? = some (.bool q) := by
 generalize hp : [(⟨1, t, [], q, []⟩ : Part)] = ps at h
 cases h with
 | nil => cases hp
 | some b cs n _ ha hb hl hn hpos =>
  subst hp
  have hn : n = 1 := by simpa using hn
  subst hn
  obtain ⟨w', _, c0, c1, _, c3, _⟩ := hl.cell (j := 0) (k := 1) (t := t) (o := []) (q := q) (ws := []) rfl
  exact ⟨b, cs, rfl, hb, c0, c1, c3⟩
theorem quotes_loop {x y : List Tok} {ts : List Bs} {h : Heap} {vx vy vw : Value} {n N : Nat} (hx : Words false x ts) (hy : Words true y ts) (kx : RepV h vx x) (ky : RepV h vy y) (kw : RepS h vw ts) (hts : ts.length ≤ 20) : ∀ (m j : Nat), j ≤ ts.length → ts.length - j < m →
  l6_26 (cF n) N m vw vx vy (.int .i64 (j : Int)) h = some (.ret (.bool true), h) := by
 obtain ⟨lx, gx⟩ := words_get hx
 obtain ⟨ly, gy⟩ := words_get hy
 have hlen := kw.1
 intro m
 induction m with
 | zero => intro j _ h; omega
 | succ m ih =>
  intro j hj hm
  rcases b2 (decide (j < ts.length)) with hlt | hlt
  ·have hlt0 := of_decide_eq_true hlt
   have hg : ts[j]? = some ts[j] := by simp [hlt0]
   have hrec := ih (j + 1) (by omega) (by omega)
   generalize ts[j] = t at hg
   obtain ⟨tx, e1, e2⟩ := gx _ _ hg
   obtain ⟨ty, e3, e4⟩ := gy _ _ hg
   have hne : ts ≠ [] := by intro e; subst e; simp at hlt0
   have hnx : x ≠ [] := by intro e; subst e; simp at e1
   have hny : y ≠ [] := by intro e; subst e; simp at e3
   obtain ⟨wb, off, wc, k, rfl, hwb, hwc⟩ := kw.2 hne
   obtain ⟨bx, cx, csx, rfl, hbx, hlx⟩ := kx.2 hnx
   obtain ⟨by', cy, csy, rfl, hby, hly⟩ := ky.2 hny
   obtain ⟨w1, A1, hw1, _, _, g2, _⟩ := hlx _ _ e1
   obtain ⟨w2, A2, hw2, _, _, d2, _⟩ := hly _ _ e3
   rw [e2] at hw1
   rw [e4] at hw2
   obtain ⟨p1, c1, rfl, hp1, q0, q1, q3⟩ := one_part hw1
   obtain ⟨p2, c2, rfl, hp2, r0, r1, r3⟩ := one_part hw2
   have hwt := hwc _ _ hg
   have z0 : 0 + j * 5 = j * 5 := by omega
   have hjx : j < x.length := by omega
   have hjy : j < y.length := by omega
   have i0 : ((0 : Nat) : Int) = 0 := rfl
   have ip1 := ia37 p1 0 1 1 0 (by omega)
   have ip2 := ia37 p2 0 1 1 0 (by omega)
   rw [i0] at ip1 ip2
   have hb1 : j + 1 < 9223372036854775808 := by omega
   have ne1 : (((1 : Nat) : Int) != 1) = false := rfl
   have ne2 : ((1 : Int) != 1) = false := rfl
   have sne : (!(t == t)) = false := by simp
   have z6 : 0 + 0 * 6 = 0 := rfl
   have t5 : (true == true) = true := rfl
   clear ih kw kx ky hlx hly hwc hw1 hw2 gx gy hx hy
   rw [l6_26]
   simp -implicitDefEqProofs only [p6_27, hlen, hlt, ia22 bx 0 x.length cx j hjx, ia22 by' 0 y.length cy j hjy, ia40 wb off ts.length wc j hlt0, z0, hbx, hby, hwb, hwt, g2, d2, ln37, ip1, ip2, z6, hp1, hp2, q0, q1, q3, r0, r1, r3, ne1, ne2, s_nes, s_nes', p6_39, p6_34, p6_35, p6_31, wrap_nat (j + 1) hb1, hrec, SS, SU, Nat.reduceAdd, Nat.reduceLeDiff, Nat.reduceBEq, Nat.reduceMul]
  ·clear ih kw kx ky hx hy gx gy
   simp -implicitDefEqProofs only [l6_26, p6_27, hlen, hlt, p6_22, SS, SU, Nat.reduceAdd, Nat.reduceLeDiff, Nat.reduceBEq, Nat.reduceMul]
end Go.Proofs.YteekjekckgpbfaaDoor.Abs
end
