/- A part of the proof: the abstract machine, the printed functions, what they compute. -/
import Derived.Test.YteekjekckgpbfaaDoorM4
set_option linter.unusedVariables false
set_option linter.unusedSimpArgs false
set_option linter.defProp false
set_option linter.unnecessarySimpa false
section
namespace Go.Proofs.YteekjekckgpbfaaDoor.Sp
def Part.text : Part → Bs | ⟨_, t, _, _, _⟩ => t
def Part.kind : Part → Nat | ⟨k, _, _, _, _⟩ => k
def total : List Part → Nat
 | [] => 0
 | x :: ps => x.text.length + total ps
theorem total_append (a b : List Part) : total (a ++ b) = total a + total b := by
 induction a with
 | nil => simp [total]
 | cons x a ih => simp [total, ih]; omega
theorem total_flush (w : Nat) (out : List Part) (text : Bs) : total (flush w out text) = total out + text.length := by
 unfold flush
 cases text with
 | nil => simp
 | cons c t => simp [total_append, total, Part.text]
theorem bb (b : Bool) : b = true ∨ b = false := by cases b <;> simp
theorem closed_len : ∀ f : Nat, (∀ d r r', closed f d r = some (some r') → r'.length < r.length) ∧ (∀ r r', closedQ f r = some (some r') → r'.length < r.length) := by
 intro f
 induction f with
 | zero => exact ⟨fun d r r' h => by simp [closed] at h, fun r r' h => by simp [closedQ] at h⟩
 | succ f ih =>
  constructor
  ·intro d r r' h
   cases r with
   | nil => simp [closed] at h
   | cons c t =>
    simp only [closed] at h
    split at h
    ·have := ih.1 _ _ _ h; simp at this ⊢; omega
    split at h
    ·split at h
     ·cases h
     ·have := ih.1 _ _ _ h; simp at this ⊢; omega
    split at h
    ·split at h
     ·cases h
     ·cases h
     ·rename_i t' hq
      have := ih.1 _ _ _ h; have h2 := ih.2 _ _ hq; simp at h2 ⊢; omega
    split at h
    ·have := ih.1 _ _ _ h; simp at this ⊢; omega
    split at h
    ·split at h
     ·injection h with h; injection h with h; subst h; simp
     ·have := ih.1 _ _ _ h; simp at this ⊢; omega
    ·have := ih.1 _ _ _ h; simp at this ⊢; omega
  ·intro r r' h
   cases r with
   | nil => simp [closedQ] at h
   | cons c t =>
    simp only [closedQ] at h
    split at h
    ·have := ih.2 _ _ h; simp at this ⊢; omega
    split at h
    ·injection h with h; injection h with h; subst h; simp
    split at h
    ·split at h
     ·cases h
     ·cases h
     ·rename_i t' hq
      have := ih.2 _ _ h; have h2 := ih.1 _ _ _ hq; simp at h2 ⊢; omega
    ·have := ih.2 _ _ h; simp at this ⊢; omega
theorem paramLen_le' (m r : Bs) : paramLen m r ≤ r.length := by
 have hn : ∀ (r : Bs) (n : Nat), nameFrom n r ≤ n + r.length := by
  intro r
  induction r with
  | nil => intro n; simp [nameFrom]
  | cons c r ih => intro n; simp only [nameFrom]; split; have := ih (n + 1); simp; omega; simp
 unfold paramLen
 split
 ·cases r with
  | nil => simp
  | cons c t => simp only []; split <;> simp
 ·have := hn r 0; omega
theorem pre_le {t r : Bs} (h : pre t r = true) : t.length ≤ r.length := by
 have := congrArg List.length (beq_iff_eq.1 h)
 simp at this
 omega
theorem find_lt {c : UInt8} : ∀ {r : Bs} {n : Nat}, find c r = some n → n < r.length := by
 intro r
 induction r with
 | nil => intro n h; cases h
 | cons b r ih =>
  intro n h
  simp only [find] at h
  split at h
  ·injection h with h; subst h; simp
  ·split at h
   ·cases h
   ·rename_i m hm; injection h with h; subst h; have := ih hm; simp; omega
theorem esc_le (w : Nat) (x : UInt8) : (esc w x).length ≤ 2 := by unfold esc; split <;> simp
theorem parts_len : ∀ f : Nat,
  (∀ w d out text i r ps j r', parts f w d out text i r = some (.ok (ps, j, r')) → total ps + r'.length ≤ total out + text.length + r.length ∧ r'.length ≤ r.length) ∧
  (∀ w d i c t x j r', dollar f w d i (c :: t) = some (.ok (x, j, r')) → r'.length < (c :: t).length ∧ ∀ p, x = some p → p.text.length + r'.length ≤ (c :: t).length) ∧
  (∀ w d fr i r p j r', braces f w d fr i r = some (.ok (p, j, r')) → p.text.length + r'.length ≤ r.length) := by
 intro f
 induction f with
 | zero => exact ⟨fun w d out text i r ps j r' h => by simp [parts] at h, fun w d i c t x j r' h => by simp [dollar] at h, fun w d fr i r p j r' h => by simp [braces] at h⟩
 | succ f ih =>
  obtain ⟨ihp, ihd, ihb⟩ := ih
  refine ⟨?_, ?_, ?_⟩
  ·intro w d out text i r ps j r' h
   cases r with
   | nil =>
    simp only [parts] at h
    injection h with h; injection h with h; injection h with h1 h; injection h with h2 h3
    subst h1; subst h3
    simp [total_flush]
   | cons c t =>
    rw [parts_cons] at h
    split at h
    ·injection h with h; injection h with h; injection h with h1 h; injection h with h2 h3
     subst h1; subst h3
     simp [total_flush]
    split at h
    ·have := ihp _ _ _ _ _ _ _ _ _ h; simp at this ⊢; omega
    split at h
    ·split at h
     ·injection h with h; cases h
     ·rename_i x t' _
      have := ihp _ _ _ _ _ _ _ _ _ h; have he := esc_le w x; simp at this ⊢; omega
    split at h
    ·split at h
     ·injection h with h; cases h
     ·have := ihp _ _ _ _ _ _ _ _ _ h; simp [total_append, total_flush, total, Part.text] at this ⊢; omega
    split at h
    ·split at h
     ·cases h
     ·injection h with h; cases h
     ·rename_i p i' r'' hd
      have h1 := ihd _ _ _ _ _ _ _ _ hd
      have h2 := h1.2 p rfl
      have := ihp _ _ _ _ _ _ _ _ _ h; simp [total_append, total_flush, total] at this h1 h2 ⊢; omega
     ·rename_i i' r'' hd
      have h1 := ihd _ _ _ _ _ _ _ _ hd
      have := ihp _ _ _ _ _ _ _ _ _ h; simp at this h1 ⊢; omega
    split at h
    ·injection h with h; cases h
    split at h
    ·split at h
     ·injection h with h; cases h
     ·rename_i n hf
      have hn := find_lt hf
      have := ihp _ _ _ _ _ _ _ _ _ h; simp [total_append, total_flush, total, Part.text] at this ⊢; omega
    split at h
    ·split at h
     ·cases h
     ·injection h with h; cases h
     ·rename_i qs i' r'' hq
      have h1 := ihp _ _ _ _ _ _ _ _ _ hq
      split at h
      ·rename_i hp
       have h2 := pre_le hp
       have := ihp _ _ _ _ _ _ _ _ _ h
       have h3 : total (if qs.isEmpty = true then [⟨1, [], [], true, []⟩] else qs) ≤ total qs := by
        split
        ·simp [total, Part.text]
        ·exact Nat.le_refl _
       simp [total_append, total_flush, total] at this h1 h2 h3 ⊢; omega
      ·injection h with h; cases h
    ·have := ihp _ _ _ _ _ _ _ _ _ h; simp at this ⊢; omega
  ·intro w d i c t x j r' h
   simp only [dollar] at h
   split at h
   ·injection h with h; cases h
   split at h
   ·split at h
    ·cases h
    ·injection h with h; cases h
    ·rename_i r'' hc
     have h1 := (closed_len f).1 _ _ _ hc
     injection h with h; injection h with h; injection h with h1' h; injection h with h2 h3
     subst h1'; subst h3
     simp at h1
     refine ⟨by simp; omega, fun p hp => ?_⟩
     injection hp with hp; subst hp
     simp [Part.text]; omega
   split at h
   ·split at h
    ·cases h
    ·injection h with h; cases h
    ·rename_i p i' r'' hb
     have h1 := ihb _ _ _ _ _ _ _ _ hb
     injection h with h; injection h with h; injection h with h1' h; injection h with h2 h3
     subst h1'; subst h3
     simp at h1
     have h2 := pre_le (show pre [36, 123] (c :: t) = true by assumption)
     refine ⟨by simp at h2 ⊢; omega, fun q hq => ?_⟩
     injection hq with hq; subst hq
     simp; omega
   split at h
   ·injection h with h; injection h with h; injection h with h1' h; injection h with h2 h3
    subst h1'; subst h3
    exact ⟨by simp, fun p hp => by cases hp⟩
   ·injection h with h; injection h with h; injection h with h1' h; injection h with h2 h3
    subst h1'; subst h3
    refine ⟨by simp; omega, fun p hp => ?_⟩
    injection hp with hp; subst hp
    have := paramLen_le' [63, 35, 64, 42] t
    simp [Part.text] at this ⊢; omega
  ·intro w d fr i r p j r' h
   simp only [braces] at h
   split at h
   ·injection h with h; cases h
   split at h
   ·rename_i hc
    injection h with h; injection h with h; injection h with h1' h; injection h with h2 h3
    subst h1'; subst h3
    have := paramLen_le' [63, 64, 42] (r.drop 1)
    simp [Part.text] at this ⊢; omega
   split at h
   ·injection h with h; cases h
   split at h
   ·injection h with h; injection h with h; injection h with h1' h; injection h with h2 h3
    subst h1'; subst h3
    have := paramLen_le' [63, 35, 64, 42] r
    simp [Part.text] at this ⊢; omega
   split at h
   ·injection h with h; cases h
   ·split at h
    ·cases h
    ·injection h with h; cases h
    ·rename_i ws i' r'' hq
     have h1 := ihp _ _ _ _ _ _ _ _ _ hq
     split at h
     ·injection h with h; injection h with h; injection h with h1' h; injection h with h2 h3
      subst h1'; subst h3
      have := paramLen_le' [63, 35, 64, 42] r
      simp [Part.text, total] at this h1 ⊢; omega
     ·injection h with h; cases h
theorem parts_stop : ∀ (f w d : Nat) (out : List Part) (text : Bs) (i : Nat) (r : Bs) (ps : List Part) (j : Nat) (r' : Bs), parts f w d out text i r = some (.ok (ps, j, r')) → r' = [] ∨ ∃ c t, r' = c :: t ∧ ends w c = true := by
 intro f
 induction f with
 | zero => intro w d out text i r ps j r' h; simp [parts] at h
 | succ f ih =>
  intro w d out text i r ps j r' h
  cases r with
  | nil =>
   simp only [parts] at h
   injection h with h; injection h with h; injection h with h1 h; injection h with h2 h3
   exact .inl h3.symm
  | cons c t =>
   rw [parts_cons] at h
   split at h
   ·rename_i he
    injection h with h; injection h with h; injection h with h1 h; injection h with h2 h3
    exact .inr ⟨c, t, h3.symm, he⟩
   split at h
   ·exact ih _ _ _ _ _ _ _ _ _ h
   split at h
   ·split at h
    ·injection h with h; cases h
    ·exact ih _ _ _ _ _ _ _ _ _ h
   split at h
   ·split at h
    ·injection h with h; cases h
    ·exact ih _ _ _ _ _ _ _ _ _ h
   split at h
   ·split at h
    ·cases h
    ·injection h with h; cases h
    ·exact ih _ _ _ _ _ _ _ _ _ h
    ·exact ih _ _ _ _ _ _ _ _ _ h
   split at h
   ·injection h with h; cases h
   split at h
   ·split at h
    ·injection h with h; cases h
    ·exact ih _ _ _ _ _ _ _ _ _ h
   split at h
   ·split at h
    ·cases h
    ·injection h with h; cases h
    ·split at h
     ·exact ih _ _ _ _ _ _ _ _ _ h
     ·injection h with h; cases h
   ·exact ih _ _ _ _ _ _ _ _ _ h
theorem docRows_len (last : Bs) : ∀ (f : Nat) (acc : Bs) (i : Nat) (r text : Bs) (j : Nat) (r' : Bs), docRows last f acc i r = some (.ok (text, j, r')) → text.length + r'.length ≤ acc.length + r.length := by
 intro f
 induction f with
 | zero => intro acc i r text j r' h; simp [docRows] at h
 | succ f ih =>
  intro acc i r text j r' h
  simp only [docRows] at h
  split at h
  ·injection h with h; cases h
  split at h
  ·injection h with h; injection h with h; injection h with h1 h; injection h with h2 h3
   subst h1; subst h3
   simp
  ·have := ih _ _ _ _ _ _ h
   simp only [List.length_append, List.length_take, List.length_drop] at this
   omega
theorem docs_len (f M : Nat) : ∀ (ws : List (Nat × Bs)) (toks : List Tok) (i : Nat) (r : Bs) (toks' : List Tok) (j : Nat) (r' : Bs), docs f ws toks i r = some (.ok (toks', j, r')) → r.length ≤ M → (∀ t, t ∈ toks → t.text.length ≤ M) → toks'.length = toks.length ∧ (∀ t, t ∈ toks' → t.text.length ≤ M) ∧ r'.length ≤ r.length := by
 intro ws
 induction ws with
 | nil =>
  intro toks i r toks' j r' h hr ht
  simp only [docs] at h
  injection h with h; injection h with h; injection h with h1 h; injection h with h2 h3
  subst h1; subst h3
  exact ⟨rfl, ht, Nat.le_refl _⟩
 | cons w ws ih =>
  intro toks i r toks' j r' h hr ht
  obtain ⟨k, last⟩ := w
  simp only [docs] at h
  split at h
  ·cases h
  ·injection h with h; cases h
  ·rename_i text i1 r1 hd
   have h1 := docRows_len last _ _ _ _ _ _ _ hd
   simp at h1
   split at h
   ·cases h
   ·rename_i t hk
    have hset : ∀ (x : Tok), x.text.length ≤ M → ∀ y, y ∈ toks.set k x → y.text.length ≤ M := by
     intro x hx y hy
     rcases List.mem_or_eq_of_mem_set hy with h | h
     ·exact ht y h
     ·rw [h]; exact hx
    split at h
    ·obtain ⟨a, b, c⟩ := ih _ _ _ _ _ _ h (by omega) (hset _ (by simp only; omega))
     exact ⟨by simpa using a, b, by omega⟩
    ·split at h
     ·cases h
     ·injection h with h; cases h
     ·obtain ⟨a, b, c⟩ := ih _ _ _ _ _ _ h (by omega) (hset _ (by simp only; omega))
      exact ⟨by simpa using a, b, by omega⟩
/-! ### Places are moved -/
def sh {α : Type} (k : Nat) : Option (Rz (α × Nat × Bs)) → Option (Rz (α × Nat × Bs))
 | none => none
 | some (.ok (x, j, r)) => some (.ok (x, j + k, r))
 | some (.bad c a) => some (.bad c (a + k))
theorem parts_shift (k : Nat) : ∀ f : Nat,
  (∀ w d out text i r, parts f w d out text (i + k) r = sh k (parts f w d out text i r)) ∧
  (∀ w d i r, dollar f w d (i + k) r = sh k (dollar f w d i r)) ∧
  (∀ w d fr i r, braces f w d (fr + k) (i + k) r = sh k (braces f w d fr i r)) := by
 intro f
 induction f with
 | zero => exact ⟨fun w d out text i r => by simp [parts, sh], fun w d i r => by simp [dollar, sh], fun w d fr i r => by simp [braces, sh]⟩
 | succ f ih =>
  obtain ⟨ihp, ihd, ihb⟩ := ih
  have p2 : ∀ w d out text i r, parts f w d out text (i + k + 2) r = sh k (parts f w d out text (i + 2) r) := fun w d out text i r => by rw [show i + k + 2 = i + 2 + k by omega]; exact ihp ..
  have p1 : ∀ w d out text i r, parts f w d out text (i + k + 1) r = sh k (parts f w d out text (i + 1) r) := fun w d out text i r => by rw [show i + k + 1 = i + 1 + k by omega]; exact ihp ..
  have pn : ∀ w d out text i m r, parts f w d out text (i + k + m + 2) r = sh k (parts f w d out text (i + m + 2) r) := fun w d out text i m r => by rw [show i + k + m + 2 = i + m + 2 + k by omega]; exact ihp ..
  refine ⟨?_, ?_, ?_⟩
  ·intro w d out text i r
   cases r with
   | nil => simp only [parts, sh]
   | cons c t =>
    rw [parts_cons, parts_cons]
    by_cases g0 : ends w c = true
    ·rw [if_pos g0, if_pos g0]; rfl
    rw [if_neg g0, if_neg g0]
    by_cases g1 : pre [92, 10] (c :: t) = true
    ·rw [if_pos g1, if_pos g1]; exact p2 ..
    rw [if_neg g1, if_neg g1]
    by_cases g2 : (c == 92 && inQ w) = true
    ·rw [if_pos g2, if_pos g2]
     cases t with
     | nil => rfl
     | cons x t' => exact p2 ..
    rw [if_neg g2, if_neg g2]
    by_cases g3 : (c == 92) = true
    ·rw [if_pos g3, if_pos g3]
     cases t with
     | nil => rfl
     | cons x t' => exact p2 ..
    rw [if_neg g3, if_neg g3]
    by_cases g4 : (c == 36) = true
    ·rw [if_pos g4, if_pos g4, ihd]
     cases dollar f w d i (c :: t) with
     | none => rfl
     | some x =>
      cases x with
      | bad a b => rfl
      | ok y =>
       obtain ⟨y, j, r'⟩ := y
       cases y with
       | none => exact ihp ..
       | some y => exact ihp ..
    rw [if_neg g4, if_neg g4]
    by_cases g5 : (c == 96 || c == 34 && w == 4) = true
    ·rw [if_pos g5, if_pos g5]; rfl
    rw [if_neg g5, if_neg g5]
    by_cases g6 : (c == 39 && !inQ w) = true
    ·rw [if_pos g6, if_pos g6]
     cases find 39 t with
     | none => rfl
     | some m => exact pn ..
    rw [if_neg g6, if_neg g6]
    by_cases g7 : (c == 34 && !inQ w) = true
    ·rw [if_pos g7, if_pos g7, p1]
     cases parts f 1 d [] [] (i + 1) t with
     | none => rfl
     | some x =>
      cases x with
      | bad a b => rfl
      | ok y =>
       obtain ⟨ps, j, r'⟩ := y
       dsimp only [sh]
       by_cases g8 : pre [34] r' = true
       ·rw [if_pos g8, if_pos g8, show j + k + 1 = j + 1 + k by omega]; exact ihp ..
       ·rw [if_neg g8, if_neg g8]
    rw [if_neg g7, if_neg g7]
    exact p1 ..
  ·intro w d i r
   simp only [dollar]
   split
   ·rfl
   split
   ·cases closed f 1 (r.drop 2) with
    | none => rfl
    | some x =>
     cases x with
     | none => rfl
     | some r' => simp only [sh]; rw [show i + k + (r.length - r'.length) = i + (r.length - r'.length) + k by omega]
   split
   ·rw [show i + k + 2 = i + 2 + k by omega, ihb]
    cases braces f w d i (i + 2) (r.drop 2) with
    | none => rfl
    | some x =>
     cases x with
     | bad a b => rfl
     | ok y => obtain ⟨y, j, r'⟩ := y; rfl
   split
   ·simp only [sh]; rw [show i + k + 1 = i + 1 + k by omega]
   ·simp only [sh]; rw [show i + k + 1 + paramLen [63, 35, 64, 42] (r.drop 1) = i + 1 + paramLen [63, 35, 64, 42] (r.drop 1) + k by omega]
  ·intro w d fr i r
   simp only [braces]
   split
   ·rfl
   split
   ·simp only [sh]; rw [show i + k + 1 + paramLen [63, 64, 42] (r.drop 1) + 1 = i + 1 + paramLen [63, 64, 42] (r.drop 1) + 1 + k by omega]
   split
   ·rfl
   split
   ·simp only [sh]; rw [show i + k + paramLen [63, 35, 64, 42] r + 1 = i + paramLen [63, 35, 64, 42] r + 1 + k by omega]
   ·cases opsL.find? (fun o => pre o (r.drop (paramLen [63, 35, 64, 42] r))) with
    | none => rfl
    | some o =>
     dsimp only
     rw [show i + k + paramLen [63, 35, 64, 42] r + o.length = i + paramLen [63, 35, 64, 42] r + o.length + k by omega, ihp]
     cases parts f (if inQ w then 4 else 3) (d + 1) [] [] (i + paramLen [63, 35, 64, 42] r + o.length) (r.drop (paramLen [63, 35, 64, 42] r + o.length)) with
     | none => rfl
     | some x =>
      cases x with
      | bad a b => rfl
      | ok y =>
       obtain ⟨ws, j, r'⟩ := y
       dsimp only [sh]
       cases pre [125] r' with
       | true => simp only [if_true, sh]; rw [show j + k + 1 = j + 1 + k by omega]
       | false => rfl
/-! ### Places are within the text -/
def inB {α : Type} (n : Nat) : Rz (α × Nat × Bs) → Prop
 | .ok (_, j, r) => j + r.length ≤ n
 | .bad _ a => a ≤ n
theorem inB.mono {α : Type} {n m : Nat} {x : Rz (α × Nat × Bs)} (h : inB n x) (hm : n ≤ m) : inB m x := by
 cases x with
 | bad c a => exact Nat.le_trans h hm
 | ok y => obtain ⟨y, j, r⟩ := y; exact Nat.le_trans h hm
theorem parts_pos : ∀ f : Nat,
  (∀ w d out text i r x, parts f w d out text i r = some x → inB (i + r.length) x) ∧
  (∀ w d i c t x, dollar f w d i (c :: t) = some x → inB (i + (c :: t).length) x) ∧
  (∀ w d fr i r x, braces f w d fr i r = some x → fr ≤ i → inB (i + r.length) x) := by
 intro f
 induction f with
 | zero => exact ⟨fun w d out text i r x h => by simp [parts] at h, fun w d i c t x h => by simp [dollar] at h, fun w d fr i r x h => by simp [braces] at h⟩
 | succ f ih =>
  obtain ⟨ihp, ihd, ihb⟩ := ih
  refine ⟨?_, ?_, ?_⟩
  ·intro w d out text i r x h
   cases r with
   | nil =>
    simp only [parts] at h
    injection h with h; subst h
    exact Nat.le_refl _
   | cons c t =>
    rw [parts_cons] at h
    split at h
    ·injection h with h; subst h; exact Nat.le_refl _
    split at h
    ·rename_i hp
     have h2 := pre_le hp
     exact (ihp _ _ _ _ _ _ _ h).mono (by simp at h2 ⊢; omega)
    split at h
    ·split at h
     ·injection h with h; subst h; show i ≤ _; omega
     ·exact (ihp _ _ _ _ _ _ _ h).mono (by simp; omega)
    split at h
    ·split at h
     ·injection h with h; subst h; show i ≤ _; omega
     ·exact (ihp _ _ _ _ _ _ _ h).mono (by simp; omega)
    split at h
    ·split at h
     ·cases h
     ·rename_i a b hd
      have h1 := ihd _ _ _ _ _ _ hd
      injection h with h; subst h; exact h1
     ·rename_i p i' r'' hd
      have h1 := ihd _ _ _ _ _ _ hd
      exact (ihp _ _ _ _ _ _ _ h).mono h1
     ·rename_i i' r'' hd
      have h1 := ihd _ _ _ _ _ _ hd
      exact (ihp _ _ _ _ _ _ _ h).mono h1
    split at h
    ·injection h with h; subst h; show i ≤ _; omega
    split at h
    ·split at h
     ·injection h with h; subst h; show i ≤ _; omega
     ·rename_i n hf
      have hn := find_lt hf
      exact (ihp _ _ _ _ _ _ _ h).mono (by simp; omega)
    split at h
    ·split at h
     ·cases h
     ·rename_i a b hq
      have h1 := (ihp _ _ _ _ _ _ _ hq).mono (show i + 1 + t.length ≤ i + (c :: t).length by simp; omega)
      injection h with h; subst h; exact h1
     ·rename_i qs i' r'' hq
      have h1 : i' + r''.length ≤ i + 1 + t.length := ihp _ _ _ _ _ _ _ hq
      split at h
      ·rename_i hp
       have h2 := pre_le hp
       exact (ihp _ _ _ _ _ _ _ h).mono (by simp at h2 ⊢; omega)
      ·injection h with h; subst h; show i ≤ _; omega
    ·exact (ihp _ _ _ _ _ _ _ h).mono (by simp; omega)
  ·intro w d i c t x h
   simp only [dollar] at h
   split at h
   ·injection h with h; subst h; show i ≤ _; omega
   split at h
   ·split at h
    ·cases h
    ·injection h with h; subst h; show i ≤ _; omega
    ·rename_i r'' hc
     have h1 := (closed_len f).1 _ _ _ hc
     injection h with h; subst h
     show i + ((c :: t).length - r''.length) + r''.length ≤ _
     simp at h1 ⊢; omega
   split at h
   ·have h2 := pre_le (show pre [36, 123] (c :: t) = true by assumption)
    split at h
    ·cases h
    ·rename_i a b hb
     have h1 := (ihb _ _ _ _ _ _ hb (by omega)).mono (show i + 2 + ((c :: t).drop 2).length ≤ i + (c :: t).length by simp at h2 ⊢; omega)
     injection h with h; subst h; exact h1
    ·rename_i p i' r'' hb
     have h1 := (ihb _ _ _ _ _ _ hb (by omega)).mono (show i + 2 + ((c :: t).drop 2).length ≤ i + (c :: t).length by simp at h2 ⊢; omega)
     injection h with h; subst h; exact h1
   split at h
   ·injection h with h; subst h
    show i + 1 + ((c :: t).drop 1).length ≤ _
    simp; omega
   ·injection h with h; subst h
    have := paramLen_le' [63, 35, 64, 42] ((c :: t).drop 1)
    show i + 1 + paramLen [63, 35, 64, 42] ((c :: t).drop 1) + (((c :: t).drop 1).drop (paramLen [63, 35, 64, 42] ((c :: t).drop 1))).length ≤ _
    simp only [List.length_drop, List.length_cons] at this ⊢; omega
  ·intro w d fr i r x h hfr
   simp only [braces] at h
   split at h
   ·injection h with h; subst h; show fr ≤ _; omega
   split at h
   ·rename_i hc
    injection h with h; subst h
    simp only [Bool.and_eq_true] at hc
    have h1 := pre_le hc.1
    have h2 := pre_le hc.2.2
    show i + 1 + paramLen [63, 64, 42] (r.drop 1) + 1 + (r.drop (1 + paramLen [63, 64, 42] (r.drop 1) + 1)).length ≤ _
    simp only [List.length_drop, List.length_cons, List.length_nil] at h1 h2 ⊢; omega
   split at h
   ·injection h with h; subst h; show fr ≤ _; omega
   split at h
   ·rename_i hp
    have h2 := pre_le hp
    injection h with h; subst h
    show i + paramLen [63, 35, 64, 42] r + 1 + (r.drop (paramLen [63, 35, 64, 42] r + 1)).length ≤ _
    simp only [List.length_drop, List.length_cons, List.length_nil] at h2 ⊢; omega
   split at h
   ·injection h with h; subst h; show fr ≤ _; omega
   ·rename_i o hfo
    have hpo := pre_le (show (pre o (r.drop (paramLen [63,35,64,42] r)) = true) by have := List.find?_some hfo; simpa using this)
    have hin : i + paramLen [63, 35, 64, 42] r + o.length + (r.drop (paramLen [63, 35, 64, 42] r + o.length)).length ≤ i + r.length := by
     simp only [List.length_drop] at hpo ⊢
     have := paramLen_le' [63, 35, 64, 42] r
     omega
    split at h
    ·cases h
    ·rename_i a b hq
     have h1 := (ihp _ _ _ _ _ _ _ hq).mono hin
     injection h with h; subst h; exact h1
    ·rename_i ws i' r'' hq
     have h1 : i' + r''.length ≤ _ := (ihp _ _ _ _ _ _ _ hq).mono hin
     split at h
     ·rename_i hp
      have h2 := pre_le hp
      injection h with h; subst h
      show i' + 1 + (r''.drop 1).length ≤ _
      simp only [List.length_drop, List.length_cons, List.length_nil] at h2 ⊢; omega
     ·injection h with h; subst h; show fr ≤ _; omega
end Go.Proofs.YteekjekckgpbfaaDoor.Sp
end
section
namespace Go.Proofs.YteekjekckgpbfaaDoor.Abs
open Sp
attribute [local congr] bindO_congr bindR_congr condV_congr wp_congr
section
variable {h : Heap} {lo : Nat} {X : List Nat} {p : Nat} {l : Bs} {i : Nat} {toks : List Tok} {waits : List (Nat × Bs)} {tv wv : Value} {cs : List Value}
def suf (t r : Bs) : Bool := decide (t.length ≤ r.length) && (r.drop (r.length - t.length) == t)
theorem hasSuffix_eq (n : Nat) (r t : Bs) (hr : r.length < 4611686018427387904) : cF (n + 2) 13 [.string (mkS r), .string (mkS t)] h = some (.ret (.bool (suf t r)), h) := by
 rw [c13]
 simp -implicitDefEqProofs only [f13, c35, f35, SS, SU, Nat.reduceAdd, Nat.reduceLeDiff, Nat.reduceBEq, Nat.reduceMul]
 rcases b2 (decide (t.length ≤ r.length)) with h1 | h1
 ·have h2 := of_decide_eq_true h1
  simp -implicitDefEqProofs only [h1, pull_sub r.length t.length h2, wrap_nat (r.length - t.length) (by omega), sl9_lo r (r.length - t.length) h (by omega), suf, SS, SU, Nat.reduceAdd, Nat.reduceLeDiff, Nat.reduceBEq, Nat.reduceMul]
 ·simp -implicitDefEqProofs only [h1, suf, SS, SU, Nat.reduceAdd, Nat.reduceLeDiff, Nat.reduceBEq, Nat.reduceMul]
theorem suf2 (r : Bs) : suf [60, 60] r = (r.drop (r.length - 2) == [60, 60]) := by
 unfold suf
 rcases b2 (decide (2 ≤ r.length)) with h1 | h1
 ·rw [show ([60, 60] : Bs).length = 2 from rfl, h1, Bool.true_and]
 ·rw [show ([60, 60] : Bs).length = 2 from rfl, h1, Bool.false_and]
  have := of_decide_eq_false h1
  symm
  rw [beq_eq_false_iff_ne]
  intro e
  have := congrArg List.length e
  simp at this
  omega
theorem word_head (ht : toks.length ≤ 100000) (htx : ∀ t, t ∈ toks → t.text.length ≤ 5000) {n : Nat} (k : LS h lo X p l i toks waits tv wv cs) :
  cF (n + 3) 22 [Pt p] h = p22_4 (cF (n + 2)) (n + 2) (Pt p) (.int .i64 (i : Int)) (.bool (announces toks)) h := by
 have hx := k.x
 rw [c22]
 rcases k.t with ⟨rfl, _, hn⟩ | ⟨b, rfl, hn, hb, hl, _, _⟩
 ·have : toks = [] := by simpa using hn
  subst this
  have ha : announces [] = false := rfl
  rw [ha]
  have hd : decide ((0 : Int) < ((0 : Nat) : Int)) = false := rfl
  simp -implicitDefEqProofs only [f22, p22_0, hx, hd, SS, SU, Nat.reduceAdd, Nat.reduceLeDiff, Nat.reduceBEq, Nat.reduceMul]
 ·have hlt : toks.length - 1 < toks.length := by omega
  have hg : toks[toks.length - 1]? = some toks[toks.length - 1] := by simp [hlt]
  have hlast : toks.getLast? = some toks[toks.length - 1] := by rw [List.getLast?_eq_getElem?]; exact hg
  have hmem : toks[toks.length - 1] ∈ toks := List.getElem_mem ..
  have htl := htx _ hmem
  generalize toks[toks.length - 1] = x at hg hlast htl
  obtain ⟨w, hw, g0, g1, g2, g3, g4, _⟩ := k.r.get hg
  have ha : announces toks = (x.kind == 1 && suf [60, 60] x.text) := by unfold announces; rw [hlast, suf2]
  rw [ha]
  have hd : decide (0 < toks.length) = true := decide_eq_true hn
  have e1 : ((x.kind : Int) == 1) = (x.kind == 1) := n_eq x.kind 1
  have z0 : 0 + (toks.length - 1) * 5 = (toks.length - 1) * 5 := by omega
  have z00 : (toks.length - 1) * 5 + 0 = (toks.length - 1) * 5 := rfl
  have hs := hasSuffix_eq (h := h) n x.text [60, 60] (by omega)
  rcases b2 (x.kind == 1) with q | q
  ·simp -implicitDefEqProofs only [f22, p22_0, hx, hd, pull_sub1 toks.length (by omega), wrap_nat (toks.length - 1) (by omega), ia22 b 0 toks.length toks.length (toks.length - 1) hlt, z0, z00, hb, g0, g1, e1, q, hs, SS, SU, Nat.reduceAdd, Nat.reduceLeDiff, Nat.reduceBEq, Nat.reduceMul]
  ·simp -implicitDefEqProofs only [f22, p22_0, hx, hd, pull_sub1 toks.length (by omega), wrap_nat (toks.length - 1) (by omega), ia22 b 0 toks.length toks.length (toks.length - 1) hlt, z0, z00, hb, g0, g1, e1, q, SS, SU, Nat.reduceAdd, Nat.reduceLeDiff, Nat.reduceBEq, Nat.reduceMul]
theorem LS.excl (k : LS h lo X p l i toks waits tv wv cs) (o : AObj) : LS (h.alloc o) lo (h.next :: X) p l i toks waits tv wv cs := by
 have k2 := k.kp (Kp.alloc p h o) (alloc_lx k.x o)
 refine ⟨k2.x, k2.t.keep (fun _ _ e => e) fun _ h => List.mem_cons_of_mem _ h, k.r.mono fun b y a e => ?_, k2.w.keep (fun _ _ e => e) fun _ h => List.mem_cons_of_mem _ h, k2.c1, k2.c2, fun x hx => ?_⟩
 ·have hb := Heap.blk_lt e
  refine ⟨⟨a.1, ?_⟩, (blk_alloc_lt hb).trans e⟩
  simp only [List.mem_cons, not_or]
  exact ⟨by omega, a.2⟩
 ·rcases List.mem_cons.1 hx with e | e
  ·rw [e, next_alloc]; omega
  ·exact k2.c3 x e
theorem LS.setx (k : LS h lo X p l i toks waits tv wv cs) {b : Nat} (o : AObj) (hb : b ∈ X) (hlo : lo ≤ b) (ht : ∀ n, tv ≠ .slice (some ⟨b, 0, none⟩) n n) (hw : ∀ n, wv ≠ .slice (some ⟨b, 0, none⟩) n n) : LS (h.set b o) lo X p l i toks waits tv wv cs := by
 have hp := k.c1
 refine ⟨(blk_set_ne (by omega)).trans k.x, ?_, k.r.mono fun c y a e => ⟨a, (blk_set_ne fun eq => a.2 (eq ▸ hb)).trans e⟩, ?_, k.c1, k.c2, k.c3⟩
 ·rcases k.t with h1 | ⟨c, e, hn, hc, hl, hx, hlc⟩
  ·exact .inl h1
  ·exact .inr ⟨c, e, hn, (blk_set_ne fun eq => ht toks.length (by rw [e, eq])).trans hc, hl, hx, hlc⟩
 ·rcases k.w with h1 | ⟨c, e, hn, hc, hl, hx, hlc⟩
  ·exact .inl h1
  ·exact .inr ⟨c, e, hn, (blk_set_ne fun eq => hw waits.length (by rw [e, eq])).trans hc, hl, hx, hlc⟩
theorem LS.tv_lt (k : LS h lo X p l i toks waits tv wv cs) {b : Nat} (hb : h.next ≤ b) : (∀ n, tv ≠ .slice (some ⟨b, 0, none⟩) n n) ∧ (∀ n, wv ≠ .slice (some ⟨b, 0, none⟩) n n) := by
 constructor
 ·intro n e
  rcases k.t with ⟨h1, _⟩ | ⟨c, e', hn, hc, _⟩
  ·rw [h1] at e; cases e
  ·rw [e'] at e; injection e with e; injection e with e; injection e with e
   have := Heap.blk_lt hc
   omega
 ·intro n e
  rcases k.w with ⟨h1, _⟩ | ⟨c, e', hn, hc, _⟩
  ·rw [h1] at e; cases e
  ·rw [e'] at e; injection e with e; injection e with e; injection e with e
   have := Heap.blk_lt hc
   omega
theorem RepL.get {g : Nat → Option Blk} {A : Nat → Prop} : ∀ {cs : List Value} {ps : List Part}, RepL g A cs ps → ∀ {j : Nat} {x : Part}, ps[j]? = some x → ∃ o q w ws, x = ⟨x.kind, x.text, o, q, ws⟩ ∧ RepW g A w ws ∧ (cs.drop (j * 6)).take 6 = [.int .i64 (x.kind : Int), .string (mkS x.text), .string (mkS o), .bool q, w, .pointer none] ∧ j * 6 + 6 ≤ cs.length := by
 intro cs ps h
 induction ps generalizing cs with
 | nil => intro j x hj; cases hj
 | cons y ps ih =>
  cases h
  rename_i k t o q w ws cs hw hl
  intro j x hj
  cases j with
  | zero =>
   simp at hj; subst hj
   exact ⟨o, q, w, ws, rfl, hw, rfl, by simp⟩
  | succ j =>
   simp at hj
   obtain ⟨o', q', w', ws', e, h1, h2, h3⟩ := ih hl hj
   refine ⟨o', q', w', ws', e, h1, ?_, by simp; omega⟩
   rw [show (j + 1) * 6 = j * 6 + 1 + 1 + 1 + 1 + 1 + 1 by omega]; simpa using h2
def wordDone (toks : List Tok) (waits : List (Nat × Bs)) (i : Nat) (e : Bs) (q : Bool) : List Tok × List (Nat × Bs) := (toks ++ [⟨3, [], [], q, i⟩], waits ++ [(toks.length, e)])
theorem word_end {td : Nat} {e : Bs} {q : Bool} {j n N : Nat} (ht : toks.length ≤ 100000) (hw : waits.length ≤ 100000) (k : LS h lo X p l j toks waits tv wv cs) (hd : h.blk td = some ⟨39, [.int .i64 3, .string (mkS []), .slice none 0 0, .bool q, .int .i64 (i : Int)], true⟩) (hlo : lo ≤ td) (hne : (∀ n, tv ≠ .slice (some ⟨td, 0, none⟩) n n)) :
  wp (p22_13 (cF n) N (Pt p) (Pt td) (.string (mkS e)) h) (MarkQ lo p l j (toks ++ [⟨3, [], [], q, i⟩]) (waits ++ [(toks.length, e)]) h) := by
 have hx := k.x
 obtain ⟨⟨ta, htv⟩, _⟩ := k.t.len
 have e5 : buildSliceA E 55 1 [(0, .agg ⟨[.int .i64 (toks.length : Int), .string (mkS e)]⟩)] h = some (.slice (some ⟨h.next, 0, none⟩) 1 1, h.alloc (.cells ⟨89, [.int .i64 (toks.length : Int), .string (mkS e)], true⟩)) := bs55_1 _ h rfl
 have k2 := k.kp (Kp.alloc p h (.cells ⟨89, [.int .i64 (toks.length : Int), .string (mkS e)], true⟩)) (alloc_lx hx _)
 have u2 := (Kp.alloc p h (.cells ⟨89, [.int .i64 (toks.length : Int), .string (mkS e)], true⟩)).unL k.c2
 have hd2 : (h.alloc (.cells ⟨89, [.int .i64 (toks.length : Int), .string (mkS e)], true⟩)).blk td = some ⟨39, [.int .i64 3, .string (mkS []), .slice none 0 0, .bool q, .int .i64 (i : Int)], true⟩ := (blk_alloc_lt (Heap.blk_lt hd)).trans hd
 have hsb2 : (h.alloc (.cells ⟨89, [.int .i64 (toks.length : Int), .string (mkS e)], true⟩)).blk h.next = some ⟨89, [.int .i64 (toks.length : Int), .string (mkS e)], true⟩ := blk_alloc_eq
 have ln : lenA E 22 tv = some (.int .i64 (toks.length : Int)) := by rw [htv]; exact ln22 _ _ _
 have hltd : td < h.next := Heap.blk_lt hd
 have hn2 : (h.alloc (.cells ⟨89, [.int .i64 (toks.length : Int), .string (mkS e)], true⟩)).next = h.next + 1 := rfl
 simp -implicitDefEqProofs only [p22_13, hx, ln, e5, SS, SU, Nat.reduceAdd, Nat.reduceLeDiff, Nat.reduceBEq, Nat.reduceMul]
 generalize h.alloc (.cells ⟨89, [.int .i64 (toks.length : Int), .string (mkS e)], true⟩) = h2 at *
 obtain ⟨h3, e6, g3, hn3, hs3, hs3'⟩ := k2.w.snoc (t := 55) (sz := 2) (bt := 24) ty55 rfl ty89 rfl rfl rfl hsb2 rfl rfl k2.c2 (by unfold most; omega)
 have hp := k.c1
 have hx3 : LX h3 p l j tv wv := hs3' p _ k2.x (show (57 : Nat) ≠ 89 by decide)
 have hd3 : h3.blk td = some ⟨39, [.int .i64 3, .string (mkS []), .slice none 0 0, .bool q, .int .i64 (i : Int)], true⟩ := hs3' td _ hd2 (show (39 : Nat) ≠ 89 by decide)
 have k4 : LS (h3.set p (.cells ⟨57, [.string (mkS l), .int .i64 (j : Int), tv, .slice (some ⟨h2.next, 0, none⟩) (waits.length + 1) (waits.length + 1)], true⟩)) lo (h2.next :: X) p l j toks (waits ++ [(toks.length, e)]) tv (.slice (some ⟨h2.next, 0, none⟩) (waits.length + 1) (waits.length + 1)) cs := by
  refine ⟨blk_set_eq (blk_lt' hx3), ?_, ?_, ?_, hp, by rw [next_set]; have := k2.c2; omega, fun x hx => ?_⟩
  ·exact k2.t.keep (fun b hb ee => (blk_set_ne (by omega)).trans (hs3' b _ ee (show (39 : Nat) ≠ 89 by decide))) fun _ h => List.mem_cons_of_mem _ h
  ·refine k2.r.mono fun b y a ee => ?_
   have hb := Heap.blk_lt ee
   refine ⟨⟨a.1, ?_⟩, (blk_set_ne (by have := a.1; omega)).trans ((hs3 b hb (.inr a.2)).trans ee)⟩
   simp only [List.mem_cons, not_or]
   exact ⟨by omega, a.2⟩
  ·have : waitCells (waits ++ [(toks.length, e)]) = waitCells waits ++ [.int .i64 (toks.length : Int), .string (mkS e)] := by simp [waitCells]
   rw [this, List.length_append, List.length_singleton]
   exact g3.keep (fun b hb ee => (blk_set_ne (by omega)).trans ee) fun _ h => h
  ·rw [next_set, hn3]
   rcases List.mem_cons.1 hx with ee | ee
   ·omega
   ·have := k2.c3 x ee; omega
 have hd4 : (h3.set p (.cells ⟨57, [.string (mkS l), .int .i64 (j : Int), tv, .slice (some ⟨h2.next, 0, none⟩) (waits.length + 1) (waits.length + 1)], true⟩)).blk td = some ⟨39, [.int .i64 3, .string (mkS []), .slice none 0 0, .bool q, .int .i64 (i : Int)], true⟩ := (blk_set_ne (by omega)).trans hd3
 have u4 : UnL lo p h (h3.set p (.cells ⟨57, [.string (mkS l), .int .i64 (j : Int), tv, .slice (some ⟨h2.next, 0, none⟩) (waits.length + 1) (waits.length + 1)], true⟩)) := u2.trans ⟨by rw [next_set]; omega, fun b hb hn => (blk_set_ne hn).trans (hs3 b (by have := k2.c2; omega) (.inl hb))⟩
 simp -implicitDefEqProofs only [e6, hx3, SS, SU, Nat.reduceAdd, Nat.reduceLeDiff, Nat.reduceBEq, Nat.reduceMul]
 generalize h3.set p (.cells ⟨57, [.string (mkS l), .int .i64 (j : Int), tv, .slice (some ⟨h2.next, 0, none⟩) (waits.length + 1) (waits.length + 1)], true⟩) = h4 at *
 have hx4 := k4.x
 have e7 : buildSliceA E 22 1 [(0, .agg ⟨[.int .i64 3, .string (mkS []), .slice none 0 0, .bool q, .int .i64 (i : Int)]⟩)] h4 = some (.slice (some ⟨h4.next, 0, none⟩) 1 1, h4.alloc (.cells ⟨39, [.int .i64 3, .string (mkS []), .slice none 0 0, .bool q, .int .i64 (i : Int)], true⟩)) := bs22_1 _ h4 rfl
 have k5 := k4.kp (Kp.alloc p h4 (.cells ⟨39, [.int .i64 3, .string (mkS []), .slice none 0 0, .bool q, .int .i64 (i : Int)], true⟩)) (alloc_lx hx4 _)
 have u5 := u4.trans ((Kp.alloc p h4 (.cells ⟨39, [.int .i64 3, .string (mkS []), .slice none 0 0, .bool q, .int .i64 (i : Int)], true⟩)).unL k4.c2)
 obtain ⟨h6, e8, hx6, hn6, hu6, _, _, hls⟩ := k5.tok (x := ⟨3, [], [], q, i⟩) (w := .slice none 0 0) (sb := h4.next) .nil blk_alloc_eq ht
 simp -implicitDefEqProofs only [hx4, hd4, e7, e8, hx6, SS, SU, Nat.reduceAdd, Nat.reduceLeDiff, Nat.reduceBEq, Nat.reduceMul]
 exact wp_some.2 ⟨rfl, u5.trans ⟨by rw [next_set]; omega, fun b hb hn => (blk_set_ne hn).trans (hu6 b hb)⟩, _, _, _, _, hls j⟩
theorem MarkQ.of {h h1 : Heap} {j : Nat} {r : Res} {h' : Heap} (u : UnL lo p h h1) (q : MarkQ lo p l j toks waits h1 r h') : MarkQ lo p l j toks waits h r h' := ⟨q.1, u.trans q.2.1, q.2.2⟩
def WordQ (lo p : Nat) (l : Bs) (i j : Nat) (toks : List Tok) (waits : List (Nat × Bs)) (h : Heap) (x : Option (Bs × Bool)) (r : Res) (h' : Heap) : Prop := match x with
 | some (e, q) => MarkQ lo p l j (toks ++ [⟨3, [], [], q, i⟩]) (waits ++ [(toks.length, e)]) h r h'
 | none => BadL lo p h 19 i r h'
theorem WordQ.of {h h1 : Heap} {j : Nat} {x : Option (Bs × Bool)} {r : Res} {h' : Heap} (u : UnL lo p h h1) (q : WordQ lo p l i j toks waits h1 x r h') : WordQ lo p l i j toks waits h x r h' := by
 cases x with
 | none => exact BadL.of u q
 | some x => exact MarkQ.of u q
theorem word_loop (ht : toks.length ≤ 100000) (hw : waits.length ≤ 100000) {ps : List Part} (hps : ps.length ≤ 100000) {v : Value} {td j n N : Nat} (hlo : lo ≤ td) (hne : (∀ n, tv ≠ .slice (some ⟨td, 0, none⟩) n n) ∧ (∀ n, wv ≠ .slice (some ⟨td, 0, none⟩) n n)) : ∀ (rest : List Part) (jx : Nat) (e : Bs) (q : Bool) (h : Heap) (X : List Nat) (m : Nat),
  ps.drop jx = rest → jx ≤ ps.length → e.length + total rest ≤ 100000 → ps.length - jx < m → td ∈ X → LS h lo X p l j toks waits tv wv cs → RepW h.blk (Al lo X) v ps → h.blk td = some ⟨39, [.int .i64 3, .string (mkS []), .slice none 0 0, .bool q, .int .i64 (i : Int)], true⟩ →
  wp (l22_19 (cF (n + 1)) N m (Pt p) (.int .i64 (i : Int)) (Pt td) (.string (mkS e)) v (.int .i64 (ps.length : Int)) (.int .i64 (jx : Int)) h) (WordQ lo p l i j toks waits h (wordEnd rest e q)) := by
 intro rest
 induction rest with
 | nil =>
  intro jx e q h X m hd hj he hm htd k hv hdoc
  obtain ⟨m, rfl⟩ : ∃ m', m = m' + 1 := ⟨m - 1, by omega⟩
  have hge : ps.length ≤ jx := by have := congrArg List.length hd; simp at this; omega
  have hlt : decide (jx < ps.length) = false := decide_eq_false (by omega)
  simp -implicitDefEqProofs only [l22_19, p22_20, hlt, SS, SU, Nat.reduceAdd, Nat.reduceLeDiff, Nat.reduceBEq, Nat.reduceMul]
  exact word_end ht hw k hdoc hlo hne.1
 | cons x rest ih =>
  intro jx e q h X m hd hj he hm htd k hv hdoc
  obtain ⟨m, rfl⟩ : ∃ m', m = m' + 1 := ⟨m - 1, by omega⟩
  have hlt0 : jx < ps.length := by
   have := congrArg List.length hd
   simp at this; omega
  have hlt : decide (jx < ps.length) = true := decide_eq_true hlt0
  have hg : ps[jx]? = some x := by
   have : (ps.drop jx)[0]? = some x := by rw [hd]; rfl
   simpa using this
  have hd' : ps.drop (jx + 1) = rest := by rw [← List.drop_drop, hd]; rfl
  cases hv with
  | nil => simp at hlt0
  | some b cs' n' _ ha hb hl hn' hpos =>
   obtain ⟨o, q', w, ws, hxe, hww, hcells, hclen⟩ := hl.get hg
   obtain ⟨wa, wn, wc, rfl⟩ := hww.one
   have z0 : 0 + jx * 6 = jx * 6 := by omega
   have hdc : decide (jx * 6 + 6 ≤ cs'.length) = true := decide_eq_true hclen
   have hset : ∀ cs cs', (h.alloc (.cells ⟨49, cs, true⟩)).set h.next (.cells ⟨49, cs', true⟩) = h.alloc (.cells ⟨49, cs', true⟩) := by
    intro cs cs'
    exact put_lx ⟨h.m, h.next + 1⟩ h.next (.cells ⟨49, cs, true⟩) (.cells ⟨49, cs', true⟩)
   have hal : ∀ cs, (h.alloc (.cells ⟨49, cs, true⟩)).blk h.next = some ⟨49, cs, true⟩ := fun cs => blk_alloc_eq
   have ek : x.kind = x.kind := rfl
   have k1 := k.kp (Kp.alloc p h (.cells ⟨49, [.int .i64 (x.kind : Int), .string (mkS x.text), .string (mkS o), .bool q', .slice wa wn wc, .pointer none], true⟩)) (alloc_lx k.x _)
   have u1 := (Kp.alloc p h (.cells ⟨49, [.int .i64 (x.kind : Int), .string (mkS x.text), .string (mkS o), .bool q', .slice wa wn wc, .pointer none], true⟩)).unL k.c2
   have hdoc1 : (h.alloc (.cells ⟨49, [.int .i64 (x.kind : Int), .string (mkS x.text), .string (mkS o), .bool q', .slice wa wn wc, .pointer none], true⟩)).blk td = some ⟨39, [.int .i64 3, .string (mkS []), .slice none 0 0, .bool q, .int .i64 (i : Int)], true⟩ := (blk_alloc_lt (Heap.blk_lt hdoc)).trans hdoc
   have hv1 : RepW (h.alloc (.cells ⟨49, [.int .i64 (x.kind : Int), .string (mkS x.text), .string (mkS o), .bool q', .slice wa wn wc, .pointer none], true⟩)).blk (Al lo X) (.slice (some ⟨b, 0, none⟩) n' n') ps := (RepW.some b cs' n' ps ha hb hl hn' hpos).mono fun c y a ee => ⟨a, (blk_alloc_lt (Heap.blk_lt ee)).trans ee⟩
   have ht10 : (h.alloc (.cells ⟨49, [.int .i64 (x.kind : Int), .string (mkS x.text), .string (mkS o), .bool q', .slice wa wn wc, .pointer none], true⟩)).blk h.next = some ⟨49, [.int .i64 (x.kind : Int), .string (mkS x.text), .string (mkS o), .bool q', .slice wa wn wc, .pointer none], true⟩ := blk_alloc_eq
   have htn : h.next ≠ td := by have := Heap.blk_lt hdoc; omega
   have e0 : ((x.kind : Int) != 0) = (x.kind != 0) := n_ne x.kind 0
   have e1 : ((x.kind : Int) != 1) = (x.kind != 1) := n_ne x.kind 1
   have e1' : ((x.kind : Int) == 1) = (x.kind == 1) := n_eq x.kind 1
   have hwe : wordEnd (x :: rest) e q = if x.kind == 0 || x.kind == 1 then wordEnd rest (e ++ x.text) (q || x.kind == 1) else none := by
    rw [hxe]; simp only [wordEnd]; rfl
   have htot : total (x :: rest) = x.text.length + total rest := rfl
   rw [hwe]
   simp -implicitDefEqProofs only [l22_19, p22_20, hlt, ia37 b 0 n' n' jx (by omega), z0, hb, hdc, hcells, hal, hset, SS, SU, Nat.reduceAdd, Nat.reduceLeDiff, Nat.reduceBEq, Nat.reduceMul]
   generalize h.alloc (.cells ⟨49, [.int .i64 (x.kind : Int), .string (mkS x.text), .string (mkS o), .bool q', .slice wa wn wc, .pointer none], true⟩) = h1 at *
   have good : (x.kind == 0 || x.kind == 1) = true → wp (p22_28 (cF (n + 1)) N (l22_19 (cF (n + 1)) N m) (Pt p) (.int .i64 (i : Int)) (Pt td) (.string (mkS e)) (Pt h.next) (.slice (some ⟨b, 0, none⟩) n' n') (.int .i64 (ps.length : Int)) (.int .i64 (jx : Int)) h1) (WordQ lo p l i j toks waits h (wordEnd rest (e ++ x.text) (q || x.kind == 1))) := by
    intro hk
    have k2 := k1.setx (.cells ⟨39, [.int .i64 3, .string (mkS []), .slice none 0 0, .bool (q || x.kind == 1), .int .i64 (i : Int)], true⟩) htd hlo hne.1 hne.2
    have hdoc2 : (h1.set td (.cells ⟨39, [.int .i64 3, .string (mkS []), .slice none 0 0, .bool (q || x.kind == 1), .int .i64 (i : Int)], true⟩)).blk td = some ⟨39, [.int .i64 3, .string (mkS []), .slice none 0 0, .bool (q || x.kind == 1), .int .i64 (i : Int)], true⟩ := blk_set_eq (Heap.blk_lt hdoc1)
    have hv2 : RepW (h1.set td (.cells ⟨39, [.int .i64 3, .string (mkS []), .slice none 0 0, .bool (q || x.kind == 1), .int .i64 (i : Int)], true⟩)).blk (Al lo X) (.slice (some ⟨b, 0, none⟩) n' n') ps := hv1.mono fun c y a ee => ⟨a, (blk_set_ne fun eq => a.2 (eq ▸ htd)).trans ee⟩
    have u2 : UnL lo p h (h1.set td (.cells ⟨39, [.int .i64 3, .string (mkS []), .slice none 0 0, .bool (q || x.kind == 1), .int .i64 (i : Int)], true⟩)) := u1.trans ⟨by rw [next_set]; exact Nat.le_refl _, fun c hc hn => blk_set_ne (by omega)⟩
    have hadd := bin_sadd E 9 e x.text (by unfold most; omega)
    have hnext := ih (jx + 1) (e ++ x.text) (q || x.kind == 1) _ X m hd' (by omega) (by simp; omega) (by omega) htd k2 hv2 hdoc2
    have hw1 : wrapA .i64 ((jx + 1 : Nat) : Int) = ((jx + 1 : Nat) : Int) := wrap_nat (jx + 1) (by omega)
    rcases b2 q with g | g
    ·subst g
     rw [Bool.true_or] at hnext u2
     simp -implicitDefEqProofs only [p22_28, ht10, hdoc1, hadd, p22_24, hw1, Bool.true_or, SS, SU, Nat.reduceAdd, Nat.reduceLeDiff, Nat.reduceBEq, Nat.reduceMul]
     exact wp_mono hnext fun r h' qq => WordQ.of u2 qq
    ·subst g
     rw [Bool.false_or] at hnext u2
     simp -implicitDefEqProofs only [p22_28, ht10, hdoc1, hadd, e1', p22_24, hw1, Bool.false_or, SS, SU, Nat.reduceAdd, Nat.reduceLeDiff, Nat.reduceBEq, Nat.reduceMul]
     exact wp_mono hnext fun r h' qq => WordQ.of u2 qq
   rcases b2 (x.kind == 0) with g0 | g0
   ·have g0' : (x.kind != 0) = false := by simp [bne, g0]
    have hg2 := good (by rw [g0]; rfl)
    simp -implicitDefEqProofs only [p22_27, ht10, e0, g0', SS, SU, Nat.reduceAdd, Nat.reduceLeDiff, Nat.reduceBEq, Nat.reduceMul]
    rw [if_pos (by rw [g0]; rfl)]
    exact hg2
   ·have g0' : (x.kind != 0) = true := by simp [bne, g0]
    rcases b2 (x.kind == 1) with g1 | g1
    ·have g1' : (x.kind != 1) = false := by simp [bne, g1]
     have hg2 := good (by rw [g0, g1]; rfl)
     simp -implicitDefEqProofs only [p22_27, ht10, e0, g0', e1, g1', SS, SU, Nat.reduceAdd, Nat.reduceLeDiff, Nat.reduceBEq, Nat.reduceMul]
     rw [if_pos (by rw [g1]; simp)]
     exact hg2
    ·have g1' : (x.kind != 1) = true := by simp [bne, g1]
     simp -implicitDefEqProofs only [p22_27, ht10, e0, g0', e1, g1', fail_19, SS, SU, Nat.reduceAdd, Nat.reduceLeDiff, Nat.reduceBEq, Nat.reduceMul]
     rw [if_neg (by rw [g0, g1]; simp)]
     exact wp_some.2 (BadL.of u1 ((fail_bad (p := p) 0 19 i).l k1.c2))
def wordRes (toks : List Tok) (waits : List (Nat × Bs)) (i : Nat) (ps : List Part) : Option (List Tok × List (Nat × Bs)) :=
 if announces toks then match wordEnd ps [] false with
  | none => none
  | some (e, q) => some (toks ++ [⟨0, [], ps, false, i⟩] ++ [⟨3, [], [], q, i⟩], waits ++ [(toks.length + 1, e)])
 else some (toks ++ [⟨0, [], ps, false, i⟩], waits)
def WordR (lo p : Nat) (l : Bs) (i : Nat) (toks : List Tok) (waits : List (Nat × Bs)) (h : Heap) (res : Rz (List Part × Nat × Bs)) (r : Res) (h' : Heap) : Prop := match res with
 | .bad c a => BadL lo p h c a r h'
 | .ok (ps, j, r') => j ≤ l.length ∧ r' = l.drop j ∧ i ≤ j ∧ match wordRes toks waits i ps with
  | none => BadL lo p h 19 i r h'
  | some (toks', waits') => MarkQ lo p l j toks' waits' h r h'
theorem word_ok (hl : l.length ≤ 5000) (ht : toks.length ≤ 99999) (hw : waits.length ≤ 100000) (htx : ∀ t, t ∈ toks → t.text.length ≤ 5000) {f n : Nat} (hf : f < 100000000) (hn : 6 * f + 5030 ≤ n) (k : LS h lo X p l i toks waits tv wv cs) (hi : i < l.length) {res : Rz (List Part × Nat × Bs)} (hs : parts f 0 0 [] [] i (l.drop i) = some res) :
  wp (cF n 22 [Pt p] h) (WordR lo p l i toks waits h res) := by
 obtain ⟨n, rfl⟩ : ∃ n', n = n' + 3 := ⟨n - 3, by omega⟩
 rw [word_head (by omega) htx k]
 have hx := k.x
 have hcall := ((all_ok hl f hf).2.1) 0 0 i res (n + 2) h hs (by omega) hx (by omega) (by omega) (by omega)
 have e0 : ((0 : Nat) : Int) = 0 := rfl
 rw [e0] at hcall
 simp only [p22_4]
 refine wp_bindR hcall ?_ ?_
 ·intro v h2 q
  cases res with
  | bad a b => obtain ⟨_, b, e, _⟩ := q; cases e
  | ok y =>
   obtain ⟨ps, j, r'⟩ := y
   obtain ⟨v', e, hv, hx2, hj, rfl, hij, hpl, kk⟩ := q
   injection e with e; subst e
   have k2 := k.kp kk hx2
   have u2 := kk.unL k.c2
   have hn2 := kk.1
   have hv2 : RepW h2.blk (Al lo X) v ps := hv.mono fun b y a ee => by
    have a' : h.next ≤ b := a
    have := k.c2
    exact ⟨⟨by omega, fun hm => by have := k.c3 b hm; omega⟩, ee⟩
   obtain ⟨va, vn, vc, rfl⟩ := hv2.one
   have hset : ∀ (h2 : Heap) (cs cs' : List Value), (h2.alloc (.cells ⟨39, cs, true⟩)).set h2.next (.cells ⟨39, cs', true⟩) = h2.alloc (.cells ⟨39, cs', true⟩) := by
    intro h2 cs cs'
    exact put_lx ⟨h2.m, h2.next + 1⟩ h2.next (.cells ⟨39, cs, true⟩) (.cells ⟨39, cs', true⟩)
   have hal : ∀ (h2 : Heap) (cs : List Value), (h2.alloc (.cells ⟨39, cs, true⟩)).blk h2.next = some ⟨39, cs, true⟩ := fun h2 cs => blk_alloc_eq
   have k3 := k2.kp (Kp.alloc p h2 (.cells ⟨39, [.int .i64 0, .string (mkS []), .slice va vn vc, .bool false, .int .i64 (i : Int)], true⟩)) (alloc_lx hx2 _)
   have hn3 : (h2.alloc (.cells ⟨39, [.int .i64 0, .string (mkS []), .slice va vn vc, .bool false, .int .i64 (i : Int)], true⟩)).next = h2.next + 1 := rfl
   have u3 := u2.trans ((Kp.alloc p h2 (.cells ⟨39, [.int .i64 0, .string (mkS []), .slice va vn vc, .bool false, .int .i64 (i : Int)], true⟩)).unL k2.c2)
   have ht6 := hal h2 [.int .i64 0, .string (mkS []), .slice va vn vc, .bool false, .int .i64 (i : Int)]
   have hv3 : RepW (h2.alloc (.cells ⟨39, [.int .i64 0, .string (mkS []), .slice va vn vc, .bool false, .int .i64 (i : Int)], true⟩)).blk (Al lo X) (.slice va vn vc) ps := hv2.mono fun b y a ee => ⟨a, (blk_alloc_lt (Heap.blk_lt ee)).trans ee⟩
   have hx3 := k3.x
   simp -implicitDefEqProofs only [hset, hal, hx3, SS, SU, Nat.reduceAdd, Nat.reduceLeDiff, Nat.reduceBEq, Nat.reduceMul]
   have hlo2 := k2.c2
   generalize h2.alloc (.cells ⟨39, [.int .i64 0, .string (mkS []), .slice va vn vc, .bool false, .int .i64 (i : Int)], true⟩) = h3 at *
   have e5 : buildSliceA E 22 1 [(0, .agg ⟨[.int .i64 0, .string (mkS []), .slice va vn vc, .bool false, .int .i64 (i : Int)]⟩)] h3 = some (.slice (some ⟨h3.next, 0, none⟩) 1 1, h3.alloc (.cells ⟨39, [.int .i64 0, .string (mkS []), .slice va vn vc, .bool false, .int .i64 (i : Int)], true⟩)) := bs22_1 _ h3 rfl
   have k4 := k3.kp (Kp.alloc p h3 (.cells ⟨39, [.int .i64 0, .string (mkS []), .slice va vn vc, .bool false, .int .i64 (i : Int)], true⟩)) (alloc_lx hx3 _)
   have u4 := u3.trans ((Kp.alloc p h3 (.cells ⟨39, [.int .i64 0, .string (mkS []), .slice va vn vc, .bool false, .int .i64 (i : Int)], true⟩)).unL k3.c2)
   have hv4 : RepW (h3.alloc (.cells ⟨39, [.int .i64 0, .string (mkS []), .slice va vn vc, .bool false, .int .i64 (i : Int)], true⟩)).blk (Al lo X) (.slice va vn vc) ps := hv3.mono fun b y a ee => ⟨a, (blk_alloc_lt (Heap.blk_lt ee)).trans ee⟩
   have ht4 : (h3.alloc (.cells ⟨39, [.int .i64 0, .string (mkS []), .slice va vn vc, .bool false, .int .i64 (i : Int)], true⟩)).blk h2.next = some ⟨39, [.int .i64 0, .string (mkS []), .slice va vn vc, .bool false, .int .i64 (i : Int)], true⟩ := (blk_alloc_lt (by omega)).trans ht6
   have hn4 : (h3.alloc (.cells ⟨39, [.int .i64 0, .string (mkS []), .slice va vn vc, .bool false, .int .i64 (i : Int)], true⟩)).next = h3.next + 1 := rfl
   obtain ⟨h5, e6, hx5, hn5, hu5, hs5, hA5, hls⟩ := k4.tok (x := ⟨0, [], ps, false, i⟩) (w := .slice va vn vc) (sb := h3.next) hv4 blk_alloc_eq (by omega)
   have hA2 : Al lo X h2.next := ⟨hlo2, fun hm => by have := k2.c3 _ hm; omega⟩
   have ht5 : h5.blk h2.next = some ⟨39, [.int .i64 0, .string (mkS []), .slice va vn vc, .bool false, .int .i64 (i : Int)], true⟩ := (hA5 _ _ hA2 ht4).2
   have k6 := hls j
   have hp := k.c1
   have hv6 : RepW (h5.set p (.cells (lxB l j (.slice (some ⟨(h3.alloc (.cells ⟨39, [.int .i64 0, .string (mkS []), .slice va vn vc, .bool false, .int .i64 (i : Int)], true⟩)).next, 0, none⟩) (toks.length + 1) (toks.length + 1)) wv))).blk (Al lo ((h3.alloc (.cells ⟨39, [.int .i64 0, .string (mkS []), .slice va vn vc, .bool false, .int .i64 (i : Int)], true⟩)).next :: X)) (.slice va vn vc) ps := hv4.mono fun b y a ee => by
    obtain ⟨a', e'⟩ := hA5 b y a ee
    exact ⟨a', (blk_set_ne (by have := a.1; omega)).trans e'⟩
   have ht6' : (h5.set p (.cells (lxB l j (.slice (some ⟨(h3.alloc (.cells ⟨39, [.int .i64 0, .string (mkS []), .slice va vn vc, .bool false, .int .i64 (i : Int)], true⟩)).next, 0, none⟩) (toks.length + 1) (toks.length + 1)) wv))).blk h2.next = some ⟨39, [.int .i64 0, .string (mkS []), .slice va vn vc, .bool false, .int .i64 (i : Int)], true⟩ := (blk_set_ne (by omega)).trans ht5
   have u6 : UnL lo p h (h5.set p (.cells (lxB l j (.slice (some ⟨(h3.alloc (.cells ⟨39, [.int .i64 0, .string (mkS []), .slice va vn vc, .bool false, .int .i64 (i : Int)], true⟩)).next, 0, none⟩) (toks.length + 1) (toks.length + 1)) wv))) := u4.trans ⟨by rw [next_set]; omega, fun b hb hn => (blk_set_ne hn).trans (hu5 b hb)⟩
   simp -implicitDefEqProofs only [e5, e6, hx5, SS, SU, Nat.reduceAdd, Nat.reduceLeDiff, Nat.reduceBEq, Nat.reduceMul]
   generalize (h5.set p (.cells (lxB l j (.slice (some ⟨(h3.alloc (.cells ⟨39, [.int .i64 0, .string (mkS []), .slice va vn vc, .bool false, .int .i64 (i : Int)], true⟩)).next, 0, none⟩) (toks.length + 1) (toks.length + 1)) wv))) = h6 at *
   refine ?_
   rcases b2 (announces toks) with g | g
   ·
    have k7 := k6.excl (.cells ⟨39, [.int .i64 3, .string (mkS []), .slice none 0 0, .bool false, .int .i64 (i : Int)], true⟩)
    have hne := k6.tv_lt (Nat.le_refl h6.next)
    have u7 := u6.trans ((Kp.alloc p h6 (.cells ⟨39, [.int .i64 3, .string (mkS []), .slice none 0 0, .bool false, .int .i64 (i : Int)], true⟩)).unL k6.c2)
    have hv7 : RepW (h6.alloc (.cells ⟨39, [.int .i64 3, .string (mkS []), .slice none 0 0, .bool false, .int .i64 (i : Int)], true⟩)).blk (Al lo (h6.next :: (h3.alloc (.cells ⟨39, [.int .i64 0, .string (mkS []), .slice va vn vc, .bool false, .int .i64 (i : Int)], true⟩)).next :: X)) (.slice va vn vc) ps := hv6.mono fun b y a ee => by
     have hb := Heap.blk_lt ee
     refine ⟨⟨a.1, ?_⟩, (blk_alloc_lt hb).trans ee⟩
     simp only [List.mem_cons, not_or]
     have h2 := a.2
     simp only [List.mem_cons, not_or] at h2
     exact ⟨by omega, h2.1, h2.2⟩
    have hd7 := hal h6 [.int .i64 3, .string (mkS []), .slice none 0 0, .bool false, .int .i64 (i : Int)]
    have ht7 : (h6.alloc (.cells ⟨39, [.int .i64 3, .string (mkS []), .slice none 0 0, .bool false, .int .i64 (i : Int)], true⟩)).blk h2.next = some ⟨39, [.int .i64 0, .string (mkS []), .slice va vn vc, .bool false, .int .i64 (i : Int)], true⟩ := (blk_alloc_lt (Heap.blk_lt ht6')).trans ht6'
    have hlen : vn = ps.length := by
     cases hv with
     | nil => rfl
     | some _ _ _ _ _ _ _ hm _ => exact hm
    subst hlen
    have hps := (parts_len f).1 _ _ _ _ _ _ _ _ _ hs
    simp only [total, List.length_nil, Nat.zero_add, Nat.add_zero] at hps
    have hdl : (l.drop i).length ≤ 5000 := by simp; omega
    have hpc : ps.length ≤ 5000 := by omega
    have hloop := word_loop (i := i) (n := n + 1) (N := n + 2) (v := .slice va ps.length vc) (td := h6.next) (j := j) (by simp; omega) hw (show ps.length ≤ 100000 by omega) k6.c2 hne ps 0 [] false _ _ (n + 2) (List.drop_zero) (by omega) (by simp; omega) (by omega) List.mem_cons_self k7 hv7 hd7
    simp -implicitDefEqProofs only [g, hset, hal, ht7, p22_18, SS, SU, Nat.reduceAdd, Nat.reduceLeDiff, Nat.reduceBEq, Nat.reduceMul]
    refine wp_mono hloop fun r h' q => ⟨hj, rfl, hij, ?_⟩
    have q' := WordQ.of u7 q
    unfold wordRes
    rw [g, if_pos rfl]
    cases hwe : wordEnd ps [] false with
    | none => rw [hwe] at q'; exact q'
    | some x =>
     obtain ⟨e, qq⟩ := x
     rw [hwe] at q'
     have : (toks ++ [(⟨0, [], ps, false, i⟩ : Tok)]).length = toks.length + 1 := by simp
     simp only
     rw [← this]
     exact q'
   ·simp -implicitDefEqProofs only [g, SS, SU, Nat.reduceAdd, Nat.reduceLeDiff, Nat.reduceBEq, Nat.reduceMul]
    refine wp_some.2 ⟨hj, rfl, hij, ?_⟩
    unfold wordRes
    rw [g]
    exact ⟨rfl, u6, _, _, _, _, k6⟩
 ·intro v h2 q
  cases res with
  | ok y => obtain ⟨ps, j, r'⟩ := y; obtain ⟨v', e, _⟩ := q; cases e
  | bad a b => exact wp_some.2 (q.l k.c2)
end
end Go.Proofs.YteekjekckgpbfaaDoor.Abs
end
section
namespace Go.Proofs.YteekjekckgpbfaaDoor.Abs
open Sp
attribute [local congr] bindO_congr bindR_congr condV_congr wp_congr
theorem putL_set (cs : List Value) (off : Nat) (v : Value) (h : off < cs.length) : putL cs off [v] = cs.set off v := by
 unfold putL
 rw [List.set_eq_take_append_cons_drop, if_pos h]
 simp
theorem RepT.setText {g : Nat → Option Blk} {A : Nat → Prop} {cs : List Value} {ts : List Tok} (h : RepT g A cs ts) (text : Bs) : ∀ {k : Nat} {x : Tok}, ts[k]? = some x → RepT g A (cs.set (k * 5 + 1) (.string (mkS text))) (ts.set k { x with text := text }) := by
 induction h with
 | nil => intro k x hk; cases hk
 | cons a t ps q b w cs ts hw hl ih =>
  intro k x hk
  cases k with
  | zero =>
   simp at hk; subst hk
   exact .cons _ _ _ _ _ _ _ _ hw hl
  | succ k =>
   simp at hk
   have := ih hk
   rw [show (k + 1) * 5 + 1 = k * 5 + 1 + 1 + 1 + 1 + 1 + 1 by omega]
   simp only [List.set_cons_succ]
   exact .cons _ _ _ _ _ _ _ _ hw this
theorem RepT.setParts {g : Nat → Option Blk} {A : Nat → Prop} {cs : List Value} {ts : List Tok} (h : RepT g A cs ts) {v : Value} {qs : List Part} (hv : RepW g A v qs) : ∀ {k : Nat} {x : Tok}, ts[k]? = some x → RepT g A (cs.set (k * 5 + 2) v) (ts.set k { x with parts := qs }) := by
 induction h with
 | nil => intro k x hk; cases hk
 | cons a t ps q b w cs ts hw hl ih =>
  intro k x hk
  cases k with
  | zero =>
   simp at hk; subst hk
   exact .cons _ _ _ _ _ _ _ _ hv hl
  | succ k =>
   simp at hk
   have := ih hk
   rw [show (k + 1) * 5 + 2 = k * 5 + 2 + 1 + 1 + 1 + 1 + 1 by omega]
   simp only [List.set_cons_succ]
   exact .cons _ _ _ _ _ _ _ _ hw this
section
variable {h : Heap} {lo : Nat} {X : List Nat} {p : Nat} {l : Bs} {i : Nat} {toks : List Tok} {waits : List (Nat × Bs)} {tv wv : Value} {cs : List Value}
theorem LS.blk (k : LS h lo X p l i toks waits tv wv cs) (hn : 0 < toks.length) : ∃ tb, tv = .slice (some ⟨tb, 0, none⟩) toks.length toks.length ∧ h.blk tb = some ⟨39, cs, true⟩ ∧ tb ∈ X ∧ lo ≤ tb ∧ cs.length = toks.length * 5 := by
 rcases k.t with ⟨_, _, h0⟩ | ⟨b, e, _, hb, hl, hx, hlo⟩
 ·omega
 ·exact ⟨b, e, hb, hx, hlo, hl⟩
theorem LS.setCells {tb : Nat} {cs' : List Value} {toks' : List Tok} (k : LS h lo X p l i toks waits (.slice (some ⟨tb, 0, none⟩) toks.length toks.length) wv cs) (hn : 0 < toks.length) (hb : h.blk tb = some ⟨39, cs, true⟩) (hx : tb ∈ X) (hlo : lo ≤ tb) (hl : cs'.length = cs.length) (ht : toks'.length = toks.length) (hr : RepT h.blk (Al lo X) cs' toks') :
  LS (h.set tb (.cells ⟨39, cs', true⟩)) lo X p l i toks' waits (.slice (some ⟨tb, 0, none⟩) toks.length toks.length) wv cs' := by
 have hp := k.c1
 refine ⟨(blk_set_ne (by omega)).trans k.x, ?_, hr.mono fun c y a e => ⟨a, (blk_set_ne fun eq => a.2 (eq ▸ hx)).trans e⟩, ?_, k.c1, k.c2, k.c3⟩
 ·obtain ⟨_, hl2⟩ := k.t.len
  exact .inr ⟨tb, by rw [ht], by omega, blk_set_eq (Heap.blk_lt hb), by rw [hl, hl2, ht], hx, hlo⟩
 ·refine k.w.keep (fun b hb' e => (blk_set_ne fun eq => ?_).trans e) fun _ h => h
  subst eq
  rw [hb] at e
  injection e with e
  injection e with e
  exact absurd e (by decide)
theorem LS.kpx {h' : Heap} (k : LS h lo X p l i toks waits tv wv cs) {q : Nat} (hq : q ∈ X) (hlo : lo ≤ q) (ht : ∀ n, tv ≠ .slice (some ⟨q, 0, none⟩) n n) (hw : ∀ n, wv ≠ .slice (some ⟨q, 0, none⟩) n n) (kk : Kp q h h') : LS h' lo X p l i toks waits tv wv cs := by
 have hp := k.c1
 have st : ∀ b y, h.blk b = some y → b ≠ q → h'.blk b = some y := fun b y e hn => kk.st e hn
 refine ⟨st _ _ k.x (by omega), ?_, k.r.mono fun c y a e => ⟨a, st _ _ e fun eq => a.2 (eq ▸ hq)⟩, ?_, k.c1, Nat.le_trans k.c2 kk.1, fun x hx => Nat.lt_of_lt_of_le (k.c3 x hx) kk.1⟩
 ·rcases k.t with h1 | ⟨c, e, hn, hc, hl, hx, hlc⟩
  ·exact .inl h1
  ·exact .inr ⟨c, e, hn, st _ _ hc fun eq => ht toks.length (by rw [e, eq]), hl, hx, hlc⟩
 ·rcases k.w with h1 | ⟨c, e, hn, hc, hl, hx, hlc⟩
  ·exact .inl h1
  ·exact .inr ⟨c, e, hn, st _ _ hc fun eq => hw waits.length (by rw [e, eq]), hl, hx, hlc⟩
def DocR (lo p : Nat) (l : Bs) (i : Nat) (toks : List Tok) (waits : List (Nat × Bs)) (k : Nat) (t : Tok) (f : Nat) (wv : Value) (h : Heap) (res : Rz (Bs × Nat × Bs)) (r : Res) (h' : Heap) : Prop := match res with
 | .bad c a => BadL lo p h c a r h'
 | .ok (text, j, r') => j ≤ l.length ∧ r' = l.drop j ∧ i ≤ j ∧
  ((t.quoted = true ∧ r = .ret (.tuple ⟨[]⟩) ∧ UnL lo p h h' ∧ ∃ X tv cs, LS h' lo X p l j (toks.set k { t with text := text }) waits tv wv cs) ∨
   (t.quoted = false ∧ ∀ rp, parts f 2 0 [] [] i text = some rp → match rp with
   | .bad c a => BadL lo p h c a r h'
   | .ok (ps, _, _) => r = .ret (.tuple ⟨[]⟩) ∧ UnL lo p h h' ∧ ∃ X tv cs, LS h' lo X p l j (toks.set k { t with text := text, parts := ps }) waits tv wv cs))
theorem doc_found (hl : l.length ≤ 5000) {k0 i0 st j f n N m : Nat} {t : Tok} {last : Bs} {wb : Nat} {F : Value → Value → Value → Heap → Ans} (hf : f < 100000000) (hn : 6 * f + 5030 ≤ n) (k : LS h lo X p l j toks waits tv wv cs) (hj : j ≤ l.length) (hwb : h.blk wb = some ⟨89, [.int .i64 (k0 : Int), .string (mkS last)], true⟩)
  (hk : toks[k0]? = some t) (hi : i0 ≤ st) (hst : st ≤ j) (hsp : ∃ rp, t.quoted = true ∨ parts f 2 0 [] [] i0 ((l.drop i0).take (st - i0)) = some rp) (hr' : l.drop j = l.drop j) (htot : toks.length ≤ 1000000) :
  wp (p45_10 (cF n) N F (Pt p) (Pt wb) (.int .i64 (i0 : Int)) (.int .i64 (st : Int)) (.string (mkS last)) h) (DocR lo p l i0 toks waits k0 t f wv h (.ok ((l.drop i0).take (st - i0), j, l.drop j))) := by
 have hk0 : k0 < toks.length := by
  rcases Nat.lt_or_ge k0 toks.length with h | h
  ·exact h
  ·simp [h] at hk
 have hx := k.x
 have hp := k.c1
 obtain ⟨tb, rfl, hb, htx, htlo, hcl⟩ := k.blk (by omega)
 obtain ⟨w, hw, g0, g1, g2, g3, g4, _⟩ := k.r.get hk
 obtain ⟨wa, wn, wc, rfl⟩ := hw.one
 have hsv := sl9_lh l i0 st h hi (by omega)
 have hne : (!(last == last)) = false := by simp
 have z0 : 0 + k0 * 5 = k0 * 5 := by omega
 have hlen1 : decide (k0 * 5 + 1 + 1 ≤ cs.length) = true := decide_eq_true (by omega)
 have hput : putL cs (k0 * 5 + 1) [.string (mkS ((l.drop i0).take (st - i0)))] = cs.set (k0 * 5 + 1) (.string (mkS ((l.drop i0).take (st - i0)))) := putL_set _ _ _ (by omega)
 have k2 := k.setCells (cs' := cs.set (k0 * 5 + 1) (.string (mkS ((l.drop i0).take (st - i0))))) (toks' := toks.set k0 { t with text := (l.drop i0).take (st - i0) }) (by omega) hb htx htlo (by simp) (by simp) (k.r.setText _ hk)
 have hb2 : (h.set tb (.cells ⟨39, cs.set (k0 * 5 + 1) (.string (mkS ((l.drop i0).take (st - i0)))), true⟩)).blk tb = some ⟨39, cs.set (k0 * 5 + 1) (.string (mkS ((l.drop i0).take (st - i0)))), true⟩ := blk_set_eq (Heap.blk_lt hb)
 have g3' : (cs.set (k0 * 5 + 1) (.string (mkS ((l.drop i0).take (st - i0)))))[k0 * 5 + 3]? = some (.bool t.quoted) := by
  rw [List.getElem?_set_ne (by omega)]; exact g3
 have u2 : UnL lo p h (h.set tb (.cells ⟨39, cs.set (k0 * 5 + 1) (.string (mkS ((l.drop i0).take (st - i0)))), true⟩)) := ⟨by rw [next_set]; exact Nat.le_refl _, fun b hb hn => blk_set_ne (by omega)⟩
 simp -implicitDefEqProofs only [p45_10, hwb, hne, hx, ia22 tb 0 toks.length toks.length k0 hk0, z0, hsv, hb, hlen1, hput, hb2, g3', SS, SU, Nat.reduceAdd, Nat.reduceLeDiff, Nat.reduceBEq, Nat.reduceMul]
 generalize h.set tb (.cells ⟨39, cs.set (k0 * 5 + 1) (.string (mkS ((l.drop i0).take (st - i0)))), true⟩) = h2 at *
 rcases b2 t.quoted with q | q
 ·simp -implicitDefEqProofs only [q, p45_18, SS, SU, Nat.reduceAdd, Nat.reduceLeDiff, Nat.reduceBEq, Nat.reduceMul]
  exact wp_some.2 ⟨hj, rfl, by omega, .inl ⟨q, rfl, u2, _, _, _, k2⟩⟩
 ·obtain ⟨rp, hsp⟩ := hsp
  rcases hsp with hsp | hsp
  ·rw [q] at hsp; cases hsp
  ·have hx2 := k2.x
   have hsv2 := sl9_hi l st h2 (by omega)
   have hbox : boxA 57 (.agg ⟨[.string (mkS (l.take st)), .int .i64 (i0 : Int), .slice none 0 0, .slice none 0 0]⟩) h2 = (.pointer (some ⟨h2.next, 0, none⟩), h2.alloc (.cells ⟨57, [.string (mkS (l.take st)), .int .i64 (i0 : Int), .slice none 0 0, .slice none 0 0], true⟩)) := rfl
   have hne2 := k2.tv_lt (Nat.le_refl h2.next)
   have k3 := k2.excl (.cells ⟨57, [.string (mkS (l.take st)), .int .i64 (i0 : Int), .slice none 0 0, .slice none 0 0], true⟩)
   have u3 := u2.trans ((Kp.alloc p h2 (.cells ⟨57, [.string (mkS (l.take st)), .int .i64 (i0 : Int), .slice none 0 0, .slice none 0 0], true⟩)).unL k2.c2)
   have hxi : LX (h2.alloc (.cells ⟨57, [.string (mkS (l.take st)), .int .i64 (i0 : Int), .slice none 0 0, .slice none 0 0], true⟩)) h2.next (l.take st) i0 (.slice none 0 0) (.slice none 0 0) := blk_alloc_eq
   have hb3 : (h2.alloc (.cells ⟨57, [.string (mkS (l.take st)), .int .i64 (i0 : Int), .slice none 0 0, .slice none 0 0], true⟩)).blk tb = some ⟨39, cs.set (k0 * 5 + 1) (.string (mkS ((l.drop i0).take (st - i0)))), true⟩ := (blk_alloc_lt (Heap.blk_lt hb2)).trans hb2
   have htn : tb < h2.next := Heap.blk_lt hb2
   have hpn : p < h2.next := blk_lt' hx2
   have hlo2 := k2.c2
   have hn3 : (h2.alloc (.cells ⟨57, [.string (mkS (l.take st)), .int .i64 (i0 : Int), .slice none 0 0, .slice none 0 0], true⟩)).next = h2.next + 1 := rfl
   simp -implicitDefEqProofs only [q, p45_18, hx2, hsv2, hbox, SS, SU, Nat.reduceAdd, Nat.reduceLeDiff, Nat.reduceBEq, Nat.reduceMul]
   generalize h2.alloc (.cells ⟨57, [.string (mkS (l.take st)), .int .i64 (i0 : Int), .slice none 0 0, .slice none 0 0], true⟩) = h3 at *
   have htk : (l.take st).drop i0 = (l.drop i0).take (st - i0) := by rw [List.drop_take]
   have hcall := (all_ok (l := l.take st) (p := h2.next) (tk := .slice none 0 0) (wt := .slice none 0 0) (by simp; omega) f hf).2.1 2 0 i0 rp n h3 (by rw [htk]; exact hsp) (by simp; omega) hxi (by omega) (by omega) (by omega)
   have ec : ((2 : Nat) : Int) = 2 := rfl
   have ec0 : ((0 : Nat) : Int) = 0 := rfl
   rw [ec, ec0] at hcall
   refine wp_bindR hcall ?_ ?_
   ·intro v h4 qq
    cases rp with
    | bad a b => obtain ⟨_, b, e, _⟩ := qq; cases e
    | ok y =>
     obtain ⟨ps, jj, r'⟩ := y
     obtain ⟨v', e, hv, _, _, _, _, _, kk⟩ := qq
     injection e with e; subst e
     obtain ⟨va, vn, vc, rfl⟩ := hv.one
     have k4 := k3.kpx List.mem_cons_self hlo2 hne2.1 hne2.2 kk
     have hb4 := kk.st hb3 (by omega)
     have u4 : UnL lo p h h4 := u3.trans ⟨kk.1, fun c hc hn => kk.2 c (by omega) (by omega)⟩
     have hv4 : RepW h4.blk (Al lo (h2.next :: X)) (.slice va vn vc) ps := hv.mono fun b y a e => by
      have a' : h3.next ≤ b := a
      exact ⟨⟨by omega, fun hm => by have := k3.c3 b hm; omega⟩, e⟩
     have hk4 : (toks.set k0 { t with text := (l.drop i0).take (st - i0) })[k0]? = some { t with text := (l.drop i0).take (st - i0) } := by simp [hk0]
     have hlen2 : decide (k0 * 5 + 2 + 1 ≤ (cs.set (k0 * 5 + 1) (.string (mkS ((l.drop i0).take (st - i0))))).length) = true := decide_eq_true (by simp; omega)
     have hput2 : putL (cs.set (k0 * 5 + 1) (.string (mkS ((l.drop i0).take (st - i0))))) (k0 * 5 + 2) [.slice va vn vc] = (cs.set (k0 * 5 + 1) (.string (mkS ((l.drop i0).take (st - i0))))).set (k0 * 5 + 2) (.slice va vn vc) := putL_set _ _ _ (by simp; omega)
     have hlt : (toks.set k0 { t with text := (l.drop i0).take (st - i0) }).length = toks.length := by simp
     have k4' : LS h4 lo (h2.next :: X) p l j (toks.set k0 { t with text := (l.drop i0).take (st - i0) }) waits (.slice (some ⟨tb, 0, none⟩) (toks.set k0 { t with text := (l.drop i0).take (st - i0) }).length (toks.set k0 { t with text := (l.drop i0).take (st - i0) }).length) wv (cs.set (k0 * 5 + 1) (.string (mkS ((l.drop i0).take (st - i0))))) := by rw [hlt]; exact k4
     have k5 := k4'.setCells (cs' := (cs.set (k0 * 5 + 1) (.string (mkS ((l.drop i0).take (st - i0))))).set (k0 * 5 + 2) (.slice va vn vc)) (toks' := (toks.set k0 { t with text := (l.drop i0).take (st - i0) }).set k0 { t with text := (l.drop i0).take (st - i0), parts := ps }) (by simp; omega) hb4 (List.mem_cons_of_mem _ htx) htlo (by simp) (by simp) (k4.r.setParts hv4 hk4)
     have u5 : UnL lo p h (h4.set tb (.cells ⟨39, (cs.set (k0 * 5 + 1) (.string (mkS ((l.drop i0).take (st - i0))))).set (k0 * 5 + 2) (.slice va vn vc), true⟩)) := u4.trans ⟨by rw [next_set]; exact Nat.le_refl _, fun b hb hn => blk_set_ne (by omega)⟩
     simp -implicitDefEqProofs only [hb4, hlen2, hput2, SS, SU, Nat.reduceAdd, Nat.reduceLeDiff, Nat.reduceBEq, Nat.reduceMul]
     refine wp_some.2 ⟨hj, rfl, by omega, .inr ⟨q, fun rp' hrp' => ?_⟩⟩
     rw [hsp] at hrp'
     injection hrp' with hrp'; subst hrp'
     rw [List.set_set] at k5
     exact ⟨rfl, u5, _, _, _, k5⟩
   ·intro v h4 qq
    cases rp with
    | ok y => obtain ⟨ps, jj, r'⟩ := y; obtain ⟨v', e, _⟩ := qq; cases e
    | bad a b =>
     have : BadL lo p h a b (.panic v) h4 := by
      obtain ⟨kk, bb, e, hbb, hfb⟩ := qq
      exact BadL.of u3 ⟨⟨kk.1, fun c hc hn => kk.2 c (by omega) (by omega)⟩, bb, e, hbb, hfb⟩
     refine wp_some.2 ⟨hj, rfl, by omega, .inr ⟨q, fun rp' hrp' => ?_⟩⟩
     rw [hsp] at hrp'
     injection hrp' with hrp'; subst hrp'
     exact this
theorem doc_loop (hl : l.length ≤ 5000) {k0 i0 f n N : Nat} {t : Tok} {last : Bs} {wb : Nat} (hf : f < 100000000) (hn : 6 * f + 5040 ≤ n) (hk : toks[k0]? = some t) (htot : toks.length ≤ 1000000) (hwl : wb ≠ p) : ∀ (g st m : Nat) (h : Heap) (cs : List Value) (tv : Value) (X : List Nat) (res : Rz (Bs × Nat × Bs)),
  docRows last g ((l.drop i0).take (st - i0)) st (l.drop st) = some res → i0 ≤ st → st ≤ l.length → LS h lo X p l st toks waits tv wv cs → h.blk wb = some ⟨89, [.int .i64 (k0 : Int), .string (mkS last)], true⟩ → g ≤ m →
  (∀ text j r', res = .ok (text, j, r') → t.quoted = true ∨ ∃ rp, parts f 2 0 [] [] i0 text = some rp) →
  wp (l45_3 (cF n) N m (Pt p) (Pt wb) (.int .i64 (i0 : Int)) h) (DocR lo p l i0 toks waits k0 t f wv h res) := by
 intro g
 induction g with
 | zero => intro st m h cs tv X res hs; simp [docRows] at hs
 | succ g ih =>
  intro st m h cs tv X res hs hi hst k hwb hm hsp
  obtain ⟨m, rfl⟩ : ∃ m', m = m' + 1 := ⟨m - 1, by omega⟩
  obtain ⟨n, rfl⟩ : ∃ n', n = n' + 10 := ⟨n - 10, by omega⟩
  have hx := k.x
  have hpn : p < h.next := blk_lt' hx
  simp only [docRows] at hs
  rcases b2 (decide (st < l.length)) with h1 | h1
  ·have hlt := of_decide_eq_true h1
   have hne : (l.drop st).isEmpty = false := by
    cases hd : l.drop st with
    | nil => have := congrArg List.length hd; simp at this; omega
    | cons => rfl
   have hle := row_le (l.drop st)
   have hdl : (l.drop st).length = l.length - st := by simp
   have hb1 : st + (row (l.drop st)).length < 9223372036854775808 := by omega
   have hb2 : st + (row (l.drop st)).length + 1 < 9223372036854775808 := by omega
   obtain ⟨bv, ecut⟩ := cut_eq (h := h) (n + 6) (l.drop st) (by omega)
   simp only [hne, Bool.false_eq_true, if_false] at hs
   have hj : st + min ((row (l.drop st)).length + 1) (l.drop st).length ≤ l.length := by omega
   have kj := k.mv (st + min ((row (l.drop st)).length + 1) (l.drop st).length)
   have uj : UnL lo p h (mv h p l (st + min ((row (l.drop st)).length + 1) (l.drop st).length) tv wv) := (Kp.set _ _ _).unL k.c2
   have hwbj : (mv h p l (st + min ((row (l.drop st)).length + 1) (l.drop st).length) tv wv).blk wb = some ⟨89, [.int .i64 (k0 : Int), .string (mkS last)], true⟩ := (blk_set_ne hwl).trans hwb
   have main : wp (p45_10 (cF (n + 10)) N (l45_3 (cF (n + 10)) N m) (Pt p) (Pt wb) (.int .i64 (i0 : Int)) (.int .i64 (st : Int)) (.string (mkS (row (l.drop st)))) (mv h p l (st + min ((row (l.drop st)).length + 1) (l.drop st).length) tv wv)) (DocR lo p l i0 toks waits k0 t f wv h res) := by
    have of' : ∀ {r : Res} {h' : Heap}, DocR lo p l i0 toks waits k0 t f wv (mv h p l (st + min ((row (l.drop st)).length + 1) (l.drop st).length) tv wv) res r h' → DocR lo p l i0 toks waits k0 t f wv h res r h' := by
     intro r h' q
     cases res with
     | bad a b => exact BadL.of uj q
     | ok y =>
      obtain ⟨text, j, r'⟩ := y
      obtain ⟨a1, a2, a3, a4⟩ := q
      refine ⟨a1, a2, a3, ?_⟩
      rcases a4 with ⟨b1, b2, b3, b4⟩ | ⟨b1, b2⟩
      ·exact .inl ⟨b1, b2, uj.trans b3, b4⟩
      ·refine .inr ⟨b1, fun rp hrp => ?_⟩
       have := b2 rp hrp
       cases rp with
       | bad a b => exact BadL.of uj this
       | ok y => exact ⟨this.1, uj.trans this.2.1, this.2.2⟩
    rcases b2 (row (l.drop st) == last) with g1 | g1
    ·have hrl : row (l.drop st) = last := by simpa using g1
     simp only [g1, if_true] at hs
     injection hs with hs
     subst hs
     rw [hrl] at kj hwbj hj of' ⊢
     have hdj : (l.drop st).drop (last.length + 1) = l.drop (st + min (last.length + 1) (l.drop st).length) := by
      rw [List.drop_drop]
      rcases Nat.lt_or_ge (l.drop st).length (last.length + 1) with c | c
      ·rw [Nat.min_eq_right (by omega), List.drop_of_length_le (by omega), List.drop_of_length_le (by omega)]
      ·rw [Nat.min_eq_left c]
     rw [hdj] at hsp of' ⊢
     have := doc_found (N := N) (F := l45_3 (cF (n + 10)) N m) (m := m) hl hf (n := n + 10) (by omega) kj hj hwbj hk hi (show st ≤ st + min (last.length + 1) (l.drop st).length by omega) (by
      rcases hsp _ _ _ rfl with c | ⟨rp, c⟩
      ·exact ⟨.bad 0 0, .inl c⟩
      ·exact ⟨rp, .inr c⟩) rfl htot
     exact wp_mono this fun r h' q => of' q
    ·simp only [g1, Bool.false_eq_true, if_false] at hs
     have hacc : (l.drop i0).take (st - i0) ++ (l.drop st).take ((row (l.drop st)).length + 1) = (l.drop i0).take (st + min ((row (l.drop st)).length + 1) (l.drop st).length - i0) := by
      have e1 : l.drop st = (l.drop i0).drop (st - i0) := by rw [List.drop_drop]; congr 1; omega
      have e2 : st + min ((row (l.drop st)).length + 1) (l.drop st).length - i0 = (st - i0) + min ((row (l.drop st)).length + 1) (l.drop st).length := by omega
      have h3 : ∀ (r : Bs) (a b : Nat), r.take (a + b) = r.take a ++ (r.drop a).take b := fun r a b => List.take_add
      rw [e2, h3 (l.drop i0), ← e1]
      congr 1
      rcases Nat.lt_or_ge (l.drop st).length ((row (l.drop st)).length + 1) with c | c
      ·rw [Nat.min_eq_right (by omega), List.take_of_length_le (by omega), List.take_of_length_le (by omega)]
      ·rw [Nat.min_eq_left c]
     have hdj : (l.drop st).drop ((row (l.drop st)).length + 1) = l.drop (st + min ((row (l.drop st)).length + 1) (l.drop st).length) := by
      rw [List.drop_drop]
      rcases Nat.lt_or_ge (l.drop st).length ((row (l.drop st)).length + 1) with c | c
      ·rw [Nat.min_eq_right (by omega), List.drop_of_length_le (by omega), List.drop_of_length_le (by omega)]
      ·rw [Nat.min_eq_left c]
     rw [hacc, hdj] at hs
     have hrec := ih _ m _ _ _ _ res hs (by omega) hj kj hwbj (by omega) hsp
     have hn1 : (!(row (l.drop st) == last)) = true := by rw [g1]; rfl
     simp -implicitDefEqProofs only [p45_10, hwbj, hn1, SS, SU, Nat.reduceAdd, Nat.reduceLeDiff, Nat.reduceBEq, Nat.reduceMul]
     exact wp_mono hrec fun r h' q => of' q
   have hxr := mv_lx (l := l) hpn (st + (row (l.drop st)).length) tv wv
   simp -implicitDefEqProofs only [l45_3, p45_4, more_eq (n + 9) hx, h1, p45_6, hx, sl9_lo l st h hst, ecut, wrap_nat (st + (row (l.drop st)).length) hb1, SS, SU, Nat.reduceAdd, Nat.reduceLeDiff, Nat.reduceBEq, Nat.reduceMul]
   rcases b2 (decide ((row (l.drop st)).length < (l.drop st).length)) with g2 | g2
   ·have := of_decide_eq_true g2
    rw [show st + min ((row (l.drop st)).length + 1) (l.drop st).length = st + (row (l.drop st)).length + 1 by omega] at main
    simp -implicitDefEqProofs only [g2, p45_22, hxr, wrap_nat (st + (row (l.drop st)).length + 1) hb2, put_lx, SS, SU, Nat.reduceAdd, Nat.reduceLeDiff, Nat.reduceBEq, Nat.reduceMul]
    exact main
   ·have := of_decide_eq_false g2
    rw [show st + min ((row (l.drop st)).length + 1) (l.drop st).length = st + (row (l.drop st)).length by omega] at main
    simp -implicitDefEqProofs only [g2, p45_22, SS, SU, Nat.reduceAdd, Nat.reduceLeDiff, Nat.reduceBEq, Nat.reduceMul]
    exact main
  ·have hge := of_decide_eq_false h1
   have hd : (l.drop st).isEmpty = true := by rw [List.drop_of_length_le (by omega)]; rfl
   simp only [hd, if_true] at hs
   injection hs with hs; subst hs
   have hsl : st = l.length := by omega
   simp -implicitDefEqProofs only [l45_3, p45_4, more_eq (n + 9) hx, h1, hx, fail_19, SS, SU, Nat.reduceAdd, Nat.reduceLeDiff, Nat.reduceBEq, Nat.reduceMul]
   rw [hsl]
   exact wp_some.2 ((fail_bad (p := p) 0 19 l.length).l k.c2)
end
end Go.Proofs.YteekjekckgpbfaaDoor.Abs
end
section
namespace Go.Proofs.YteekjekckgpbfaaDoor.Abs
open Sp
attribute [local congr] bindO_congr bindR_congr condV_congr wp_congr
section
variable {h : Heap} {lo : Nat} {X : List Nat} {p : Nat} {l : Bs} {i : Nat} {toks : List Tok} {waits : List (Nat × Bs)} {tv wv : Value} {cs : List Value}
theorem document_ok (hl : l.length ≤ 5000) {k0 f n : Nat} {t : Tok} {last : Bs} (hf : f < 5000) (hn : 6 * f + 5050 ≤ n) (hk : toks[k0]? = some t) (htot : toks.length ≤ 1000000) (k : LS h lo X p l i toks waits tv wv cs) (hi : i ≤ l.length) {res : Rz (Bs × Nat × Bs)}
  (hs : docRows last f [] i (l.drop i) = some res) (hsp : ∀ text j r', res = .ok (text, j, r') → t.quoted = true ∨ ∃ rp, parts f 2 0 [] [] i text = some rp) :
  wp (cF n 45 [Pt p, .agg ⟨[.int .i64 (k0 : Int), .string (mkS last)]⟩] h) (DocR lo p l i toks waits k0 t f wv h res) := by
 obtain ⟨n, rfl⟩ : ∃ n', n = n' + 1 := ⟨n - 1, by omega⟩
 have hpn : p < h.next := blk_lt' k.x
 have k2 := k.kp (Kp.alloc p h (.cells ⟨89, [.int .i64 (k0 : Int), .string (mkS last)], true⟩)) (alloc_lx k.x _)
 have u2 := (Kp.alloc p h (.cells ⟨89, [.int .i64 (k0 : Int), .string (mkS last)], true⟩)).unL k.c2
 have hwb : (h.alloc (.cells ⟨89, [.int .i64 (k0 : Int), .string (mkS last)], true⟩)).blk h.next = some ⟨89, [.int .i64 (k0 : Int), .string (mkS last)], true⟩ := blk_alloc_eq
 have hbox : boxA 89 (.agg ⟨[.int .i64 (k0 : Int), .string (mkS last)]⟩) h = (.pointer (some ⟨h.next, 0, none⟩), h.alloc (.cells ⟨89, [.int .i64 (k0 : Int), .string (mkS last)], true⟩)) := rfl
 have hx2 := k2.x
 rw [c45]
 simp -implicitDefEqProofs only [f45, p45_0, hbox, hx2, SS, SU, Nat.reduceAdd, Nat.reduceLeDiff, Nat.reduceBEq, Nat.reduceMul]
 generalize h.alloc (.cells ⟨89, [.int .i64 (k0 : Int), .string (mkS last)], true⟩) = h2 at *
 have e0 : (l.drop i).take (i - i) = [] := by rw [Nat.sub_self]; rfl
 have := doc_loop hl (f := f) (n := n) (N := n) (i0 := i) (last := last) (wb := h.next) (by omega) (by omega) hk htot (by omega) f i n h2 cs tv X res (by rw [e0]; exact hs) (Nat.le_refl _) hi k2 hwb (by omega) hsp
 refine wp_mono this fun r h' q => ?_
 cases res with
 | bad a b => exact BadL.of u2 q
 | ok y =>
  obtain ⟨text, j, r'⟩ := y
  obtain ⟨a1, a2, a3, a4⟩ := q
  refine ⟨a1, a2, a3, ?_⟩
  rcases a4 with ⟨b1, b2, b3, b4⟩ | ⟨b1, b2⟩
  ·exact .inl ⟨b1, b2, u2.trans b3, b4⟩
  ·refine .inr ⟨b1, fun rp hrp => ?_⟩
   have := b2 rp hrp
   cases rp with
   | bad a b => exact BadL.of u2 this
   | ok y => exact ⟨this.1, u2.trans this.2.1, this.2.2⟩
def DocsR (lo p : Nat) (l : Bs) (i : Nat) (h : Heap) (res : Rz (List Tok × Nat × Bs)) (r : Res) (h' : Heap) : Prop := match res with
 | .bad c a => BadL lo p h c a r h'
 | .ok (toks', j, r') => j ≤ l.length ∧ r' = l.drop j ∧ i ≤ j ∧ MarkQ lo p l j toks' [] h r h'
theorem DocsR.of {i' : Nat} {h1 : Heap} {res : Rz (List Tok × Nat × Bs)} {r : Res} {h' : Heap} (u : UnL lo p h h1) (hi : i ≤ i') (q : DocsR lo p l i' h1 res r h') : DocsR lo p l i h res r h' := by
 cases res with
 | bad a b => exact BadL.of u q
 | ok y => obtain ⟨t, j, r'⟩ := y; exact ⟨q.1, q.2.1, by have := q.2.2.1; omega, q.2.2.2.1, u.trans q.2.2.2.2.1, q.2.2.2.2.2⟩
theorem wait_get : ∀ {ws : List (Nat × Bs)} {j k : Nat} {e : Bs}, ws[j]? = some (k, e) → ((waitCells ws).drop (j * 2)).take 2 = [.int .i64 (k : Int), .string (mkS e)] ∧ j * 2 + 2 ≤ (waitCells ws).length := by
 intro ws
 induction ws with
 | nil => intro j k e h; cases h
 | cons x ws ih =>
  intro j k e h
  obtain ⟨xk, xe⟩ := x
  have hc : waitCells ((xk, xe) :: ws) = .int .i64 (xk : Int) :: .string (mkS xe) :: waitCells ws := rfl
  rw [hc]
  cases j with
  | zero => simp at h; obtain ⟨rfl, rfl⟩ := h; exact ⟨rfl, by simp⟩
  | succ j =>
   simp at h
   obtain ⟨h1, h2⟩ := ih h
   rw [show (j + 1) * 2 = j * 2 + 1 + 1 by omega]
   exact ⟨by simpa using h1, by simp; omega⟩
theorem docs_loop (hl : l.length ≤ 5000) {f n N : Nat} (hf : f < 5000) (hn : 6 * f + 5060 ≤ n) (htot : toks.length ≤ 1000000) (hw : waits.length ≤ 1000000) (hwk : ∀ x, x ∈ waits → x.1 < toks.length) : ∀ (rest : List (Nat × Bs)) (jx i m : Nat) (h : Heap) (cs : List Value) (tv : Value) (X : List Nat) (toks' : List Tok) (res : Rz (List Tok × Nat × Bs)),
  waits.drop jx = rest → jx ≤ waits.length → docs f rest toks' i (l.drop i) = some res → toks'.length = toks.length → i ≤ l.length → LS h lo X p l i toks' waits tv wv cs → waits.length - jx < m →
  wp (l19_14 (cF n) N m (Pt p) wv (.int .i64 (waits.length : Int)) (.int .i64 (jx : Int)) h) (DocsR lo p l i h res) := by
 intro rest
 induction rest with
 | nil =>
  intro jx i m h cs tv X toks' res hd hj hs hlen hi k hm
  obtain ⟨m, rfl⟩ : ∃ m', m = m' + 1 := ⟨m - 1, by omega⟩
  have hge : waits.length ≤ jx := by have := congrArg List.length hd; simp at this; omega
  have hlt : decide (jx < waits.length) = false := decide_eq_false (by omega)
  simp only [docs] at hs
  injection hs with hs; subst hs
  have hx := k.x
  simp -implicitDefEqProofs only [l19_14, p19_15, hlt, p19_9, hx, SS, SU, Nat.reduceAdd, Nat.reduceLeDiff, Nat.reduceBEq, Nat.reduceMul]
  refine wp_some.2 ⟨hi, rfl, Nat.le_refl _, rfl, (Kp.set _ _ _).unL k.c2, X, tv, .slice none 0 0, cs, ?_⟩
  have hp := k.c1
  exact ⟨blk_set_eq (blk_lt' hx), k.t.keep (fun b hb e => (blk_set_ne (by omega)).trans e) fun _ h => h, k.r.mono fun b y a e => ⟨a, (blk_set_ne (by have := a.1; omega)).trans e⟩, .inl ⟨rfl, rfl, rfl⟩, k.c1, k.c2, k.c3⟩
 | cons x rest ih =>
  intro jx i m h cs tv X toks' res hd hj hs hlen hi k hm
  obtain ⟨m, rfl⟩ : ∃ m', m = m' + 1 := ⟨m - 1, by omega⟩
  obtain ⟨k0, last⟩ := x
  have hlt0 : jx < waits.length := by have := congrArg List.length hd; simp at this; omega
  have hlt : decide (jx < waits.length) = true := decide_eq_true hlt0
  have hg : waits[jx]? = some (k0, last) := by
   have : (waits.drop jx)[0]? = some (k0, last) := by rw [hd]; rfl
   simpa using this
  have hd' : waits.drop (jx + 1) = rest := by rw [← List.drop_drop, hd]; rfl
  have hb1 : jx + 1 < 9223372036854775808 := by omega
  have hne : i ≤ l.length := hi
  simp only [docs] at hs
  rcases k.w with ⟨_, _, h0⟩ | ⟨b, rfl, hn0, hb, hcl, hx, hlo⟩
  ·omega
  ·obtain ⟨hcells, hclen⟩ := wait_get hg
   have hdc : decide (jx * 2 + 2 ≤ (waitCells waits).length) = true := decide_eq_true hclen
   have z0 : 0 + jx * 2 = jx * 2 := by omega
   have hset : ∀ cs cs', (h.alloc (.cells ⟨89, cs, true⟩)).set h.next (.cells ⟨89, cs', true⟩) = h.alloc (.cells ⟨89, cs', true⟩) := by
    intro cs cs'
    exact put_lx ⟨h.m, h.next + 1⟩ h.next (.cells ⟨89, cs, true⟩) (.cells ⟨89, cs', true⟩)
   have hal : ∀ cs, (h.alloc (.cells ⟨89, cs, true⟩)).blk h.next = some ⟨89, cs, true⟩ := fun cs => blk_alloc_eq
   have k1 := k.kp (Kp.alloc p h (.cells ⟨89, [.int .i64 (k0 : Int), .string (mkS last)], true⟩)) (alloc_lx k.x _)
   have u1 := (Kp.alloc p h (.cells ⟨89, [.int .i64 (k0 : Int), .string (mkS last)], true⟩)).unL k.c2
   simp -implicitDefEqProofs only [l19_14, p19_15, hlt, ia55 b 0 waits.length waits.length jx hlt0, z0, hb, hdc, hcells, hal, hset, SS, SU, Nat.reduceAdd, Nat.reduceLeDiff, Nat.reduceBEq, Nat.reduceMul]
   generalize h.alloc (.cells ⟨89, [.int .i64 (k0 : Int), .string (mkS last)], true⟩) = h1 at *
   cases hdr : docRows last f [] i (l.drop i) with
   | none => rw [hdr] at hs; cases hs
   | some rd =>
    rw [hdr] at hs
    have hk0 : ∃ t, toks'[k0]? = some t := by
     have := hwk _ (List.mem_of_getElem? hg)
     exact ⟨toks'[k0]'(by simp only at this; omega), by simp⟩
    cases rd with
    | bad a b' =>
     simp only at hs
     injection hs with hs; subst hs
     have hcall : wp (cF n 45 [Pt p, .agg ⟨[.int .i64 (k0 : Int), .string (mkS last)]⟩] h1) (BadL lo p h1 a b') := by
      obtain ⟨t, ht⟩ := hk0
      exact document_ok hl hf (n := n) (by omega) ht (by omega) k1 hi hdr (fun text j r' e => by cases e)
     refine wp_bindR hcall ?_ ?_
     ·intro v h2 q
      obtain ⟨_, bb, e, _⟩ := q; cases e
     ·intro v h2 q
      exact wp_some.2 (BadL.of u1 q)
    | ok y =>
     obtain ⟨text, j, r'⟩ := y
     obtain ⟨t, ht⟩ := hk0
     simp only [ht] at hs
     have hsp : ∀ text' j' r'', Rz.ok (text, j, r') = .ok (text', j', r'') → t.quoted = true ∨ ∃ rp, parts f 2 0 [] [] i text' = some rp := by
      intro text' j' r'' e
      injection e with e; injection e with e1 e2
      subst e1
      cases q : t.quoted with
      | true => exact .inl rfl
      | false =>
       simp only [q, Bool.false_eq_true, if_false] at hs
       cases hp : parts f 2 0 [] [] i text with
       | none => rw [hp] at hs; cases hs
       | some rp => exact .inr ⟨rp, rfl⟩
     have hcall := document_ok hl hf (n := n) (by omega) ht (by omega) k1 hi hdr hsp
     refine wp_bindR hcall ?_ ?_
     ·intro v h2 qq
      obtain ⟨a1, rfl, a3, a4⟩ := qq
      rcases a4 with ⟨b1, b2', b3, X2, tv2, cs2, k2⟩ | ⟨b1, b2'⟩
      ·rw [if_pos b1] at hs
       have := ih (jx + 1) j m h2 cs2 tv2 X2 _ res hd' (by omega) hs (by simp; exact hlen) a1 k2 (by omega)
       simp -implicitDefEqProofs only [wrap_nat (jx + 1) hb1, SS, SU, Nat.reduceAdd, Nat.reduceLeDiff, Nat.reduceBEq, Nat.reduceMul]
       exact wp_mono this fun r h' q => DocsR.of (u1.trans b3) a3 q
      ·rw [if_neg (by rw [b1]; decide)] at hs
       cases hp : parts f 2 0 [] [] i text with
       | none => rw [hp] at hs; cases hs
       | some rp =>
        have b2'' := b2' rp hp
        rw [hp] at hs
        cases rp with
        | bad a b' => obtain ⟨_, bb, e, _⟩ := b2''; cases e
        | ok z =>
         obtain ⟨ps, z1, z2⟩ := z
         obtain ⟨c1, c2, X2, tv2, cs2, k2⟩ := b2''
         simp only at hs
         have := ih (jx + 1) j m h2 cs2 tv2 X2 _ res hd' (by omega) hs (by simp; exact hlen) a1 k2 (by omega)
         simp -implicitDefEqProofs only [wrap_nat (jx + 1) hb1, SS, SU, Nat.reduceAdd, Nat.reduceLeDiff, Nat.reduceBEq, Nat.reduceMul]
         exact wp_mono this fun r h' q => DocsR.of (u1.trans c2) a3 q
     ·intro v h2 qq
      obtain ⟨a1, rfl, a3, a4⟩ := qq
      rcases a4 with ⟨b1, b2', _⟩ | ⟨b1, b2'⟩
      ·cases b2'
      ·rw [if_neg (by rw [b1]; decide)] at hs
       cases hp : parts f 2 0 [] [] i text with
       | none => rw [hp] at hs; cases hs
       | some rp =>
        have b2'' := b2' rp hp
        rw [hp] at hs
        cases rp with
        | ok z => obtain ⟨c1, _⟩ := b2''; cases c1
        | bad a b' =>
         simp only at hs
         injection hs with hs; subst hs
         exact wp_some.2 (BadL.of u1 b2'')
theorem line_no (n : Nat) {tk wt : Value} (hx : LX h p l i tk wt) (hi : i ≤ l.length) (hp : pre [10] (l.drop i) = false) : cF (n + 4) 19 [Pt p] h = some (.ret (.bool false), h) := by
 rw [c19]
 simp only [f19, p19_0, next_eq n hx [10] hi, hp, SS, SU, Nat.reduceAdd, Nat.reduceLeDiff, Nat.reduceBEq, Nat.reduceMul]
theorem line_yes (hl : l.length ≤ 5000) {f n : Nat} (hf : f < 5000) (hn : 6 * f + 5080 ≤ n) (htot : toks.length ≤ 50000) (hw : waits.length ≤ 5000) (hwk : ∀ x, x ∈ waits → x.1 < toks.length) (k : LS h lo X p l i toks waits tv wv cs) (hi : i < l.length) (hp : pre [10] (l.drop i) = true) {res : Rz (List Tok × Nat × Bs)}
  (hs : docs f waits (toks ++ [⟨2, [], [], false, i⟩]) (i + 1) (l.drop (i + 1)) = some res) : wp (cF n 19 [Pt p] h) (DocsR lo p l i h res) := by
 obtain ⟨n, rfl⟩ : ∃ n', n = n' + 8 := ⟨n - 8, by omega⟩
 have hx := k.x
 have e5 : buildSliceA E 22 1 [(0, .agg ⟨[.int .i64 2, .string (mkS []), .slice none 0 0, .bool false, .int .i64 (i : Int)]⟩)] h = some (.slice (some ⟨h.next, 0, none⟩) 1 1, h.alloc (.cells ⟨39, [.int .i64 2, .string (mkS []), .slice none 0 0, .bool false, .int .i64 (i : Int)], true⟩)) := bs22_1 _ h rfl
 have k4 := k.kp (Kp.alloc p h (.cells ⟨39, [.int .i64 2, .string (mkS []), .slice none 0 0, .bool false, .int .i64 (i : Int)], true⟩)) (alloc_lx hx _)
 have u4 := (Kp.alloc p h (.cells ⟨39, [.int .i64 2, .string (mkS []), .slice none 0 0, .bool false, .int .i64 (i : Int)], true⟩)).unL k.c2
 obtain ⟨h5, e6, hx5, hn5, hu5, _, _, hls⟩ := k4.tok (x := ⟨2, [], [], false, i⟩) (w := .slice none 0 0) (sb := h.next) .nil blk_alloc_eq (by omega)
 have k6 := hls (i + 1)
 have hb1 : i + 1 < 9223372036854775808 := by omega
 have u6 := u4.trans (show UnL lo p _ (h5.set p (.cells (lxB l (i + 1) (.slice (some ⟨(h.alloc (.cells ⟨39, [.int .i64 2, .string (mkS []), .slice none 0 0, .bool false, .int .i64 (i : Int)], true⟩)).next, 0, none⟩) (toks.length + 1) (toks.length + 1)) wv))) from ⟨by rw [next_set]; omega, fun b hb hn => (blk_set_ne hn).trans (hu5 b hb)⟩)
 have hxn : (h5.set p (.cells ⟨57, [.string (mkS l), .int .i64 (i : Int), .slice (some ⟨(h.alloc (.cells ⟨39, [.int .i64 2, .string (mkS []), .slice none 0 0, .bool false, .int .i64 (i : Int)], true⟩)).next, 0, none⟩) (toks.length + 1) (toks.length + 1), wv], true⟩)).blk p = some ⟨57, [.string (mkS l), .int .i64 (i : Int), .slice (some ⟨(h.alloc (.cells ⟨39, [.int .i64 2, .string (mkS []), .slice none 0 0, .bool false, .int .i64 (i : Int)], true⟩)).next, 0, none⟩) (toks.length + 1) (toks.length + 1), wv], true⟩ := blk_set_eq (blk_lt' hx5)
 obtain ⟨⟨wa, hwv⟩, _⟩ := k.w.len
 have lw : lenA E 55 wv = some (.int .i64 (waits.length : Int)) := by rw [hwv]; exact ln55 _ _ _
 rw [c19]
 simp only [f19, p19_0, next_eq (n + 4) hx [10] (by omega), hp, hx, e5, e6, hx5, hxn, wrap_nat (i + 1) hb1, put_lx, SS, SU, Nat.reduceAdd, Nat.reduceLeDiff, Nat.reduceBEq, Nat.reduceMul]
 have hx6 := k6.x
 generalize (h5.set p (.cells (lxB l (i + 1) (.slice (some ⟨(h.alloc (.cells ⟨39, [.int .i64 2, .string (mkS []), .slice none 0 0, .bool false, .int .i64 (i : Int)], true⟩)).next, 0, none⟩) (toks.length + 1) (toks.length + 1)) wv))) = h6 at *
 have hloop := docs_loop (toks := toks ++ [⟨2, [], [], false, i⟩]) hl (N := n + 7) hf (show 6 * f + 5060 ≤ n + 7 by omega) (by simp; omega) (by omega) (fun x hx => by have := hwk x hx; simp; omega) waits 0 (i + 1) (n + 7) h6 _ _ _ _ res (List.drop_zero) (by omega) hs rfl (by omega) k6 (by omega)
 simp -implicitDefEqProofs only [p19_8, hx6, lw, SS, SU, Nat.reduceAdd, Nat.reduceLeDiff, Nat.reduceBEq, Nat.reduceMul]
 exact wp_mono hloop fun r h' q => DocsR.of u6 (by omega) q
end
end Go.Proofs.YteekjekckgpbfaaDoor.Abs
end
section
namespace Go.Proofs.YteekjekckgpbfaaDoor.Abs
open Sp
attribute [local congr] bindO_congr bindR_congr condV_congr wp_congr
theorem neq_if (t : Nat) (v : Value) : binA E 20 .neq (.iface t v) .nilIface = some (.bool true) := by kernel_rfl
theorem neq_nil : binA E 20 .neq .nilIface .nilIface = some (.bool false) := by kernel_rfl
theorem as_fault (v : Value) : assertA E (.iface 51 v) 51 true = some (.tuple ⟨[v, .bool true]⟩) := by kernel_rfl
theorem skip_eq (i : Nat) (r : Bs) : skip i r = if pre [32] r || pre [9] r then skip (i + 1) (r.drop 1) else if pre [92, 10] r then skip (i + 2) (r.drop 2) else (i, r) := by
 match r with
 | [] => rfl
 | [c] =>
  rcases b2 (c == 32) with g1 | g1
  ·have : pre [32] [c] = true := by simpa [pre] using g1
   simp only [skip, g1, this, Bool.true_or, if_true]; rfl
  ·have p1 : pre [32] [c] = false := by simpa [pre] using g1
   rcases b2 (c == 9) with g2 | g2
   ·have : pre [9] [c] = true := by simpa [pre] using g2
    simp only [skip, g1, g2, p1, this, Bool.false_or, if_true]; rfl
   ·have p2 : pre [9] [c] = false := by simpa [pre] using g2
    have p3 : pre [92, 10] [c] = false := by simp [pre]
    simp only [skip, g1, g2, p1, p2, p3, Bool.false_or, Bool.false_eq_true, if_false]
    split <;> rfl
 | c :: d :: t =>
  rcases b2 (c == 32) with g1 | g1
  ·have : pre [32] (c :: d :: t) = true := by simpa [pre] using g1
   simp only [skip, g1, this, Bool.true_or, if_true]; rfl
  ·have p1 : pre [32] (c :: d :: t) = false := by simpa [pre] using g1
   rcases b2 (c == 9) with g2 | g2
   ·have : pre [9] (c :: d :: t) = true := by simpa [pre] using g2
    simp only [skip, g1, g2, p1, this, Bool.false_or, if_true]; rfl
   ·have p2 : pre [9] (c :: d :: t) = false := by simpa [pre] using g2
    have p3 : pre [92, 10] (c :: d :: t) = (c == 92 && d == 10) := by
     simp only [pre, List.length_cons, List.length_nil, List.take_succ_cons, List.take_zero]
     rw [Bool.eq_iff_iff]; simp
    rcases b2 (c == 92) with g3 | g3
    ·rcases b2 (d == 10) with g4 | g4
     ·simp only [skip, g1, g2, g3, g4, p1, p2, p3, Bool.false_or, Bool.false_eq_true, if_false, if_true, Bool.and_true]; rfl
     ·simp only [skip, g1, g2, g3, g4, p1, p2, p3, Bool.false_or, Bool.false_eq_true, if_false, if_true, Bool.and_false]
    ·simp only [skip, g1, g2, g3, p1, p2, p3, Bool.false_or, Bool.false_eq_true, if_false, Bool.false_and]
section
variable {h : Heap} {lo : Nat} {X : List Nat} {p : Nat} {l : Bs} {i : Nat} {toks : List Tok} {waits : List (Nat × Bs)} {tv wv : Value} {cs : List Value}
theorem skip_loop (hl : l.length ≤ 5000) {tk wt : Value} {n N : Nat} {c0 c1 s0 s2 s3 s5 : Value} {F9 : Value → Value → Value → Value → Value → Heap → Ans} : ∀ (m i : Nat) (h : Heap), i ≤ l.length → l.length < i + m → LX h p l i tk wt →
  ∃ j h', skip i (l.drop i) = (j, l.drop j) ∧ i ≤ j ∧ j ≤ l.length ∧ LX h' p l j tk wt ∧ Kp p h h' ∧ l8_28 (cF (n + 4)) N c0 c1 F9 m s0 s2 s3 (Pt p) s5 h = p8_12 (cF (n + 4)) N c0 c1 F9 s0 s2 s3 (Pt p) s5 h' := by
 intro m
 induction m with
 | zero => intro i h hi hm; omega
 | succ m ih =>
  intro i h hi hm hx
  have hp : p < h.next := blk_lt' hx
  rw [skip_eq]
  rcases b2 (pre [32] (l.drop i)) with g1 | g1
  ·have hi1 := pre_i g1 hi
   simp only [List.length_cons, List.length_nil] at hi1
   obtain ⟨j, h', e1, e2, e3, e4, e5, e6⟩ := ih (i + 1) (mv h p l (i + 1) tk wt) (by omega) (by omega) (mv_lx hp _ _ _)
   refine ⟨j, h', ?_, by omega, e3, e4, (Kp.set _ _ _).trans e5, ?_⟩
   ·rw [g1, Bool.true_or, if_pos rfl, List.drop_drop]; exact e1
   ·rw [← e6]
    simp only [l8_28, p8_29, passed_yes n hx [32] hi (by simp; omega) g1, List.length_cons, List.length_nil, SS, SU, Nat.reduceAdd, Nat.reduceLeDiff, Nat.reduceBEq, Nat.reduceMul]
  ·rcases b2 (pre [9] (l.drop i)) with g2 | g2
   ·have hi1 := pre_i g2 hi
    simp only [List.length_cons, List.length_nil] at hi1
    obtain ⟨j, h', e1, e2, e3, e4, e5, e6⟩ := ih (i + 1) (mv h p l (i + 1) tk wt) (by omega) (by omega) (mv_lx hp _ _ _)
    refine ⟨j, h', ?_, by omega, e3, e4, (Kp.set _ _ _).trans e5, ?_⟩
    ·rw [g1, g2, Bool.false_or, if_pos rfl, List.drop_drop]; exact e1
    ·rw [← e6]
     simp only [l8_28, p8_29, passed_no n hx [32] hi g1, passed_yes n hx [9] hi (by simp; omega) g2, List.length_cons, List.length_nil, SS, SU, Nat.reduceAdd, Nat.reduceLeDiff, Nat.reduceBEq, Nat.reduceMul]
   ·rcases b2 (pre [92, 10] (l.drop i)) with g3 | g3
    ·have hi1 := pre_i g3 hi
     simp only [List.length_cons, List.length_nil] at hi1
     obtain ⟨j, h', e1, e2, e3, e4, e5, e6⟩ := ih (i + 2) (mv h p l (i + 2) tk wt) (by omega) (by omega) (mv_lx hp _ _ _)
     refine ⟨j, h', ?_, by omega, e3, e4, (Kp.set _ _ _).trans e5, ?_⟩
     ·rw [g1, g2, g3, Bool.false_or, if_neg (by decide), if_pos rfl, List.drop_drop]; exact e1
     ·rw [← e6]
      simp only [l8_28, p8_29, passed_no n hx [32] hi g1, passed_no n hx [9] hi g2, passed_yes n hx [92, 10] hi (by simp; omega) g3, List.length_cons, List.length_nil, SS, SU, Nat.reduceAdd, Nat.reduceLeDiff, Nat.reduceBEq, Nat.reduceMul]
    ·refine ⟨i, h, ?_, Nat.le_refl _, hi, hx, Kp.refl _ _, ?_⟩
     ·rw [g1, g2, g3, Bool.false_or, if_neg (by decide), if_neg (by decide)]
     ·simp only [l8_28, p8_29, passed_no n hx [32] hi g1, passed_no n hx [9] hi g2, passed_no n hx [92, 10] hi g3, SS, SU, Nat.reduceAdd, Nat.reduceLeDiff, Nat.reduceBEq, Nat.reduceMul]
def RepTk (h : Heap) (A : Nat → Prop) (v : Value) (ts : List Tok) : Prop :=
 (v = .slice none 0 0 ∧ ts = []) ∨ ∃ b cs n, v = .slice (some ⟨b, 0, none⟩) n n ∧ n = ts.length ∧ 0 < n ∧ A b ∧ h.blk b = some ⟨39, cs, true⟩ ∧ RepT h.blk A cs ts
def LexQ (h : Heap) (res : Rz (List Tok)) (r : Res) (h' : Heap) : Prop := Un h.next h h' ∧ match res with
 | .ok toks => ∃ v, r = .ret (.tuple ⟨[v, .nilIface]⟩) ∧ RepTk h' (h.next ≤ ·) v toks
 | .bad c a => ∃ b, r = .ret (.tuple ⟨[.slice none 0 0, .iface 51 (Pt b)]⟩) ∧ h.next ≤ b ∧ h'.blk b = some ⟨52, [.int .i64 (c : Int), .int .i64 (a : Int)], true⟩
structure Ar (h : Heap) (t2 t3 rb p : Nat) : Prop where
 a2 : h.blk t2 = some ⟨22, [.slice none 0 0], true⟩
 a3 : h.blk t3 = some ⟨24, [.nilIface], true⟩
 rd : h.blk rb = some ⟨34, [.func (.func 19) ⟨[Pt p]⟩ ⟨[]⟩, .func (.func 20) ⟨[Pt p]⟩ ⟨[]⟩, .func (.func 21) ⟨[Pt p]⟩ ⟨[]⟩, .func (.func 22) ⟨[Pt p]⟩ ⟨[]⟩], true⟩
theorem Ar.keep {h h' : Heap} {t2 t3 rb p lo : Nat} (a : Ar h t2 t3 rb p) (u : UnL lo p h h') (h2 : t2 < p) (h3 : t3 < p) (hr : p < rb) (hlo : rb < lo) : Ar h' t2 t3 rb p :=
 ⟨(u.2 _ (by omega) (by omega)).trans a.a2, (u.2 _ (by omega) (by omega)).trans a.a3, (u.2 _ (by omega) (by omega)).trans a.rd⟩
theorem caught {h0 h h' : Heap} {t2 t3 rb c a n N : Nat} {v : Value} (hb : BadL lo p h c a (.panic v) h') (ar : Ar h t2 t3 rb p) (h2 : h0.next ≤ t2) (h23 : t2 < t3) (h3 : t3 < p) (hr : p < rb) (hlo : rb < lo) (hln : lo ≤ h.next) (u : Un h0.next h0 h) :
  wp (e8 (cF n) N (Pt t2) (Pt t3) (Pt t2) (Pt t3) v h') (LexQ h0 (.bad c a)) := by
 obtain ⟨uu, b, e, hbb, hf⟩ := hb
 injection e with e; subst e
 have ar' := ar.keep uu (by omega) h3 hr hlo
 have a2 := ar'.a2
 have a3 := ar'.a3
 have t2n := Heap.blk_lt a2
 have t3n := Heap.blk_lt a3
 have c3 : (h'.set t2 (.cells ⟨22, [.slice none 0 0], true⟩)).blk t3 = some ⟨24, [.nilIface], true⟩ := (blk_set_ne (by omega)).trans a3
 have d2 : ((h'.set t2 (.cells ⟨22, [.slice none 0 0], true⟩)).set t3 (.cells ⟨24, [.iface 51 (Pt b)], true⟩)).blk t2 = some ⟨22, [.slice none 0 0], true⟩ := (blk_set_ne (by omega)).trans (blk_set_eq t2n)
 have d3 : ((h'.set t2 (.cells ⟨22, [.slice none 0 0], true⟩)).set t3 (.cells ⟨24, [.iface 51 (Pt b)], true⟩)).blk t3 = some ⟨24, [.iface 51 (Pt b)], true⟩ := blk_set_eq (by rw [next_set]; exact t3n)
 simp -implicitDefEqProofs only [e8, d18, p18_0, neq_if, as_fault, p18_4, a2, c3, d2, d3, SS, SU, Nat.reduceAdd, Nat.reduceLeDiff, Nat.reduceBEq, Nat.reduceMul]
 have hhn := uu.1
 refine wp_some.2 ⟨⟨by rw [next_set, next_set]; have := u.1; omega, fun x hx => ?_⟩, b, rfl, by have := u.1; omega, (blk_set_ne (by omega)).trans ((blk_set_ne (by omega)).trans hf)⟩
 exact (blk_set_ne (by omega)).trans ((blk_set_ne (by omega)).trans ((uu.2 x (by omega) (by omega)).trans (u.2 x hx)))
theorem LexQ.of {h h1 : Heap} {res : Rz (List Tok)} {r : Res} {h' : Heap} (q : LexQ h res r h') : LexQ h res r h' := q
theorem first_lt {r : Bs} {k : Nat} {o : Bs} (h : first marksL r = some (k, o)) : 1 ≤ o.length := (marksL_len h).2.2
theorem rd_call (n : Nat) (g : Nat) (h : Heap) (hg : (g == 97) = false) : callA E (cF n) (.func (.func g) ⟨[Pt p]⟩ ⟨[]⟩) [] h = cF n g [Pt p] h := callA_func _ _ _ _ _ _ _ (prim_none g _ _ hg)
theorem lex_loop (hl : l.length ≤ 4000) {h0 : Heap} {t2 t3 rb n N : Nat} (h2 : h0.next ≤ t2) (h23 : t2 < t3) (h3 : t3 < p) (hr : p < rb) (hlo : rb < lo) (hN : 6000 ≤ N) : ∀ (f : Nat) (toks : List Tok) (waits : List (Nat × Bs)) (i m : Nat) (h : Heap) (X : List Nat) (tv wv : Value) (cs : List Value) (res : Rz (List Tok)),
  lexL f toks waits i (l.drop i) = some res → i ≤ l.length → LS h lo X p l i toks waits tv wv cs → Ar h t2 t3 rb p → Un h0.next h0 h → f ≤ m → f < 5000 → 6 * f + 6100 ≤ n → toks.length + 2 * f ≤ 20000 → waits.length + f ≤ 5000 → (∀ t, t ∈ toks → t.text.length ≤ 5000) → (∀ x, x ∈ waits → x.1 < toks.length) →
  wp (l8_9 (cF n) N (Pt t2) (Pt t3) m (.string (mkS l)) (Pt t2) (Pt t3) (Pt p) (.slice (some ⟨rb, 0, none⟩) 4 4) h) (LexQ h0 res) := by
 intro f
 induction f with
 | zero => intro toks waits i m h X tv wv cs res hs; simp [lexL] at hs
 | succ f ih =>
  intro toks waits i m h X tv wv cs res hs hi k ar u hm hf hn htl hwl htx hwk
  obtain ⟨m, rfl⟩ : ∃ m', m = m' + 1 := ⟨m - 1, by omega⟩
  obtain ⟨n, rfl⟩ : ∃ n', n = n' + 20 := ⟨n - 20, by omega⟩
  obtain ⟨N, rfl⟩ : ∃ N', N = N' + 5 := ⟨N - 5, by omega⟩
  obtain ⟨j, h1, esk, hij, hj, hx1, kk1, esim⟩ := skip_loop (by omega) (n := n + 16) (N := N + 5) (c0 := Pt t2) (c1 := Pt t3) (s0 := .string (mkS l)) (s2 := Pt t2) (s3 := Pt t3) (s5 := .slice (some ⟨rb, 0, none⟩) 4 4) (F9 := l8_9 (cF (n + 20)) (N + 5) (Pt t2) (Pt t3) m) (N + 5) i h hi (by omega) k.x
  have k1 := k.kp kk1 hx1
  have u1 : UnL lo p h h1 := kk1.unL k.c2
  have ar1 := ar.keep u1 (by omega) h3 hr hlo
  have hp := k.c1
  have uu1 : Un h0.next h0 h1 := u.trans ⟨u1.1, fun b hb => u1.2 b (by omega) (by omega)⟩
  simp only [lexL, esk] at hs
  simp only [l8_9, p8_10]
  have esim' : l8_28 (cF (n + 20)) (N + 5) (Pt t2) (Pt t3) (l8_9 (cF (n + 20)) (N + 5) (Pt t2) (Pt t3) m) (N + 5) (.string (mkS l)) (Pt t2) (Pt t3) (Pt p) (.slice (some ⟨rb, 0, none⟩) 4 4) h = _ := esim
  rw [esim']
  clear esim esim'
  have go : ∀ {toks' : List Tok} {waits' : List (Nat × Bs)} {i' : Nat} {h' : Heap}, lexL f toks' waits' i' (l.drop i') = some res → i' ≤ l.length → MarkQ lo p l i' toks' waits' h1 (.ret (.bool true)) h' → toks'.length ≤ toks.length + 2 → waits'.length ≤ waits.length + 1 → (∀ t, t ∈ toks' → t.text.length ≤ 5000) → (∀ x, x ∈ waits' → x.1 < toks'.length) →
    wp (l8_9 (cF (n + 20)) (N + 5) (Pt t2) (Pt t3) m (.string (mkS l)) (Pt t2) (Pt t3) (Pt p) (.slice (some ⟨rb, 0, none⟩) 4 4) h') (LexQ h0 res) := by
   intro toks' waits' i' h' hs' hi' q ht' hw' htx' hwk'
   obtain ⟨_, u', X', tv', wv', cs', k'⟩ := q
   exact ih toks' waits' i' m h' X' tv' wv' cs' res hs' hi' k' (ar1.keep u' (by omega) h3 hr hlo) (uu1.trans ⟨u'.1, fun b hb => u'.2 b (by omega) (by omega)⟩) (by omega) (by omega) (by omega) (by omega) (by omega) htx' hwk'
  rcases b2 (decide (j < l.length)) with g1 | g1
  ·have hlt := of_decide_eq_true g1
   have hdr := List.drop_eq_getElem_cons hlt
   have hg := drop_get l j hlt
   rw [hdr] at hs
   generalize l[j] = c at hdr hg hs
   simp only [← hdr] at hs
   have p10 : pre [10] (l.drop j) = (c == 10) := by rw [hdr]; simp [pre]
   have p35 : pre [35] (l.drop j) = (c == 35) := by rw [hdr]; simp [pre]
   have p38 : pre [38] (l.drop j) = (c == 38) := by rw [hdr]; simp [pre]
   have d0 : decide ((0 : Int) < ((4 : Nat) : Int)) = true := rfl
   have d1 : decide ((1 : Int) < ((4 : Nat) : Int)) = true := rfl
   have d2 : decide ((2 : Int) < ((4 : Nat) : Int)) = true := rfl
   have d3 : decide ((3 : Int) < ((4 : Nat) : Int)) = true := rfl
   have i0 : indexAddrA E 58 (.slice (some ⟨rb, 0, none⟩) 4 4) (.int .i64 0) = some (.pointer (some ⟨rb, 0, none⟩)) := ia58 rb 0 4 4 0 (by omega)
   have i1 : indexAddrA E 58 (.slice (some ⟨rb, 0, none⟩) 4 4) (.int .i64 1) = some (.pointer (some ⟨rb, 1, none⟩)) := ia58 rb 0 4 4 1 (by omega)
   have i2 : indexAddrA E 58 (.slice (some ⟨rb, 0, none⟩) 4 4) (.int .i64 2) = some (.pointer (some ⟨rb, 2, none⟩)) := ia58 rb 0 4 4 2 (by omega)
   have i3 : indexAddrA E 58 (.slice (some ⟨rb, 0, none⟩) 4 4) (.int .i64 3) = some (.pointer (some ⟨rb, 3, none⟩)) := ia58 rb 0 4 4 3 (by omega)
   have w1 : wrapA .i64 ((0 : Int) + 1) = 1 := rfl
   have w2 : wrapA .i64 ((1 : Int) + 1) = 2 := rfl
   have w3 : wrapA .i64 ((2 : Int) + 1) = 3 := rfl
   have rd1 := ar1.rd
   simp -implicitDefEqProofs only [p8_12, more_eq (n + 19) hx1, g1, l8_17, p8_18, d0, i0, rd1, rd_call (p := p) (n + 20) 19 h1 rfl, SS, SU, Nat.reduceAdd, Nat.reduceLeDiff, Nat.reduceBEq, Nat.reduceMul]
   rcases b2 (c == 10) with g2 | g2
   ·simp only [g2, if_true] at hs
    rw [g2] at p10
    cases hd : docs f waits (toks ++ [⟨2, [], [], false, j⟩]) (j + 1) (l.drop (j + 1)) with
    | none => rw [hd] at hs; cases hs
    | some rd =>
     have hcall := line_yes (by omega) (f := f) (n := n + 20) (by omega) (by omega) (by omega) (by omega) hwk k1 hlt p10 hd
     rw [hd] at hs
     refine wp_bindR hcall ?_ ?_
     ·intro v h' q
      cases rd with
      | bad a b => obtain ⟨_, bb, e, _⟩ := q; cases e
      | ok y =>
       obtain ⟨toks', i', r'⟩ := y
       obtain ⟨a1, rfl, a3, a4⟩ := q
       have e := a4.1
       injection e with e; subst e
       simp only at hs
       obtain ⟨hlen, htx', _⟩ := docs_len f 5000 _ _ _ _ _ _ _ hd (by simp; omega) (fun t ht => by
        rcases List.mem_append.1 ht with e | e
        ·exact htx t e
        ·simp at e; subst e; simp)
       simp only [List.length_append, List.length_singleton] at hlen
       simp -implicitDefEqProofs only [SS, SU, Nat.reduceAdd, Nat.reduceLeDiff, Nat.reduceBEq, Nat.reduceMul]
       exact go hs a1 a4 (by omega) (by simp) htx' (fun x hx => by cases hx)
     ·intro v h' q
      cases rd with
      | ok y => obtain ⟨toks', i', r'⟩ := y; have e := q.2.2.2.1; cases e
      | bad a b =>
       simp only at hs
       injection hs with hs; subst hs
       exact caught q ar1 h2 h23 h3 hr hlo k1.c2 uu1
   ·simp only [g2, Bool.false_eq_true, if_false] at hs
    rw [g2] at p10
    simp -implicitDefEqProofs only [line_no (n + 16) hx1 hj p10, w1, d1, i1, rd1, rd_call (p := p) (n + 20) 20 h1 rfl, SS, SU, Nat.reduceAdd, Nat.reduceLeDiff, Nat.reduceBEq, Nat.reduceMul]
    rcases b2 (c == 35) with g3 | g3
    ·simp only [g3, if_true] at hs
     rw [g3] at p35
     have hle := row_le (l.drop j)
     simp only [List.length_drop] at hle
     simp -implicitDefEqProofs only [remark_yes (n + 15) hx1 hj (by omega) p35, SS, SU, Nat.reduceAdd, Nat.reduceLeDiff, Nat.reduceBEq, Nat.reduceMul]
     rw [List.drop_drop] at hs
     exact go hs (by omega) ⟨rfl, (Kp.set _ _ _).unL k1.c2, X, tv, wv, cs, k1.mv _⟩ (by omega) (by omega) htx hwk
    ·simp only [g3, Bool.false_eq_true, if_false] at hs
     rw [g3] at p35
     simp -implicitDefEqProofs only [remark_no (n + 16) hx1 hj p35, w2, d2, i2, rd1, rd_call (p := p) (n + 20) 21 h1 rfl, SS, SU, Nat.reduceAdd, Nat.reduceLeDiff, Nat.reduceBEq, Nat.reduceMul]
     have hmk := mark_ok (n := n + 20) (by omega) (by omega) (by omega) k1 hlt
     rw [first_find] at hs
     cases hfm : first marksL ((l.drop j).drop (digitOf (l.drop j))) with
     | some x =>
      obtain ⟨kk, mm⟩ := x
      rw [hfm] at hs
      simp only [Option.map] at hs
      have hi2 : j + digitOf (l.drop j) + mm.length ≤ l.length := by
       have h1 := pre_len (first_pre hfm).1
       have := (marksL_len hfm).2.2
       simp only [List.length_drop] at h1
       omega
      refine wp_bindR (hmk.1 kk mm hfm) ?_ ?_
      ·intro v h' q
       have e := q.1
       injection e with e; subst e
       simp -implicitDefEqProofs only [SS, SU, Nat.reduceAdd, Nat.reduceLeDiff, Nat.reduceBEq, Nat.reduceMul]
       refine go (i' := j + digitOf (l.drop j) + mm.length) (toks' := toks ++ [⟨1, (l.drop j).take (digitOf (l.drop j) + mm.length), [], false, j⟩]) (by rw [← hs, List.drop_drop, Nat.add_assoc]) hi2 q (by simp) (by omega) ?_ ?_
       ·intro t ht
        rcases List.mem_append.1 ht with e | e
        ·exact htx t e
        ·simp at e; subst e
         simp; omega
       ·intro x hx
        have := hwk x hx
        simp; omega
      ·intro v h' q
       have e := q.1; cases e
     | none =>
      rw [hfm] at hs
      simp only [Option.map] at hs
      rcases b2 (c == 38) with g4 | g4
      ·simp only [g4, if_true] at hs
       injection hs with hs; subst hs
       rw [g4] at p38
       refine wp_bindR (hmk.2.1 hfm p38) ?_ ?_
       ·intro v h' q
        obtain ⟨_, bb, e, _⟩ := q; cases e
       ·intro v h' q
        exact caught q ar1 h2 h23 h3 hr hlo k1.c2 uu1
      ·simp only [g4, Bool.false_eq_true, if_false] at hs
       rw [g4] at p38
       refine wp_bindR (hmk.2.2 hfm p38) ?_ ?_
       ·intro v h' q
        obtain ⟨e, u2, k2⟩ := q
        injection e with e; subst e
        have ar2 := ar1.keep u2 (by omega) h3 hr hlo
        have rd2 := ar2.rd
        have uu2 : Un h0.next h0 h' := uu1.trans ⟨u2.1, fun b hb => u2.2 b (by omega) (by omega)⟩
        simp -implicitDefEqProofs only [w3, d3, i3, rd2, rd_call (p := p) (n + 20) 22 h' rfl, SS, SU, Nat.reduceAdd, Nat.reduceLeDiff, Nat.reduceBEq, Nat.reduceMul]
        cases hp0 : parts f 0 0 [] [] j (l.drop j) with
        | none => rw [hp0] at hs; cases hs
        | some rp =>
         have hcall := word_ok (n := n + 20) (by omega) (by omega) (by omega) htx (by omega) (by omega) k2 hlt hp0
         rw [hp0] at hs
         refine wp_bindR hcall ?_ ?_
         ·intro v h3' q
          cases rp with
          | bad a b => obtain ⟨_, bb, e, _⟩ := q; cases e
          | ok y =>
           obtain ⟨ps, i', r'⟩ := y
           obtain ⟨a1, rfl, a3, a4⟩ := q
           simp only at hs
           have hnew : ∀ t, t ∈ toks ++ [(⟨0, [], ps, false, j⟩ : Tok)] → t.text.length ≤ 5000 := by
            intro t ht
            rcases List.mem_append.1 ht with e | e
            ·exact htx t e
            ·simp at e; subst e; simp
           unfold wordRes at a4
           rcases b2 (announces toks) with g5 | g5
           ·rw [g5, if_pos rfl] at a4 hs
            cases hwe : wordEnd ps [] false with
            | none =>
             rw [hwe] at a4
             obtain ⟨_, bb, e, _⟩ := a4; cases e
            | some x =>
             obtain ⟨e0, q0⟩ := x
             rw [hwe] at a4 hs
             simp only at a4 hs
             have e := a4.1
             injection e with e; subst e
             simp -implicitDefEqProofs only [SS, SU, Nat.reduceAdd, Nat.reduceLeDiff, Nat.reduceBEq, Nat.reduceMul]
             have hs' : lexL f (toks ++ [⟨0, [], ps, false, j⟩] ++ [⟨3, [], [], q0, j⟩]) (waits ++ [(toks.length + 1, e0)]) i' (l.drop i') = some res := by
              rw [List.append_assoc]; exact hs
             refine go hs' a1 ⟨rfl, u2.trans a4.2.1, a4.2.2⟩ (by simp) (by simp) ?_ ?_
             ·intro t ht
              rcases List.mem_append.1 ht with e | e
              ·exact hnew t e
              ·simp at e; subst e; simp
             ·intro x hx
              rcases List.mem_append.1 hx with e | e
              ·have := hwk x e; simp; omega
              ·simp at e; subst e; simp
           ·rw [g5, if_neg (by decide)] at a4 hs
            simp only at a4 hs
            have e := a4.1
            injection e with e; subst e
            simp -implicitDefEqProofs only [SS, SU, Nat.reduceAdd, Nat.reduceLeDiff, Nat.reduceBEq, Nat.reduceMul]
            exact go hs a1 ⟨rfl, u2.trans a4.2.1, a4.2.2⟩ (by simp) (by omega) hnew (fun x hx => by have := hwk x hx; simp; omega)
         ·intro v h3' q
          cases rp with
          | bad a b =>
           simp only at hs
           injection hs with hs; subst hs
           exact caught q ar2 h2 h23 h3 hr hlo k2.c2 uu2
          | ok y =>
           obtain ⟨ps, i', r'⟩ := y
           obtain ⟨a1, rfl, a3, a4⟩ := q
           simp only at hs
           unfold wordRes at a4
           rcases b2 (announces toks) with g5 | g5
           ·rw [g5, if_pos rfl] at a4 hs
            cases hwe : wordEnd ps [] false with
            | none =>
             rw [hwe] at a4 hs
             simp only at hs
             injection hs with hs; subst hs
             exact caught a4 ar2 h2 h23 h3 hr hlo k2.c2 uu2
            | some x =>
             obtain ⟨e0, q0⟩ := x
             rw [hwe] at a4
             have e := a4.1; cases e
           ·rw [g5, if_neg (by decide)] at a4
            have e := a4.1; cases e
       ·intro v h' q
        obtain ⟨e, _⟩ := q; cases e
  ·have hge := of_decide_eq_false g1
   have hd0 : l.drop j = [] := List.drop_of_length_le (by omega)
   rw [hd0] at hs
   obtain ⟨⟨wa, hwv⟩, _⟩ := k1.w.len
   have lw : lenA E 55 wv = some (.int .i64 (waits.length : Int)) := by rw [hwv]; exact ln55 _ _ _
   have hjl : j = l.length := by omega
   simp -implicitDefEqProofs only [p8_12, more_eq (n + 19) hx1, g1, p8_3, hx1, lw, SS, SU, Nat.reduceAdd, Nat.reduceLeDiff, Nat.reduceBEq, Nat.reduceMul]
   rcases b2 (decide (0 < waits.length)) with g2 | g2
   ·have hw0 := of_decide_eq_true g2
    have hne : waits.isEmpty = false := by cases waits with | nil => simp at hw0 | cons => rfl
    simp only [hne, Bool.false_eq_true, if_false] at hs
    injection hs with hs; subst hs
    simp -implicitDefEqProofs only [g2, fail_19, SS, SU, Nat.reduceAdd, Nat.reduceLeDiff, Nat.reduceBEq, Nat.reduceMul]
    rw [hjl]
    exact caught (h := h1) ((fail_bad (p := p) 0 19 l.length).l k1.c2) ar1 h2 h23 h3 hr hlo k1.c2 uu1
   ·have hw0 := of_decide_eq_false g2
    have hne : waits.isEmpty = true := by cases waits with | nil => rfl | cons => simp at hw0
    simp only [hne, if_true] at hs
    injection hs with hs; subst hs
    have a2 := ar1.a2
    have a3 := ar1.a3
    have t2n := Heap.blk_lt a2
    have t3n := Heap.blk_lt a3
    obtain ⟨⟨ta, htv⟩, _⟩ := k1.t.len
    have kt := k1.t
    subst htv
    have c3 : (h1.set t2 (.cells ⟨22, [.slice ta toks.length toks.length], true⟩)).blk t3 = some ⟨24, [.nilIface], true⟩ := (blk_set_ne (by omega)).trans a3
    have d2 : ((h1.set t2 (.cells ⟨22, [.slice ta toks.length toks.length], true⟩)).set t3 (.cells ⟨24, [.nilIface], true⟩)).blk t2 = some ⟨22, [.slice ta toks.length toks.length], true⟩ := (blk_set_ne (by omega)).trans (blk_set_eq t2n)
    have d3' : ((h1.set t2 (.cells ⟨22, [.slice ta toks.length toks.length], true⟩)).set t3 (.cells ⟨24, [.nilIface], true⟩)).blk t3 = some ⟨24, [.nilIface], true⟩ := blk_set_eq (by rw [next_set]; exact t3n)
    simp -implicitDefEqProofs only [g2, p8_4, hx1, a2, c3, e8, d18, p18_0, neq_nil, d2, d3', SS, SU, Nat.reduceAdd, Nat.reduceLeDiff, Nat.reduceBEq, Nat.reduceMul]
    refine wp_some.2 ⟨uu1.trans ⟨by rw [next_set, next_set]; exact Nat.le_refl _, fun x hx => (blk_set_ne (by omega)).trans (blk_set_ne (by omega))⟩, _, rfl, ?_⟩
    have hA : ∀ b y, Al lo X b → h1.blk b = some y → h0.next ≤ b ∧ ((h1.set t2 (.cells ⟨22, [.slice ta toks.length toks.length], true⟩)).set t3 (.cells ⟨24, [.nilIface], true⟩)).blk b = some y := by
     intro b y a e
     have := a.1
     exact ⟨by omega, (blk_set_ne (by omega)).trans ((blk_set_ne (by omega)).trans e)⟩
    rcases kt with ⟨e1, e2, e3⟩ | ⟨b, e1, e2, e3, e4, e5, e6⟩
    ·exact .inl ⟨e1, by simpa using e3⟩
    ·exact .inr ⟨b, cs, toks.length, e1, rfl, e2, by omega, (blk_set_ne (by omega)).trans ((blk_set_ne (by omega)).trans e3), k1.r.mono hA⟩
end
end Go.Proofs.YteekjekckgpbfaaDoor.Abs
end
section
namespace Go.Proofs.YteekjekckgpbfaaDoor.Abs
open Sp
attribute [local congr] bindO_congr bindR_congr condV_congr wp_congr
theorem readers_eq (p : Value) (h : Heap) : buildSliceA E 58 4 [(0, .func (.func 19) ⟨[p]⟩ ⟨[]⟩), (1, .func (.func 20) ⟨[p]⟩ ⟨[]⟩), (2, .func (.func 21) ⟨[p]⟩ ⟨[]⟩), (3, .func (.func 22) ⟨[p]⟩ ⟨[]⟩)] h =
  some (.slice (some ⟨h.next, 0, none⟩) 4 4, h.alloc (.cells ⟨34, [.func (.func 19) ⟨[p]⟩ ⟨[]⟩, .func (.func 20) ⟨[p]⟩ ⟨[]⟩, .func (.func 21) ⟨[p]⟩ ⟨[]⟩, .func (.func 22) ⟨[p]⟩ ⟨[]⟩], true⟩)) := by kernel_rfl
theorem lex_ok {l : Bs} {f n : Nat} {h : Heap} {res : Rz (List Tok)} (hs : lex f l = some res) (hf : f < 5000) (hn : 6 * f + 6200 ≤ n) (hl : l.length < 4611686018427387904) : wp (cF n 8 [.string (mkS l)] h) (LexQ h res) := by
 obtain ⟨n, rfl⟩ : ∃ n', n = n' + 1 := ⟨n - 1, by omega⟩
 have e40 : decide ((4000 : Int) < (l.length : Int)) = decide (4000 < l.length) := n_lt 4000 l.length
 have nA : (h.alloc (.cells ⟨22, [.slice none 0 0], true⟩)).next = h.next + 1 := rfl
 have bA : (h.alloc (.cells ⟨22, [.slice none 0 0], true⟩)).blk h.next = some ⟨22, [.slice none 0 0], true⟩ := blk_alloc_eq
 have uA : Un h.next h (h.alloc (.cells ⟨22, [.slice none 0 0], true⟩)) := Un.alloc _ _ (Nat.le_refl _)
 rw [c8]
 simp -implicitDefEqProofs only [f8, q8_0, q8_1, e40, SS, SU, Nat.reduceAdd, Nat.reduceLeDiff, Nat.reduceBEq, Nat.reduceMul]
 generalize h.alloc (.cells ⟨22, [.slice none 0 0], true⟩) = hA at *
 have nB : (hA.alloc (.cells ⟨24, [.nilIface], true⟩)).next = h.next + 2 := by rw [next_alloc]; omega
 have bB : (hA.alloc (.cells ⟨24, [.nilIface], true⟩)).blk h.next = some ⟨22, [.slice none 0 0], true⟩ := (blk_alloc_lt (by omega)).trans bA
 have cB : (hA.alloc (.cells ⟨24, [.nilIface], true⟩)).blk hA.next = some ⟨24, [.nilIface], true⟩ := blk_alloc_eq
 have uB : Un h.next h (hA.alloc (.cells ⟨24, [.nilIface], true⟩)) := uA.trans (Un.alloc _ _ (by omega))
 generalize hA.alloc (.cells ⟨24, [.nilIface], true⟩) = hB at *
 unfold lex at hs
 rcases b2 (decide (4000 < l.length)) with g | g
 ·have := of_decide_eq_true g
  simp only [this, if_true] at hs
  injection hs with hs; subst hs
  have hbox : boxA 52 (.agg ⟨[.int .i64 3, .int .i64 4000]⟩) hB = (.pointer (some ⟨hB.next, 0, none⟩), hB.alloc (.cells ⟨52, [.int .i64 3, .int .i64 4000], true⟩)) := rfl
  have bC : (hB.alloc (.cells ⟨52, [.int .i64 3, .int .i64 4000], true⟩)).blk h.next = some ⟨22, [.slice none 0 0], true⟩ := (blk_alloc_lt (by omega)).trans bB
  have cC : (hB.alloc (.cells ⟨52, [.int .i64 3, .int .i64 4000], true⟩)).blk hA.next = some ⟨24, [.nilIface], true⟩ := (blk_alloc_lt (by omega)).trans cB
  have fC : (hB.alloc (.cells ⟨52, [.int .i64 3, .int .i64 4000], true⟩)).blk hB.next = some ⟨52, [.int .i64 3, .int .i64 4000], true⟩ := blk_alloc_eq
  have nC : (hB.alloc (.cells ⟨52, [.int .i64 3, .int .i64 4000], true⟩)).next = h.next + 3 := by rw [next_alloc]; omega
  have uC : Un h.next h (hB.alloc (.cells ⟨52, [.int .i64 3, .int .i64 4000], true⟩)) := uB.trans (Un.alloc _ _ (by omega))
  simp -implicitDefEqProofs only [g, hbox, SS, SU, Nat.reduceAdd, Nat.reduceLeDiff, Nat.reduceBEq, Nat.reduceMul]
  generalize hB.alloc (.cells ⟨52, [.int .i64 3, .int .i64 4000], true⟩) = hC at *
  have c3 : (hC.set h.next (.cells ⟨22, [.slice none 0 0], true⟩)).blk hA.next = some ⟨24, [.nilIface], true⟩ := (blk_set_ne (by omega)).trans cC
  have d2 : ((hC.set h.next (.cells ⟨22, [.slice none 0 0], true⟩)).set hA.next (.cells ⟨24, [.iface 51 (Pt hB.next)], true⟩)).blk h.next = some ⟨22, [.slice none 0 0], true⟩ := (blk_set_ne (by omega)).trans (blk_set_eq (by omega))
  have d3 : ((hC.set h.next (.cells ⟨22, [.slice none 0 0], true⟩)).set hA.next (.cells ⟨24, [.iface 51 (Pt hB.next)], true⟩)).blk hA.next = some ⟨24, [.iface 51 (Pt hB.next)], true⟩ := blk_set_eq (by rw [next_set]; omega)
  simp -implicitDefEqProofs only [bC, c3, d2, d3, SS, SU, Nat.reduceAdd, Nat.reduceLeDiff, Nat.reduceBEq, Nat.reduceMul]
  exact wp_some.2 ⟨uC.trans ⟨by rw [next_set, next_set]; exact Nat.le_refl _, fun x hx => (blk_set_ne (by omega)).trans (blk_set_ne (by omega))⟩, hB.next, rfl, by omega, (blk_set_ne (by omega)).trans ((blk_set_ne (by omega)).trans fC)⟩
 ·have := of_decide_eq_false g
  simp only [this, if_false] at hs
  have hbox : boxA 57 (.agg ⟨[.string (mkS l), .int .i64 0, .slice none 0 0, .slice none 0 0]⟩) hB = (.pointer (some ⟨hB.next, 0, none⟩), hB.alloc (.cells ⟨57, [.string (mkS l), .int .i64 0, .slice none 0 0, .slice none 0 0], true⟩)) := rfl
  simp -implicitDefEqProofs only [g, q8_2, p8_0, hbox, readers_eq, SS, SU, Nat.reduceAdd, Nat.reduceLeDiff, Nat.reduceBEq, Nat.reduceMul]
  have bC : (hB.alloc (.cells ⟨57, [.string (mkS l), .int .i64 0, .slice none 0 0, .slice none 0 0], true⟩)).blk h.next = some ⟨22, [.slice none 0 0], true⟩ := (blk_alloc_lt (by omega)).trans bB
  have cC : (hB.alloc (.cells ⟨57, [.string (mkS l), .int .i64 0, .slice none 0 0, .slice none 0 0], true⟩)).blk hA.next = some ⟨24, [.nilIface], true⟩ := (blk_alloc_lt (by omega)).trans cB
  have xC : LX (hB.alloc (.cells ⟨57, [.string (mkS l), .int .i64 0, .slice none 0 0, .slice none 0 0], true⟩)) hB.next l 0 (.slice none 0 0) (.slice none 0 0) := blk_alloc_eq
  have nC : (hB.alloc (.cells ⟨57, [.string (mkS l), .int .i64 0, .slice none 0 0, .slice none 0 0], true⟩)).next = h.next + 3 := by rw [next_alloc]; omega
  have uC : Un h.next h (hB.alloc (.cells ⟨57, [.string (mkS l), .int .i64 0, .slice none 0 0, .slice none 0 0], true⟩)) := uB.trans (Un.alloc _ _ (by omega))
  generalize hB.alloc (.cells ⟨57, [.string (mkS l), .int .i64 0, .slice none 0 0, .slice none 0 0], true⟩) = hC at *
  have bD : (hC.alloc (.cells ⟨34, [.func (.func 19) ⟨[Pt hB.next]⟩ ⟨[]⟩, .func (.func 20) ⟨[Pt hB.next]⟩ ⟨[]⟩, .func (.func 21) ⟨[Pt hB.next]⟩ ⟨[]⟩, .func (.func 22) ⟨[Pt hB.next]⟩ ⟨[]⟩], true⟩)).blk h.next = some ⟨22, [.slice none 0 0], true⟩ := (blk_alloc_lt (by omega)).trans bC
  have cD : (hC.alloc (.cells ⟨34, [.func (.func 19) ⟨[Pt hB.next]⟩ ⟨[]⟩, .func (.func 20) ⟨[Pt hB.next]⟩ ⟨[]⟩, .func (.func 21) ⟨[Pt hB.next]⟩ ⟨[]⟩, .func (.func 22) ⟨[Pt hB.next]⟩ ⟨[]⟩], true⟩)).blk hA.next = some ⟨24, [.nilIface], true⟩ := (blk_alloc_lt (by omega)).trans cC
  have xD := alloc_lx xC (.cells ⟨34, [.func (.func 19) ⟨[Pt hB.next]⟩ ⟨[]⟩, .func (.func 20) ⟨[Pt hB.next]⟩ ⟨[]⟩, .func (.func 21) ⟨[Pt hB.next]⟩ ⟨[]⟩, .func (.func 22) ⟨[Pt hB.next]⟩ ⟨[]⟩], true⟩)
  have rD : (hC.alloc (.cells ⟨34, [.func (.func 19) ⟨[Pt hB.next]⟩ ⟨[]⟩, .func (.func 20) ⟨[Pt hB.next]⟩ ⟨[]⟩, .func (.func 21) ⟨[Pt hB.next]⟩ ⟨[]⟩, .func (.func 22) ⟨[Pt hB.next]⟩ ⟨[]⟩], true⟩)).blk hC.next = some ⟨34, [.func (.func 19) ⟨[Pt hB.next]⟩ ⟨[]⟩, .func (.func 20) ⟨[Pt hB.next]⟩ ⟨[]⟩, .func (.func 21) ⟨[Pt hB.next]⟩ ⟨[]⟩, .func (.func 22) ⟨[Pt hB.next]⟩ ⟨[]⟩], true⟩ := blk_alloc_eq
  have nD : (hC.alloc (.cells ⟨34, [.func (.func 19) ⟨[Pt hB.next]⟩ ⟨[]⟩, .func (.func 20) ⟨[Pt hB.next]⟩ ⟨[]⟩, .func (.func 21) ⟨[Pt hB.next]⟩ ⟨[]⟩, .func (.func 22) ⟨[Pt hB.next]⟩ ⟨[]⟩], true⟩)).next = h.next + 4 := by rw [next_alloc]; omega
  have uD : Un h.next h (hC.alloc (.cells ⟨34, [.func (.func 19) ⟨[Pt hB.next]⟩ ⟨[]⟩, .func (.func 20) ⟨[Pt hB.next]⟩ ⟨[]⟩, .func (.func 21) ⟨[Pt hB.next]⟩ ⟨[]⟩, .func (.func 22) ⟨[Pt hB.next]⟩ ⟨[]⟩], true⟩)) := uC.trans (Un.alloc _ _ (by omega))
  generalize hC.alloc (.cells ⟨34, [.func (.func 19) ⟨[Pt hB.next]⟩ ⟨[]⟩, .func (.func 20) ⟨[Pt hB.next]⟩ ⟨[]⟩, .func (.func 21) ⟨[Pt hB.next]⟩ ⟨[]⟩, .func (.func 22) ⟨[Pt hB.next]⟩ ⟨[]⟩], true⟩) = hD at *
  exact lex_loop (lo := hC.next + 1) (N := n) (n := n) (by omega) (t2 := h.next) (t3 := hA.next) (rb := hC.next) (p := hB.next) (Nat.le_refl _) (by omega) (by omega) (by omega) (by omega) (by omega) f [] [] 0 n hD [] _ _ [] res (by rw [List.drop_zero]; exact hs) (by omega) ⟨xD, .inl ⟨rfl, rfl, rfl⟩, .nil, .inl ⟨rfl, rfl, rfl⟩, by omega, by omega, fun x hx => by cases hx⟩ ⟨bD, cD, rD⟩ uD (by omega) hf (by omega) (by simp; omega) (by simp; omega) (fun t ht => by cases ht) (fun x hx => by cases hx)
end Go.Proofs.YteekjekckgpbfaaDoor.Abs
end
section
namespace Go.Proofs.YteekjekckgpbfaaDoor.Abs
open Sp
attribute [local congr] bindO_congr bindR_congr condV_congr wp_congr
variable {h : Heap} {l : Bs} {i : Nat}
theorem rletter_eq (n : Nat) (c : UInt8) : cF (n + 1) 102 [.int .u8 (c.toNat : Int)] h = some (.ret (.bool (isLetter c)), h) := by
 rw [c102]
 unfold isLetter
 rcases b2 (decide (97 ≤ (c.toNat : Int))) with h1 | h1 <;> rcases b2 (decide ((c.toNat : Int) ≤ 122)) with h2 | h2 <;>
 rcases b2 (decide (65 ≤ (c.toNat : Int))) with h3 | h3 <;> rcases b2 (decide ((c.toNat : Int) ≤ 90)) with h4 | h4 <;> simp -implicitDefEqProofs only [f102, h1, h2, h3, h4, SS, SU, Nat.reduceAdd, Nat.reduceLeDiff, Nat.reduceBEq, Nat.reduceMul]
theorem rdigit_eq (n : Nat) (c : UInt8) : cF (n + 1) 93 [.int .u8 (c.toNat : Int)] h = some (.ret (.bool (isDigit c)), h) := by
 rw [c93]
 unfold isDigit
 rcases b2 (decide (48 ≤ (c.toNat : Int))) with h1 | h1 <;> simp -implicitDefEqProofs only [f93, h1, SS, SU, Nat.reduceAdd, Nat.reduceLeDiff, Nat.reduceBEq, Nat.reduceMul]
theorem rat_eq (n : Nat) (t : Bs) (hi : i ≤ l.length) (hl : l.length + t.length < 9223372036854775808) : cF (n + 1) 26 [.string (mkS l), .int .i64 (i : Int), .string (mkS t)] h = some (.ret (.bool (pre t (l.drop i))), h) := by
 rw [c26]
 have hb : i + t.length < 9223372036854775808 := by omega
 rcases b2 (decide (i + t.length ≤ l.length)) with h1 | h1
 ·have hle := of_decide_eq_true h1
  have hsv := sl9_lh l i (i + t.length) h (by omega) hle
  rw [show i + t.length - i = t.length by omega] at hsv
  simp -implicitDefEqProofs only [f26, wrap_nat (i + t.length) hb, h1, hsv, pre, SS, SU, Nat.reduceAdd, Nat.reduceLeDiff, Nat.reduceBEq, Nat.reduceMul]
 ·have : pre t (l.drop i) = false := by
   have h1 := of_decide_eq_false h1
   unfold pre
   rw [beq_eq_false_iff_ne]
   intro e
   have := congrArg List.length e
   simp at this
   omega
  simp -implicitDefEqProofs only [f26, wrap_nat (i + t.length) hb, h1, this, SS, SU, Nat.reduceAdd, Nat.reduceLeDiff, Nat.reduceBEq, Nat.reduceMul]
theorem u8n_eq (a b : UInt8) : (a.toNat == b.toNat) = (a == b) := by
 rw [Bool.eq_iff_iff, beq_iff_eq, beq_iff_eq, UInt8.toNat_inj]
theorem rhas_loop (n N : Nat) (r : Bs) (c : UInt8) (hr : r.length < 4611686018427387904) : ∀ (m k : Nat), k ≤ r.length → r.length < k + m → l75_6 (cF n) N m (.string (mkS r)) (.int .u8 (c.toNat : Int)) (.int .i64 (k : Int)) h = some (.ret (.bool ((r.drop k).contains c)), h) := by
 intro m
 induction m with
 | zero => intro k hk hm; omega
 | succ m ih =>
  intro k hk hm
  rcases b2 (decide (k < r.length)) with h1 | h1
  ·have hlt := of_decide_eq_true h1
   have hg := drop_get r k hlt
   have hb : k + 1 < 9223372036854775808 := by omega
   rw [List.drop_eq_getElem_cons hlt]
   generalize r[k] = b at hg ⊢
   rcases b2 (b == c) with h2 | h2
   ·have h3 : (c == b) = true := by rw [beq_iff_eq] at h2 ⊢; exact h2.symm
    simp -implicitDefEqProofs only [l75_6, p75_7, h1, ix9 r k b hg, u8n_eq, h2, List.contains_cons, h3, SS, SU, Nat.reduceAdd, Nat.reduceLeDiff, Nat.reduceBEq, Nat.reduceMul]
   ·have h3 : (c == b) = false := by rw [beq_eq_false_iff_ne] at h2 ⊢; exact fun e => h2 e.symm
    simp -implicitDefEqProofs only [l75_6, p75_7, h1, ix9 r k b hg, u8n_eq, h2, List.contains_cons, h3, wrap_nat (k + 1) hb, SS, SU, Nat.reduceAdd, Nat.reduceLeDiff, Nat.reduceBEq, Nat.reduceMul]
    exact ih (k + 1) (by omega) (by omega)
  ·have : r.drop k = [] := List.drop_of_length_le (by have := of_decide_eq_false h1; omega)
   rw [this]
   simp -implicitDefEqProofs only [l75_6, p75_7, h1, p75_2, SS, SU, Nat.reduceAdd, Nat.reduceLeDiff, Nat.reduceBEq, Nat.reduceMul]
   rfl
theorem rhas_eq (n : Nat) (r : Bs) (c : UInt8) (hr : r.length < n) (hr' : r.length < 4611686018427387904) : cF (n + 1) 75 [.string (mkS r), .int .u8 (c.toNat : Int)] h = some (.ret (.bool (r.contains c)), h) := by
 rw [c75]
 have := rhas_loop (h := h) n n r c hr' n 0 (by omega) (by omega)
 rw [List.drop_zero] at this
 exact this
theorem rname_loop (N : Nat) (hl : l.length < 4611686018427387904) (hi : i ≤ l.length) (n : Nat) : ∀ (m k : Nat), i + k ≤ l.length → l.length < i + k + m → l92_6 (cF (n + 1)) N m (.string (mkS l)) (.int .i64 (i : Int)) (.int .i64 (k : Int)) h = some (.ret (.int .i64 (nameFrom k (l.drop (i + k)) : Int)), h) := by
 intro m
 induction m with
 | zero => intro k hk hm; omega
 | succ m ih =>
  intro k hk hm
  have hb : i + k < 9223372036854775808 := by omega
  have hb1 : k + 1 < 9223372036854775808 := by omega
  rcases b2 (decide (i + k < l.length)) with h1 | h1
  ·have hlt := of_decide_eq_true h1
   have hg := drop_get l (i + k) hlt
   rw [List.drop_eq_getElem_cons hlt]
   generalize l[i + k] = c at hg ⊢
   rcases b2 (isLetter c) with h2 | h2
   ·simp -implicitDefEqProofs only [l92_6, p92_7, wrap_nat (i + k) hb, h1, ix9 l (i + k) c hg, rletter_eq, h2, p92_10, nameFrom, wrap_nat (k + 1) hb1, SS, SU, Nat.reduceAdd, Nat.reduceLeDiff, Nat.reduceBEq, Nat.reduceMul]
    exact ih (k + 1) (by omega) (by omega)
   ·rcases b2 (decide (0 < k)) with h3 | h3
    ·rcases b2 (isDigit c) with h4 | h4
     ·simp -implicitDefEqProofs only [l92_6, p92_7, wrap_nat (i + k) hb, h1, ix9 l (i + k) c hg, rletter_eq, h2, h3, rdigit_eq, h4, p92_10, nameFrom, wrap_nat (k + 1) hb1, SS, SU, Nat.reduceAdd, Nat.reduceLeDiff, Nat.reduceBEq, Nat.reduceMul]
      exact ih (k + 1) (by omega) (by omega)
     ·simp -implicitDefEqProofs only [l92_6, p92_7, wrap_nat (i + k) hb, h1, ix9 l (i + k) c hg, rletter_eq, h2, h3, rdigit_eq, h4, p92_10, p92_3, nameFrom, Bool.false_eq_true, if_false, SS, SU, Nat.reduceAdd, Nat.reduceLeDiff, Nat.reduceBEq, Nat.reduceMul]
    ·simp -implicitDefEqProofs only [l92_6, p92_7, wrap_nat (i + k) hb, h1, ix9 l (i + k) c hg, rletter_eq, h2, h3, p92_10, p92_3, nameFrom, Bool.false_eq_true, if_false, SS, SU, Nat.reduceAdd, Nat.reduceLeDiff, Nat.reduceBEq, Nat.reduceMul]
  ·have : l.drop (i + k) = [] := List.drop_of_length_le (by have := of_decide_eq_false h1; omega)
   rw [this]
   simp -implicitDefEqProofs only [l92_6, p92_7, wrap_nat (i + k) hb, h1, p92_10, p92_3, nameFrom, SS, SU, Nat.reduceAdd, Nat.reduceLeDiff, Nat.reduceBEq, Nat.reduceMul]
theorem rname_eq (n : Nat) (hi : i ≤ l.length) (hl : l.length < 4611686018427387904) (hn : l.length < n) : cF (n + 2) 92 [.string (mkS l), .int .i64 (i : Int)] h = some (.ret (.int .i64 (nameFrom 0 (l.drop i) : Int)), h) := by
 rw [c92]
 exact rname_loop (h := h) (n + 1) hl hi n (n + 1) 0 (by omega) (by omega)
theorem rparam_eq (n : Nat) (marks : Bs) (hi : i ≤ l.length) (hl : l.length < 4611686018427387904) (hn : l.length < n) (hm : marks.length < n) (hm' : marks.length < 4611686018427387904) : cF (n + 3) 77 [.string (mkS l), .int .i64 (i : Int), .string (mkS marks)] h = some (.ret (.int .i64 (paramLen marks (l.drop i) : Int)), h) := by
 rw [c77]
 rcases b2 (nameFrom 0 (l.drop i) == 0) with h1 | h1
 ·have hn0 : nameFrom 0 (l.drop i) = 0 := by simpa using h1
  rcases b2 (decide (i < l.length)) with h2 | h2
  ·have hlt := of_decide_eq_true h2
   have hg := drop_get l i hlt
   have hd := List.drop_eq_getElem_cons hlt
   generalize l[i] = c at hg hd
   rcases b2 (isDigit c) with h3 | h3
   ·have hz : paramLen marks (l.drop i) = 1 := by unfold paramLen; rw [hn0, hd]; simp [h3]
    rw [hz]
    simp -implicitDefEqProofs only [f77, p77_0, rname_eq n hi hl hn, h1, h2, ix9 l i c hg, rdigit_eq, h3, p77_6, p77_3, SS, SU, Nat.reduceAdd, Nat.reduceLeDiff, Nat.reduceBEq, Nat.reduceMul]
    rfl
   ·rcases b2 (marks.contains c) with h4 | h4
    ·have hz : paramLen marks (l.drop i) = 1 := by unfold paramLen; rw [hn0, hd]; simp only [h3, h4]; rfl
     rw [hz]
     simp -implicitDefEqProofs only [f77, p77_0, rname_eq n hi hl hn, h1, h2, ix9 l i c hg, rdigit_eq, h3, rhas_eq (n + 1) marks c (by omega) hm', h4, p77_6, p77_3, SS, SU, Nat.reduceAdd, Nat.reduceLeDiff, Nat.reduceBEq, Nat.reduceMul]
     rfl
    ·have hz : paramLen marks (l.drop i) = 0 := by unfold paramLen; rw [hn0, hd]; simp only [h3, h4]; rfl
     rw [hz]
     simp -implicitDefEqProofs only [f77, p77_0, rname_eq n hi hl hn, h1, h2, ix9 l i c hg, rdigit_eq, h3, rhas_eq (n + 1) marks c (by omega) hm', h4, p77_6, p77_3, hn0, SS, SU, Nat.reduceAdd, Nat.reduceLeDiff, Nat.reduceBEq, Nat.reduceMul]
  ·have hd : l.drop i = [] := List.drop_of_length_le (by have := of_decide_eq_false h2; omega)
   have hz : paramLen marks (l.drop i) = nameFrom 0 (l.drop i) := by rw [hd]; rfl
   rw [hz]
   simp -implicitDefEqProofs only [f77, p77_0, rname_eq n hi hl hn, h1, h2, p77_6, p77_3, SS, SU, Nat.reduceAdd, Nat.reduceLeDiff, Nat.reduceBEq, Nat.reduceMul]
 ·have hz : paramLen marks (l.drop i) = nameFrom 0 (l.drop i) := by unfold paramLen; rw [h1]; rfl
  rw [hz]
  simp -implicitDefEqProofs only [f77, p77_0, rname_eq n hi hl hn, h1, p77_6, p77_3, SS, SU, Nat.reduceAdd, Nat.reduceLeDiff, Nat.reduceBEq, Nat.reduceMul]
theorem rstops_eq (n w : Nat) (c : UInt8) (hn : 8 ≤ n) : cF (n + 2) 50 [.int .u8 (c.toNat : Int), .int .i64 (w : Int)] h = some (.ret (.bool (ends w c)), h) := by
 rw [c50]
 have h0 : ((w : Int) == 0) = (w == 0) := n_eq w 0
 have h1 : ((w : Int) == 1) = (w == 1) := n_eq w 1
 have h2 : ((w : Int) == 2) = (w == 2) := n_eq w 2
 have e1 : ((c.toNat : Int) == 34) = (c == 34) := u8_eqn c 34 (by decide)
 have e2 : ((c.toNat : Int) == 125) = (c == 125) := u8_eqn c 125 (by decide)
 have e3 : ((c.toNat : Int) == 32) = (c == 32) := u8_eqn c 32 (by decide)
 have e4 : ((c.toNat : Int) == 9) = (c == 9) := u8_eqn c 9 (by decide)
 have e5 : ((c.toNat : Int) == 10) = (c == 10) := u8_eqn c 10 (by decide)
 unfold ends
 rcases b2 (w == 0) with g0 | g0
 ·have hc : ([32, 9, 10, 59, 38, 124, 40, 41, 60, 62] : Bs).contains c = (c == 32 || (c == 9 || (c == 10 || ([59, 38, 124, 40, 41, 60, 62] : Bs).contains c))) := by
   simp only [List.contains_cons]
  have hh := rhas_eq (h := h) n [59, 38, 124, 40, 41, 60, 62] c (by simp; omega) (by simp)
  rw [g0, if_pos rfl, hc]
  rcases b2 (c == 32) with q1 | q1
  ·simp -implicitDefEqProofs only [f50, p50_0, h0, g0, e3, q1, SS, SU, Nat.reduceAdd, Nat.reduceLeDiff, Nat.reduceBEq, Nat.reduceMul]
  ·rcases b2 (c == 9) with q2 | q2
   ·simp -implicitDefEqProofs only [f50, p50_0, h0, g0, e3, q1, e4, q2, SS, SU, Nat.reduceAdd, Nat.reduceLeDiff, Nat.reduceBEq, Nat.reduceMul]
   ·rcases b2 (c == 10) with q3 | q3
    ·simp -implicitDefEqProofs only [f50, p50_0, h0, g0, e3, q1, e4, q2, e5, q3, SS, SU, Nat.reduceAdd, Nat.reduceLeDiff, Nat.reduceBEq, Nat.reduceMul]
    ·simp -implicitDefEqProofs only [f50, p50_0, h0, g0, e3, q1, e4, q2, e5, q3, hh, SS, SU, Nat.reduceAdd, Nat.reduceLeDiff, Nat.reduceBEq, Nat.reduceMul]
 ·rcases b2 (w == 1) with g1 | g1
  ·simp -implicitDefEqProofs only [f50, p50_0, p50_10, h0, g0, h1, g1, e1, SS, SU, Nat.reduceAdd, Nat.reduceLeDiff, Nat.reduceBEq, Nat.reduceMul]; rfl
  ·rcases b2 (w == 2) with g2 | g2
   ·simp -implicitDefEqProofs only [f50, p50_0, p50_10, h0, g0, h1, g1, h2, g2, SS, SU, Nat.reduceAdd, Nat.reduceLeDiff, Nat.reduceBEq, Nat.reduceMul]; rfl
   ·simp -implicitDefEqProofs only [f50, p50_0, p50_10, h0, g0, h1, g1, h2, g2, e2, SS, SU, Nat.reduceAdd, Nat.reduceLeDiff, Nat.reduceBEq, Nat.reduceMul]; rfl
end Go.Proofs.YteekjekckgpbfaaDoor.Abs
end
section
namespace Go.Proofs.YteekjekckgpbfaaDoor.Abs
open Sp
attribute [local congr] bindO_congr bindR_congr condV_congr wp_congr
def BalQ (l : Bs) (i : Nat) (h : Heap) (x : Ans) (res : Option Bs) : Prop := match res with
 | none => x = some (.ret (.int .i64 (-1)), h)
 | some rest => ∃ j, rest = l.drop j ∧ j ≤ l.length ∧ i < j ∧ x = some (.ret (.int .i64 ((j - 1 : Nat) : Int)), h)
theorem BalQ.of {l : Bs} {i i' : Nat} {h : Heap} {x : Ans} {res : Option Bs} (hi : i ≤ i') (q : BalQ l i' h x res) : BalQ l i h x res := by
 cases res with
 | none => exact q
 | some r => obtain ⟨j, a, b, c, d⟩ := q; exact ⟨j, a, b, by omega, d⟩
theorem apos_loop {l : Bs} (hl : l.length < 4611686018427387904) {h : Heap} {n N : Nat} {d : Value} {F : Value → Value → Value → Heap → Ans} : ∀ (m k : Nat), k ≤ l.length → l.length < k + m →
  l76_21 (cF n) N F m (.string (mkS l)) (.int .i64 (k : Int)) d h = p76_12 (cF n) N F (.string (mkS l)) (.int .i64 ((match find 39 (l.drop k) with | none => l.length | some x => k + x : Nat) : Int)) d h := by
 intro m
 induction m with
 | zero => intro k hk hm; omega
 | succ m ih =>
  intro k hk hm
  rcases b2 (decide (k < l.length)) with h1 | h1
  ·have hlt := of_decide_eq_true h1
   have hg := drop_get l k hlt
   have hb : k + 1 < 9223372036854775808 := by omega
   rw [List.drop_eq_getElem_cons hlt]
   generalize l[k] = c at hg ⊢
   have e39 : ((c.toNat : Int) != 39) = (c != 39) := u8_nen c 39 (by decide)
   rcases b2 (c == 39) with g | g
   ·have g' : (c != 39) = false := by simp [bne, g]
    simp -implicitDefEqProofs only [l76_21, p76_22, h1, ix9 l k c hg, e39, g', find, g, if_true, Nat.add_zero, SS, SU, Nat.reduceAdd, Nat.reduceLeDiff, Nat.reduceBEq, Nat.reduceMul]
   ·have g' : (c != 39) = true := by simp [bne, g]
    have := ih (k + 1) (by omega) (by omega)
    simp -implicitDefEqProofs only [l76_21, p76_22, h1, ix9 l k c hg, e39, g', find, g, Bool.false_eq_true, if_false, wrap_nat (k + 1) hb, this, SS, SU, Nat.reduceAdd, Nat.reduceLeDiff, Nat.reduceBEq, Nat.reduceMul]
    cases hf : find 39 (l.drop (k + 1)) with
    | none => rfl
    | some x => simp only; rw [show k + 1 + x = k + (x + 1) by omega]
  ·have hge := of_decide_eq_false h1
   have hd : l.drop k = [] := List.drop_of_length_le (by omega)
   have hk : k = l.length := by omega
   rw [hd]
   simp -implicitDefEqProofs only [l76_21, p76_22, h1, find, SS, SU, Nat.reduceAdd, Nat.reduceLeDiff, Nat.reduceBEq, Nat.reduceMul]
   rw [hk]
theorem bal_both (l : Bs) (hl : l.length < 4611686018427387904) : ∀ (f : Nat),
  (∀ (d i : Nat) (res : Option Bs) (n N m : Nat) (h : Heap), closed f d (l.drop i) = some res → i ≤ l.length + 1 → f < m → l.length + 5 ≤ N → 3 * f + l.length + 20 ≤ n → 1 ≤ d → d + f < 4611686018427387904 →
   BalQ l i h (l76_6 (cF n) N m (.string (mkS l)) (.int .i64 (i : Int)) (.int .i64 (d : Int)) h) res) ∧
  (∀ (i : Nat) (res : Option Bs) (n N m : Nat) (h : Heap), closedQ f (l.drop i) = some res → i ≤ l.length + 1 → f < m → 3 * f + l.length + 20 ≤ n → f < 4611686018427387904 →
   BalQ l i h (l91_5 (cF n) N m (.string (mkS l)) (.int .i64 (i : Int)) h) res) := by
 intro f
 induction f with
 | zero => exact ⟨fun d i res n N m h hs => by simp [closed] at hs, fun i res n N m h hs => by simp [closedQ] at hs⟩
 | succ f ih =>
  constructor
  ·intro d i res n N m h hs hi hm hN hn hd hdf
   obtain ⟨m, rfl⟩ : ∃ m', m = m' + 1 := ⟨m - 1, by omega⟩
   obtain ⟨n, rfl⟩ : ∃ n', n = n' + 4 := ⟨n - 4, by omega⟩
   have hb1 : i + 1 < 9223372036854775808 := by omega
   have hb2 : i + 1 + 1 < 9223372036854775808 := by omega
   have hbd : d + 1 < 9223372036854775808 := by omega
   have hbd' : d - 1 < 9223372036854775808 := by omega
   rcases b2 (decide (i < l.length)) with h1 | h1
   ·have hlt := of_decide_eq_true h1
    have hg := drop_get l i hlt
    rw [List.drop_eq_getElem_cons hlt] at hs
    generalize l[i] = c at hs hg
    have e92 : ((c.toNat : Int) == 92) = (c == 92) := u8_eqn c 92 (by decide)
    have e39 : ((c.toNat : Int) == 39) = (c == 39) := u8_eqn c 39 (by decide)
    have e34 : ((c.toNat : Int) == 34) = (c == 34) := u8_eqn c 34 (by decide)
    have e40 : ((c.toNat : Int) == 40) = (c == 40) := u8_eqn c 40 (by decide)
    have e41 : ((c.toNat : Int) == 41) = (c == 41) := u8_eqn c 41 (by decide)
    simp only [closed] at hs
    rcases b2 (c == 92) with k1 | k1
    ·simp only [k1, if_true, List.drop_drop] at hs
     have hrec := ih.1 d (i + 1 + 1) res (n + 4) N m h hs (by omega) (by omega) hN (by omega) hd (by omega)
     simp -implicitDefEqProofs only [l76_6, p76_7, h1, ix9 l i c hg, p76_14, e92, k1, wrap_nat (i + 1) hb1, p76_12, wrap_nat (i + 1 + 1) hb2, SS, SU, Nat.reduceAdd, Nat.reduceLeDiff, Nat.reduceBEq, Nat.reduceMul]
     exact BalQ.of (by omega) hrec
    ·simp only [k1, Bool.false_eq_true, if_false] at hs
     rcases b2 (c == 39) with k2 | k2
     ·simp only [k2, if_true] at hs
      have hap := apos_loop hl (h := h) (n := n + 4) (N := N) (d := .int .i64 (d : Int)) (F := l76_6 (cF (n + 4)) N m) N (i + 1) (by omega) (by omega)
      simp -implicitDefEqProofs only [l76_6, p76_7, h1, ix9 l i c hg, p76_14, e92, k1, e39, k2, wrap_nat (i + 1) hb1, hap, SS, SU, Nat.reduceAdd, Nat.reduceLeDiff, Nat.reduceBEq, Nat.reduceMul]
      cases hf : find 39 (l.drop (i + 1)) with
      | none =>
       simp only [hf] at hs
       injection hs with hs; subst hs
       obtain ⟨m, rfl⟩ : ∃ m', m = m' + 1 := ⟨m - 1, by omega⟩
       have hb3 : l.length + 1 < 9223372036854775808 := by omega
       have hd3 : decide (l.length + 1 < l.length) = false := decide_eq_false (by omega)
       show _ = _
       simp -implicitDefEqProofs only [p76_12, wrap_nat (l.length + 1) hb3, l76_6, p76_7, hd3, p76_3, SS, SU, Nat.reduceAdd, Nat.reduceLeDiff, Nat.reduceBEq, Nat.reduceMul]
      | some k =>
       simp only [hf, List.drop_drop] at hs
       have hk := find_some hf
       simp only [List.length_drop] at hk
       have hb3 : i + 1 + k + 1 < 9223372036854775808 := by omega
       rw [show i + 1 + (k + 1) = i + 1 + k + 1 by omega] at hs
       have hrec := ih.1 d (i + 1 + k + 1) res (n + 4) N m h hs (by omega) (by omega) hN (by omega) hd (by omega)
       simp -implicitDefEqProofs only [p76_12, wrap_nat (i + 1 + k + 1) hb3, SS, SU, Nat.reduceAdd, Nat.reduceLeDiff, Nat.reduceBEq, Nat.reduceMul]
       exact BalQ.of (by omega) hrec
     ·simp only [k2, Bool.false_eq_true, if_false] at hs
      rcases b2 (c == 34) with k3 | k3
      ·simp only [k3, if_true] at hs
       cases hq : closedQ f (l.drop (i + 1)) with
       | none => simp [hq] at hs
       | some res1 =>
        simp only [hq] at hs
        have hcall := ih.2 (i + 1) res1 (n + 3) (n + 3) (n + 3) h hq (by omega) (by omega) (by omega) (by omega)
        have heq : cF (n + 4) 91 [.string (mkS l), .int .i64 ((i + 1 : Nat) : Int)] h = l91_5 (cF (n + 3)) (n + 3) (n + 3) (.string (mkS l)) (.int .i64 ((i + 1 : Nat) : Int)) h := by
         rw [c91]; rfl
        cases res1 with
        | none =>
         simp only at hs
         injection hs with hs; subst hs
         have hb : decide ((-1 : Int) < 0) = true := rfl
         have e := heq.trans hcall
         show _ = _
         simp -implicitDefEqProofs only [l76_6, p76_7, h1, ix9 l i c hg, p76_14, e92, k1, e39, k2, e34, k3, wrap_nat (i + 1) hb1, e, hb, SS, SU, Nat.reduceAdd, Nat.reduceLeDiff, Nat.reduceBEq, Nat.reduceMul]
        | some t' =>
         obtain ⟨j, rfl, hj, hij, e0⟩ := hcall
         simp only at hs
         have hb3 : j - 1 + 1 < 9223372036854775808 := by omega
         have hrec := ih.1 d j res (n + 4) N m h hs (by omega) (by omega) hN (by omega) hd (by omega)
         have e := heq.trans e0
         simp -implicitDefEqProofs only [l76_6, p76_7, h1, ix9 l i c hg, p76_14, e92, k1, e39, k2, e34, k3, wrap_nat (i + 1) hb1, e, p76_12, wrap_nat (j - 1 + 1) hb3, SS, SU, Nat.reduceAdd, Nat.reduceLeDiff, Nat.reduceBEq, Nat.reduceMul]
         rw [show j - 1 + 1 = j by omega]
         exact BalQ.of (by omega) hrec
      ·simp only [k3, Bool.false_eq_true, if_false] at hs
       rcases b2 (c == 40) with k4 | k4
       ·simp only [k4, if_true] at hs
        have hrec := ih.1 (d + 1) (i + 1) res (n + 4) N m h hs (by omega) (by omega) hN (by omega) (by omega) (by omega)
        simp -implicitDefEqProofs only [l76_6, p76_7, h1, ix9 l i c hg, p76_14, e92, k1, e39, k2, e34, k3, e40, k4, wrap_nat (d + 1) hbd, p76_12, wrap_nat (i + 1) hb1, SS, SU, Nat.reduceAdd, Nat.reduceLeDiff, Nat.reduceBEq, Nat.reduceMul]
        exact BalQ.of (by omega) hrec
       ·simp only [k4, Bool.false_eq_true, if_false] at hs
        rcases b2 (c == 41) with k5 | k5
        ·simp only [k5, if_true] at hs
         rcases b2 (d == 1) with k6 | k6
         ·simp only [k6, if_true] at hs
          have k7 : (d - 1 == 0) = true := by simp at k6 ⊢; omega
          injection hs with hs; subst hs
          refine ⟨i + 1, rfl, by omega, by omega, ?_⟩
          rw [show i + 1 - 1 = i by omega]
          simp -implicitDefEqProofs only [l76_6, p76_7, h1, ix9 l i c hg, p76_14, e92, k1, e39, k2, e34, k3, e40, k4, e41, k5, pull_sub1 d hd, wrap_nat (d - 1) hbd', k7, SS, SU, Nat.reduceAdd, Nat.reduceLeDiff, Nat.reduceBEq, Nat.reduceMul]
         ·simp only [k6, Bool.false_eq_true, if_false] at hs
          have k7 : (d - 1 == 0) = false := by simp at k6 ⊢; omega
          have k8 : 1 ≤ d - 1 := by simp at k7; omega
          have hrec := ih.1 (d - 1) (i + 1) res (n + 4) N m h hs (by omega) (by omega) hN (by omega) k8 (by omega)
          simp -implicitDefEqProofs only [l76_6, p76_7, h1, ix9 l i c hg, p76_14, e92, k1, e39, k2, e34, k3, e40, k4, e41, k5, pull_sub1 d hd, wrap_nat (d - 1) hbd', k7, p76_12, wrap_nat (i + 1) hb1, SS, SU, Nat.reduceAdd, Nat.reduceLeDiff, Nat.reduceBEq, Nat.reduceMul]
          exact BalQ.of (by omega) hrec
        ·simp only [k5, Bool.false_eq_true, if_false] at hs
         have hrec := ih.1 d (i + 1) res (n + 4) N m h hs (by omega) (by omega) hN (by omega) hd (by omega)
         simp -implicitDefEqProofs only [l76_6, p76_7, h1, ix9 l i c hg, p76_14, e92, k1, e39, k2, e34, k3, e40, k4, e41, k5, p76_12, wrap_nat (i + 1) hb1, SS, SU, Nat.reduceAdd, Nat.reduceLeDiff, Nat.reduceBEq, Nat.reduceMul]
         exact BalQ.of (by omega) hrec
   ·have hge := of_decide_eq_false h1
    have hd0 : l.drop i = [] := List.drop_of_length_le (by omega)
    rw [hd0] at hs
    simp only [closed] at hs
    injection hs with hs
    subst hs
    show _ = _
    simp -implicitDefEqProofs only [l76_6, p76_7, h1, p76_3, SS, SU, Nat.reduceAdd, Nat.reduceLeDiff, Nat.reduceBEq, Nat.reduceMul]
  ·intro i res n N m h hs hi hm hn hf
   obtain ⟨m, rfl⟩ : ∃ m', m = m' + 1 := ⟨m - 1, by omega⟩
   obtain ⟨n, rfl⟩ : ∃ n', n = n' + 4 := ⟨n - 4, by omega⟩
   have hb1 : i + 1 < 9223372036854775808 := by omega
   have hb2 : i + 1 + 1 < 9223372036854775808 := by omega
   have hb3 : i + 2 < 9223372036854775808 := by omega
   rcases b2 (decide (i < l.length)) with h1 | h1
   ·have hlt := of_decide_eq_true h1
    have hg := drop_get l i hlt
    have hdr := List.drop_eq_getElem_cons hlt
    rw [hdr] at hs
    generalize l[i] = c at hs hg hdr
    have e92 : ((c.toNat : Int) == 92) = (c == 92) := u8_eqn c 92 (by decide)
    have e34 : ((c.toNat : Int) == 34) = (c == 34) := u8_eqn c 34 (by decide)
    simp only [closedQ] at hs
    rcases b2 (c == 92) with k1 | k1
    ·simp only [k1, if_true, List.drop_drop] at hs
     have hrec := ih.2 (i + 1 + 1) res (n + 4) N m h hs (by omega) (by omega) (by omega) (by omega)
     simp -implicitDefEqProofs only [l91_5, p91_6, h1, ix9 l i c hg, e92, k1, p91_14, wrap_nat (i + 1) hb1, p91_11, wrap_nat (i + 1 + 1) hb2, SS, SU, Nat.reduceAdd, Nat.reduceLeDiff, Nat.reduceBEq, Nat.reduceMul]
     exact BalQ.of (by omega) hrec
    ·simp only [k1, Bool.false_eq_true, if_false] at hs
     rcases b2 (c == 34) with k2 | k2
     ·simp only [k2, if_true] at hs
      injection hs with hs; subst hs
      refine ⟨i + 1, rfl, by omega, by omega, ?_⟩
      rw [show i + 1 - 1 = i by omega]
      simp -implicitDefEqProofs only [l91_5, p91_6, h1, ix9 l i c hg, e92, k1, p91_14, e34, k2, SS, SU, Nat.reduceAdd, Nat.reduceLeDiff, Nat.reduceBEq, Nat.reduceMul]
     ·simp only [k2, Bool.false_eq_true, if_false] at hs
      have ea := rat_eq (h := h) (n + 3) [36, 40] (show i ≤ l.length by omega) (by simp; omega)
      rcases b2 (pre [36, 40] (c :: l.drop (i + 1))) with k3 | k3
      ·simp only [k3, if_true, List.drop_drop] at hs
       rw [← hdr] at k3
       cases hq : closed f 1 (l.drop (i + 1 + 1)) with
       | none => simp [hq] at hs
       | some res1 =>
        simp only [hq] at hs
        have hcall := ih.1 1 (i + 2) res1 (n + 3) (n + 3) (n + 3) h hq (by omega) (by omega) (by omega) (by omega) (by omega) (by omega)
        have heq : cF (n + 4) 76 [.string (mkS l), .int .i64 ((i + 2 : Nat) : Int)] h = l76_6 (cF (n + 3)) (n + 3) (n + 3) (.string (mkS l)) (.int .i64 ((i + 2 : Nat) : Int)) (.int .i64 ((1 : Nat) : Int)) h := by
         rw [c76]; rfl
        cases res1 with
        | none =>
         simp only at hs
         injection hs with hs; subst hs
         have hb : decide ((-1 : Int) < 0) = true := rfl
         have e := heq.trans hcall
         show _ = _
         simp -implicitDefEqProofs only [l91_5, p91_6, h1, ix9 l i c hg, e92, k1, p91_14, e34, k2, ea, k3, wrap_nat (i + 2) hb3, e, hb, SS, SU, Nat.reduceAdd, Nat.reduceLeDiff, Nat.reduceBEq, Nat.reduceMul]
        | some t' =>
         obtain ⟨j, rfl, hj, hij, e0⟩ := hcall
         simp only at hs
         have hb4 : j - 1 + 1 < 9223372036854775808 := by omega
         have hrec := ih.2 j res (n + 4) N m h hs (by omega) (by omega) (by omega) (by omega)
         have e := heq.trans e0
         simp -implicitDefEqProofs only [l91_5, p91_6, h1, ix9 l i c hg, e92, k1, p91_14, e34, k2, ea, k3, wrap_nat (i + 2) hb3, e, p91_11, wrap_nat (j - 1 + 1) hb4, SS, SU, Nat.reduceAdd, Nat.reduceLeDiff, Nat.reduceBEq, Nat.reduceMul]
         rw [show j - 1 + 1 = j by omega]
         exact BalQ.of (by omega) hrec
      ·simp only [k3, Bool.false_eq_true, if_false] at hs
       rw [← hdr] at k3
       have hrec := ih.2 (i + 1) res (n + 4) N m h hs (by omega) (by omega) (by omega) (by omega)
       simp -implicitDefEqProofs only [l91_5, p91_6, h1, ix9 l i c hg, e92, k1, p91_14, e34, k2, ea, k3, p91_11, wrap_nat (i + 1) hb1, SS, SU, Nat.reduceAdd, Nat.reduceLeDiff, Nat.reduceBEq, Nat.reduceMul]
       exact BalQ.of (by omega) hrec
   ·have hge := of_decide_eq_false h1
    have hd0 : l.drop i = [] := List.drop_of_length_le (by omega)
    rw [hd0] at hs
    simp only [closedQ] at hs
    injection hs with hs
    subst hs
    show _ = _
    simp -implicitDefEqProofs only [l91_5, p91_6, h1, p91_2, SS, SU, Nat.reduceAdd, Nat.reduceLeDiff, Nat.reduceBEq, Nat.reduceMul]
theorem rbalanced_eq {l : Bs} (hl : l.length ≤ 5000) {i f n : Nat} {h : Heap} {res : Option Bs} (hs : closed f 1 (l.drop i) = some res) (hi : i ≤ l.length + 1) (hf : f < 100000000) (hn : 3 * f + 5100 ≤ n) : BalQ l i h (cF n 76 [.string (mkS l), .int .i64 (i : Int)] h) res := by
 obtain ⟨n, rfl⟩ : ∃ n', n = n' + 1 := ⟨n - 1, by omega⟩
 have := (bal_both l (by omega) f).1 1 i res n n n h hs hi (by omega) (by omega) (by omega) (by omega) (by omega)
 have heq : cF (n + 1) 76 [.string (mkS l), .int .i64 (i : Int)] h = l76_6 (cF n) n n (.string (mkS l)) (.int .i64 (i : Int)) (.int .i64 ((1 : Nat) : Int)) h := by
  rw [c76]; rfl
 rw [heq]
 exact this
end Go.Proofs.YteekjekckgpbfaaDoor.Abs
end
section
namespace Go.Proofs.YteekjekckgpbfaaDoor.Abs
open Sp
attribute [local congr] bindO_congr bindR_congr condV_congr wp_congr
abbrev atV (c a : Nat) : Value := .agg ⟨[.int .i64 (c : Int), .int .i64 (a : Int)]⟩
abbrev zeroAt : Value := .agg ⟨[.int .i64 0, .int .i64 0]⟩
theorem rwrong_eq (n : Nat) (a : Nat) (h : Heap) : cF (n + 1) 28 [.int .i64 (a : Int)] h = some (.ret (.agg ⟨[.int .i64 19, .int .i64 (a : Int)]⟩), h.alloc (.cells ⟨29, [.int .i64 19, .int .i64 (a : Int)], true⟩)) := by
 have hset : ∀ cs cs', (h.alloc (.cells ⟨29, cs, true⟩)).set h.next (.cells ⟨29, cs', true⟩) = h.alloc (.cells ⟨29, cs', true⟩) := by
  intro cs cs'
  exact put_lx ⟨h.m, h.next + 1⟩ h.next (.cells ⟨29, cs, true⟩) (.cells ⟨29, cs', true⟩)
 have hal : ∀ cs, (h.alloc (.cells ⟨29, cs, true⟩)).blk h.next = some ⟨29, cs, true⟩ := fun cs => blk_alloc_eq
 rw [c28]
 simp -implicitDefEqProofs only [f28, hal, hset, SS, SU, Nat.reduceAdd, Nat.reduceLeDiff, Nat.reduceBEq, Nat.reduceMul]
structure Rf (h0 h : Heap) (t8 t10 : Nat) : Prop where
 a : h.blk t8 = some ⟨49, [.int .i64 0, .string (mkS []), .string (mkS []), .bool false, .slice none 0 0, .pointer none], true⟩
 b : h.blk t10 = some ⟨29, [.int .i64 0, .int .i64 0], true⟩
 c : h0.next ≤ t8
 d : t8 < t10
 u : Un h0.next h0 h
theorem Rf.un {h0 h h' : Heap} {t8 t10 : Nat} (r : Rf h0 h t8 t10) (u : Un h.next h h') : Rf h0 h' t8 t10 :=
 ⟨(u.2 _ (Heap.blk_lt r.a)).trans r.a, (u.2 _ (Heap.blk_lt r.b)).trans r.b, r.c, r.d, ⟨Nat.le_trans r.u.1 u.1, fun b hb => (u.2 b (Nat.lt_of_lt_of_le hb r.u.1)).trans (r.u.2 b hb)⟩⟩
theorem un_alloc (h : Heap) (o : AObj) : Un h.next h (h.alloc o) := Un.alloc h o (Nat.le_refl _)
theorem un_new {h h1 : Heap} {b : Nat} (u : Un h.next h h1) (hb : h.next ≤ b) (o : AObj) : Un h.next h (h1.set b o) := u.trans (Un.set h1 o hb)
theorem un_trans {h h1 h2 : Heap} (u : Un h.next h h1) (k : Un h1.next h1 h2) : Un h.next h h2 := ⟨Nat.le_trans u.1 k.1, fun b hb => (k.2 b (Nat.lt_of_lt_of_le hb u.1)).trans (u.2 b hb)⟩
section
variable {h0 h : Heap} {t8 t10 : Nat}
theorem Rf.r1 (r : Rf h0 h t8 t10) (vs : List Value) : (h.set t8 (.cells ⟨49, vs, true⟩)).blk t10 = some ⟨29, [.int .i64 0, .int .i64 0], true⟩ := (blk_set_ne (by have := r.d; omega)).trans r.b
theorem Rf.r2 (r : Rf h0 h t8 t10) (vs ws : List Value) : ((h.set t8 (.cells ⟨49, vs, true⟩)).set t10 (.cells ⟨29, ws, true⟩)).blk t8 = some ⟨49, vs, true⟩ := (blk_set_ne (by have := r.d; omega)).trans (blk_set_eq (Heap.blk_lt r.a))
theorem Rf.r3 (r : Rf h0 h t8 t10) (vs ws : List Value) : ((h.set t8 (.cells ⟨49, vs, true⟩)).set t10 (.cells ⟨29, ws, true⟩)).blk t10 = some ⟨29, ws, true⟩ := blk_set_eq (by rw [next_set]; exact Heap.blk_lt r.b)
theorem Rf.done (r : Rf h0 h t8 t10) (vs ws : List Value) : Un h0.next h0 ((h.set t8 (.cells ⟨49, vs, true⟩)).set t10 (.cells ⟨29, ws, true⟩)) := un_new (un_new r.u r.c _) (by have := r.c; have := r.d; omega) _
theorem Rf.rep (r : Rf h0 h t8 t10) {A : Nat → Prop} {v : Value} {ps : List Part} {lo : Nat} (hA : ∀ b, A b → h0.next ≤ b ∧ b ≠ t8 ∧ b ≠ t10) (k : RepW h.blk A v ps) (vs ws : List Value) : RepW ((h.set t8 (.cells ⟨49, vs, true⟩)).set t10 (.cells ⟨29, ws, true⟩)).blk (h0.next ≤ ·) v ps :=
 k.mono fun b y a e => ⟨(hA b a).1, (blk_set_ne (hA b a).2.2).trans ((blk_set_ne (hA b a).2.1).trans e)⟩
end
def RDQ (h : Heap) (l : Bs) (i : Nat) (res : Rz (Option Part × Nat × Bs)) (r : Res) (h' : Heap) : Prop := Un h.next h h' ∧ match res with
 | .ok (some x, j, r') => ∃ v, r = .ret (.tuple ⟨[v, .int .i64 ((j - i : Nat) : Int), zeroAt]⟩) ∧ PartV h'.blk (h.next ≤ ·) v x ∧ j ≤ l.length ∧ r' = l.drop j ∧ i < j
 | .ok (none, j, r') => r = .ret (.tuple ⟨[zeroPart, .int .i64 0, zeroAt]⟩) ∧ j = i + 1 ∧ j ≤ l.length ∧ r' = l.drop j
 | .bad c a => r = .ret (.tuple ⟨[zeroPart, .int .i64 0, atV c a]⟩) ∧ 0 < c
def RPQ (h : Heap) (l : Bs) (i : Nat) (k0 : Nat) (res : Rz (List Part × Nat × Bs)) (r : Res) (h' : Heap) : Prop := Un h.next h h' ∧ match res with
 | .ok (ps, j, r') => ∃ v, r = .ret (.tuple ⟨[v, .int .i64 (j : Int), zeroAt]⟩) ∧ RepW h'.blk (h.next ≤ ·) v ps ∧ j ≤ l.length ∧ r' = l.drop j ∧ i ≤ j ∧ ps.length ≤ k0 + (j - i)
 | .bad c a => (∃ e : Int, r = .ret (.tuple ⟨[.slice none 0 0, .int .i64 e, atV c a]⟩)) ∧ 0 < c
def RPartsOk (l : Bs) (f : Nat) : Prop := ∀ (w deep i : Nat) (res : Rz (List Part × Nat × Bs)) (n : Nat) (h : Heap), parts f w deep [] [] i (l.drop i) = some res → i ≤ l.length → w ≤ 4 → deep ≤ 20 → 6 * f + 12012 ≤ n →
 wp (cF n 29 [.string (mkS l), .int .i64 (i : Int), .int .i64 (w : Int), .int .i64 (deep : Int)] h) (RPQ h l i 0 res)
def RDollarOk (l : Bs) (f : Nat) : Prop := ∀ (w deep i : Nat) (res : Rz (Option Part × Nat × Bs)) (n : Nat) (h : Heap), dollar f w deep i (l.drop i) = some res → i < l.length → l[i]? = some 36 → w ≤ 4 → deep ≤ 20 → 6 * f + 12012 ≤ n →
 wp (cF n 51 [.string (mkS l), .int .i64 (i : Int), .int .i64 (w : Int), .int .i64 (deep : Int)] h) (RDQ h l i res)
theorem rops_eq (n : Nat) (h : Heap) : cF (n + 1) 78 [] h = some (.ret (.slice (some ⟨h.next, 0, none⟩) 12 12), h.alloc (.cells ⟨9, strs opsL, true⟩)) := by kernel_rfl
section
variable {l : Bs}
theorem rd38 (hl : l.length ≤ 5000) {f : Nat} (hf : f < 100000000) (ih : RPartsOk l f) {h0 h : Heap} {t8 t10 t17 n N w inner deep i j : Nat} {t o : Bs} {rp : Rz (List Part × Nat × Bs)} (rf : Rf h0 h t8 t10) (h17 : PtB h t17 2 t o (inQ w) (.slice none 0 0)) (ht : t10 < t17) (hij : i < j) (hj : j + o.length ≤ l.length)
  (hs : parts f inner (deep + 1) [] [] (j + o.length) (l.drop (j + o.length)) = some rp) (hin : inner ≤ 4) (hd : deep < 20) (hn : 6 * f + 12020 ≤ n) :
  wp (p51_38 (cF n) N (.string (mkS l)) (.int .i64 (i : Int)) (.int .i64 (deep : Int)) (Pt t8) (Pt t10) (.int .i64 (j : Int)) (Pt t17) (.int .i64 (inner : Int)) h) (RDQ h0 l i (match bracesEnd i t o (inQ w) rp with | .ok (x, a, b) => .ok (some x, a, b) | .bad c a => .bad c a)) := by
 have hb1 : j + o.length < 9223372036854775808 := by omega
 have hb2 : deep + 1 < 9223372036854775808 := by omega
 have hcall := ih inner (deep + 1) (j + o.length) rp n h hs hj hin (by omega) (by omega)
 have h17' : h.blk t17 = some ⟨49, [.int .i64 2, .string (mkS t), .string (mkS o), .bool (inQ w), .slice none 0 0, .pointer none], true⟩ := h17
 obtain ⟨n, rfl⟩ : ∃ n', n = n' + 4 := ⟨n - 4, by omega⟩
 simp -implicitDefEqProofs only [p51_38, h17', wrap_nat (j + o.length) hb1, wrap_nat (deep + 1) hb2, SS, SU, Nat.reduceAdd, Nat.reduceLeDiff, Nat.reduceBEq, Nat.reduceMul]
 refine wp_bindR hcall ?_ ?_
 ·intro v h2 q
  obtain ⟨u2, q⟩ := q
  have rf2 := rf.un u2
  have hset : ∀ cs cs', (h2.alloc (.cells ⟨29, cs, true⟩)).set h2.next (.cells ⟨29, cs', true⟩) = h2.alloc (.cells ⟨29, cs', true⟩) := by
   intro cs cs'
   exact put_lx ⟨h2.m, h2.next + 1⟩ h2.next (.cells ⟨29, cs, true⟩) (.cells ⟨29, cs', true⟩)
  have hal : ∀ cs, (h2.alloc (.cells ⟨29, cs, true⟩)).blk h2.next = some ⟨29, cs, true⟩ := fun cs => blk_alloc_eq
  have h172 := (u2.2 _ (Heap.blk_lt h17')).trans h17'
  have ht17 : t17 < h.next := Heap.blk_lt h17'
  have hhn := u2.1
  cases rp with
  | bad c a =>
   obtain ⟨⟨e, he⟩, hc⟩ := q
   injection he with he; subst he
   have hne : ((c : Int) != 0) = true := by rw [n_ne0]; simp; omega
   have rf3 := rf2.un (un_alloc h2 (.cells ⟨29, [.int .i64 (c : Int), .int .i64 (a : Int)], true⟩))
   have hcs : ((h2.alloc (.cells ⟨29, [.int .i64 (c : Int), .int .i64 (a : Int)], true⟩)).set t8 (.cells ⟨49, [.int .i64 0, .string (mkS []), .string (mkS []), .bool false, .slice none 0 0, .pointer none], true⟩)).blk h2.next = some ⟨29, [.int .i64 (c : Int), .int .i64 (a : Int)], true⟩ := (blk_set_ne (by have := rf2.d; have := Heap.blk_lt rf2.b; omega)).trans blk_alloc_eq
   have heq : eqOV (some (.agg ⟨[.int .i64 (c : Int), .int .i64 (a : Int)]⟩)) (.agg ⟨[.int .i64 (c : Int), .int .i64 (a : Int)]⟩) = true := by simp [eqOV, eqV, eqVL, eqV1]
   have hnz : (c != 0) = true := by simp; omega
   simp -implicitDefEqProofs only [hal, hset, hnz, rf3.a, hcs, heq, rf3.b, rf3.r1, rf3.r2, rf3.r3, SS, SU, Nat.reduceAdd, Nat.reduceLeDiff, Nat.reduceBEq, Nat.reduceMul]
   exact wp_some.2 ⟨rf3.done _ _, rfl, hc⟩
  | ok y =>
   obtain ⟨ws, jj, r'⟩ := y
   obtain ⟨v', he, hv, hjj, rfl, hij2, _⟩ := q
   injection he with he; subst he
   obtain ⟨va, vn, vc, rfl⟩ := hv.one
   have rf3 := rf2.un (un_alloc h2 (.cells ⟨29, [.int .i64 0, .int .i64 0], true⟩))
   have hz : ((0 : Nat) != 0) = false := rfl
   have hz0 : ((0 : Int) != 0) = false := rfl
   have ea := rat_eq (h := h2.alloc (.cells ⟨29, [.int .i64 0, .int .i64 0], true⟩)) (n + 3) [125] hjj (by simp; omega)
   have h173 : (h2.alloc (.cells ⟨29, [.int .i64 0, .int .i64 0], true⟩)).blk t17 = some ⟨49, [.int .i64 2, .string (mkS t), .string (mkS o), .bool (inQ w), .slice none 0 0, .pointer none], true⟩ := (blk_alloc_lt (by omega)).trans h172
   have hv3 : RepW (h2.alloc (.cells ⟨29, [.int .i64 0, .int .i64 0], true⟩)).blk (h.next ≤ ·) (.slice va vn vc) ws := hv.mono fun b y a e => ⟨a, (blk_alloc_lt (Heap.blk_lt e)).trans e⟩
   simp -implicitDefEqProofs only [hal, hset, hz0, ea, SS, SU, Nat.reduceAdd, Nat.reduceLeDiff, Nat.reduceBEq, Nat.reduceMul]
   generalize h2.alloc (.cells ⟨29, [.int .i64 0, .int .i64 0], true⟩) = h3 at *
   unfold bracesEnd
   rcases b2 (pre [125] (l.drop jj)) with g | g
   ·have hj2 := pre_i g hjj
    simp only [List.length_cons, List.length_nil] at hj2
    have hb3 : jj + 1 < 9223372036854775808 := by omega
    have hb4 : jj + 1 - i < 9223372036854775808 := by omega
    have h174 : (h3.set t17 (.cells ⟨49, [.int .i64 2, .string (mkS t), .string (mkS o), .bool (inQ w), .slice va vn vc, .pointer none], true⟩)).blk t17 = some ⟨49, [.int .i64 2, .string (mkS t), .string (mkS o), .bool (inQ w), .slice va vn vc, .pointer none], true⟩ := blk_set_eq (Heap.blk_lt h173)
    have rf4 : Rf h0 (h3.set t17 (.cells ⟨49, [.int .i64 2, .string (mkS t), .string (mkS o), .bool (inQ w), .slice va vn vc, .pointer none], true⟩)) t8 t10 := ⟨(blk_set_ne (by have := rf.d; omega)).trans rf3.a, (blk_set_ne (by omega)).trans rf3.b, rf3.c, rf3.d, un_new rf3.u (by have := rf.c; have := rf.d; omega) _⟩
    have hv4 : RepW (h3.set t17 (.cells ⟨49, [.int .i64 2, .string (mkS t), .string (mkS o), .bool (inQ w), .slice va vn vc, .pointer none], true⟩)).blk (h.next ≤ ·) (.slice va vn vc) ws := hv3.mono fun b y a e => ⟨a, (blk_set_ne (by have a' : h.next ≤ b := a; omega)).trans e⟩
    have hsub := pull_sub (jj + 1) i (by omega)
    simp -implicitDefEqProofs only [g, p51_49, p51_45, h173, h174, wrap_nat (jj + 1) hb3, hsub, wrap_nat (jj + 1 - i) hb4, rf4.a, rf4.b, rf4.r1, rf4.r2, rf4.r3, SS, SU, Nat.reduceAdd, Nat.reduceLeDiff, Nat.reduceBEq, Nat.reduceMul]
    refine wp_some.2 ⟨rf4.done _ _, _, rfl, ⟨_, rfl, rf4.rep (lo := 0) (A := (h.next ≤ ·)) (fun b hb => ?_) hv4 _ _⟩, hj2, by rw [List.drop_drop], by omega⟩
    have hb' : h.next ≤ b := hb
    have := rf.u.1
    have := Heap.blk_lt rf.b
    have := rf.d
    exact ⟨by omega, by omega, by omega⟩
   ·have rf4 := rf3.un (un_alloc h3 (.cells ⟨29, [.int .i64 19, .int .i64 (i : Int)], true⟩))
    simp -implicitDefEqProofs only [g, p51_49, rwrong_eq (n + 3), rf4.a, rf4.b, rf4.r1, rf4.r2, rf4.r3, SS, SU, Nat.reduceAdd, Nat.reduceLeDiff, Nat.reduceBEq, Nat.reduceMul]
    exact wp_some.2 ⟨rf4.done _ _, rfl, by omega⟩
 ·intro v h2 q
  cases rp with
  | bad c a => obtain ⟨_, ⟨e, he⟩, _⟩ := q; cases he
  | ok y => obtain ⟨ws, jj, r'⟩ := y; obtain ⟨_, v', he, _⟩ := q; cases he
theorem opsL_ne : ∀ {r : Bs} {k : Nat} {o : Bs}, first opsL r = some (k, o) → (o == []) = false := by
 intro r k o h
 have hm := List.mem_of_getElem? (first_pre h).2
 have hall : opsL.all (fun o => !(o == [])) = true := by decide
 rw [List.all_eq_true] at hall
 have := hall o hm
 simpa using this
theorem first_drop {os : List Bs} {j : Nat} {x : Bs} (hg : os[j]? = some x) (r : Bs) : first (os.drop j) r = if pre x r then some (0, x) else match first (os.drop (j + 1)) r with | none => none | some (k, y) => some (k + 1, y) := by
 have hlt : j < os.length := by
  rcases Nat.lt_or_ge j os.length with h | h
  ·exact h
  ·simp [h] at hg
 have hd : os.drop j = x :: os.drop (j + 1) := by
  rw [List.drop_eq_getElem_cons hlt]
  simp [hlt] at hg
  rw [hg]
 rw [hd]; rfl
theorem rops_loop (hl : l.length ≤ 5000) {h : Heap} {t8 t10 t17 sb n N i deep j : Nat} {b : Bool} {t : Bs} {q : Bool} (hj : j ≤ l.length) (h17 : h.blk t17 = some ⟨49, [.int .i64 2, .string (mkS t), .string (mkS []), .bool q, .slice none 0 0, .pointer none], true⟩) (hsb : h.blk sb = some ⟨9, strs opsL, true⟩) (hne : sb ≠ t17) : ∀ (m jx : Nat), jx ≤ 12 → 13 < jx + m →
  l51_56 (cF (n + 2)) N m (.string (mkS l)) (.int .i64 (i : Int)) (.int .i64 (deep : Int)) (Pt t8) (Pt t10) (.bool b) (.int .i64 (j : Int)) (Pt t17) (.slice (some ⟨sb, 0, none⟩) 12 12) (.int .i64 (jx : Int)) h =
   match first (opsL.drop jx) (l.drop j) with
   | none => p51_31 (cF (n + 2)) N (.string (mkS l)) (.int .i64 (i : Int)) (.int .i64 (deep : Int)) (Pt t8) (Pt t10) (.bool b) (.int .i64 (j : Int)) (Pt t17) h
   | some (_, o) => p51_31 (cF (n + 2)) N (.string (mkS l)) (.int .i64 (i : Int)) (.int .i64 (deep : Int)) (Pt t8) (Pt t10) (.bool b) (.int .i64 (j : Int)) (Pt t17) (h.set t17 (.cells ⟨49, [.int .i64 2, .string (mkS t), .string (mkS o), .bool q, .slice none 0 0, .pointer none], true⟩)) := by
 intro m
 induction m with
 | zero => intro jx h1 h2; omega
 | succ m ih =>
  intro jx hjx hm
  have e0 : (([] : Bs) == []) = true := rfl
  rcases b2 (decide (jx < 12)) with g | g
  ·have hlt := of_decide_eq_true g
   have hlen : jx < opsL.length := hlt
   have hg : opsL[jx]? = some opsL[jx] := by simp [hlen]
   have hb : jx + 1 < 9223372036854775808 := by omega
   have hle2 : (opsL[jx]).length ≤ 2 := by
    have hall : opsL.all (fun o => decide (o.length ≤ 2)) = true := by decide
    rw [List.all_eq_true] at hall
    have := hall _ (List.getElem_mem hlen)
    simpa using this
   have hne0 : (opsL[jx] == []) = false := by
    have hall : opsL.all (fun o => !(o == [])) = true := by decide
    rw [List.all_eq_true] at hall
    have := hall _ (List.getElem_mem hlen)
    simpa using this
   rw [first_drop hg]
   generalize opsL[jx] = o at hg hle2 hne0 ⊢
   have ea := rat_eq (h := h) (n + 1) o hj (by omega)
   have hia := ia40 sb 0 12 12 jx hlt
   have hget := strs_get opsL jx o hg
   rcases b2 (pre o (l.drop j)) with g2 | g2
   ·obtain ⟨m, rfl⟩ : ∃ m', m = m' + 1 := ⟨m - 1, by omega⟩
    have h17' : (h.set t17 (.cells ⟨49, [.int .i64 2, .string (mkS t), .string (mkS o), .bool q, .slice none 0 0, .pointer none], true⟩)).blk t17 = some ⟨49, [.int .i64 2, .string (mkS t), .string (mkS o), .bool q, .slice none 0 0, .pointer none], true⟩ := blk_set_eq (Heap.blk_lt h17)
    simp -implicitDefEqProofs only [l51_56, p51_57, g, h17, e0, hia, hsb, Nat.mul_one, hget, ea, g2, p51_64, p51_61, wrap_nat (jx + 1) hb, h17', hne0, if_true, SS, SU, Nat.reduceAdd, Nat.reduceLeDiff, Nat.reduceBEq, Nat.reduceMul]
    rcases b2 (decide (jx + 1 < 12)) with g3 | g3
    ·simp -implicitDefEqProofs only [g3, h17', hne0, SS, SU, Nat.reduceAdd, Nat.reduceLeDiff, Nat.reduceBEq, Nat.reduceMul]
    ·simp -implicitDefEqProofs only [g3, SS, SU, Nat.reduceAdd, Nat.reduceLeDiff, Nat.reduceBEq, Nat.reduceMul]
   ·have := ih (jx + 1) (by omega) (by omega)
    simp -implicitDefEqProofs only [l51_56, p51_57, g, h17, e0, hia, hsb, Nat.mul_one, hget, ea, g2, p51_64, p51_61, wrap_nat (jx + 1) hb, this, Bool.false_eq_true, if_false, SS, SU, Nat.reduceAdd, Nat.reduceLeDiff, Nat.reduceBEq, Nat.reduceMul]
    cases first (opsL.drop (jx + 1)) (l.drop j) with
    | none => rfl
    | some x => rfl
  ·have hge := of_decide_eq_false g
   have hd : opsL.drop jx = [] := List.drop_of_length_le (by show 12 ≤ jx; omega)
   rw [hd]
   simp -implicitDefEqProofs only [l51_56, p51_57, g, first, SS, SU, Nat.reduceAdd, Nat.reduceLeDiff, Nat.reduceBEq, Nat.reduceMul]
def brToDollar (x : Rz (Part × Nat × Bs)) : Rz (Option Part × Nat × Bs) := match x with | .ok (x, a, b) => .ok (some x, a, b) | .bad c a => .bad c a
theorem rd24 (hl : l.length ≤ 5000) {f : Nat} (hf : f < 100000000) (ih : RPartsOk l f) {h0 h : Heap} {t8 t10 t17 n N w deep i j : Nat} {t : Bs} {res : Rz (Part × Nat × Bs)} (rf : Rf h0 h t8 t10) (h17 : PtB h t17 2 t [] (inQ w) (.slice none 0 0)) (ht : t10 < t17) (hij : i < j) (hj : j ≤ l.length) (hN : 20 ≤ N) (hd : deep < 20) (hn : 6 * f + 12020 ≤ n)
  (hs : (if pre [125] (l.drop j) then some (.ok ((⟨2, t, [], inQ w, []⟩ : Part), j + 1, l.drop (j + 1))) else match opsL.find? (fun o => pre o (l.drop j)) with
   | none => some (.bad 19 i)
   | some o => match parts f (if inQ w then 4 else 3) (deep + 1) [] [] (j + o.length) (l.drop (j + o.length)) with
    | none => none
    | some (.bad a b) => some (.bad a b)
    | some (.ok (ws, i', r')) => if pre [125] r' then some (.ok (⟨2, t, o, inQ w, ws⟩, i' + 1, r'.drop 1)) else some (.bad 19 i)) = some res) :
  wp (p51_24 (cF n) N (.string (mkS l)) (.int .i64 (i : Int)) (.int .i64 (deep : Int)) (Pt t8) (Pt t10) (.bool (inQ w)) (.int .i64 (j : Int)) (Pt t17) h) (RDQ h0 l i (brToDollar res)) := by
 obtain ⟨n, rfl⟩ : ∃ n', n = n' + 4 := ⟨n - 4, by omega⟩
 have ea := rat_eq (h := h) (n + 3) [125] hj (by simp; omega)
 have h17' : h.blk t17 = some ⟨49, [.int .i64 2, .string (mkS t), .string (mkS []), .bool (inQ w), .slice none 0 0, .pointer none], true⟩ := h17
 rcases b2 (pre [125] (l.drop j)) with g | g
 ·simp only [g, if_true] at hs
  injection hs with hs; subst hs
  have hj2 := pre_i g hj
  simp only [List.length_cons, List.length_nil] at hj2
  have hb1 : j + 1 < 9223372036854775808 := by omega
  have hb2 : j + 1 - i < 9223372036854775808 := by omega
  have hsub := pull_sub (j + 1) i (by omega)
  simp -implicitDefEqProofs only [p51_24, ea, g, h17', wrap_nat (j + 1) hb1, hsub, wrap_nat (j + 1 - i) hb2, rf.a, rf.b, rf.r1, rf.r2, rf.r3, SS, SU, Nat.reduceAdd, Nat.reduceLeDiff, Nat.reduceBEq, Nat.reduceMul]
  exact wp_some.2 ⟨rf.done _ _, _, rfl, ⟨_, rfl, .nil⟩, hj2, rfl, by omega⟩
 ·simp only [g, Bool.false_eq_true, if_false, first_find] at hs
  have rf2 := rf.un (un_alloc h (.cells ⟨9, strs opsL, true⟩))
  have h172 : (h.alloc (.cells ⟨9, strs opsL, true⟩)).blk t17 = some ⟨49, [.int .i64 2, .string (mkS t), .string (mkS []), .bool (inQ w), .slice none 0 0, .pointer none], true⟩ := (blk_alloc_lt (Heap.blk_lt h17')).trans h17'
  have hsb : (h.alloc (.cells ⟨9, strs opsL, true⟩)).blk h.next = some ⟨9, strs opsL, true⟩ := blk_alloc_eq
  have hlt17 := Heap.blk_lt h17'
  have hloop := rops_loop (N := N) (i := i) (deep := deep) (t8 := t8) (t10 := t10) (b := inQ w) (n := n + 2) hl hj h172 hsb (by omega) N 0 (by omega) (by omega)
  rw [List.drop_zero] at hloop
  have ec : ((0 : Nat) : Int) = 0 := rfl
  rw [ec] at hloop
  have e0 : (([] : Bs) == []) = true := rfl
  simp -implicitDefEqProofs only [p51_24, ea, g, rops_eq (n + 3), p51_55, hloop, SS, SU, Nat.reduceAdd, Nat.reduceLeDiff, Nat.reduceBEq, Nat.reduceMul]
  generalize h.alloc (.cells ⟨9, strs opsL, true⟩) = h2 at *
  cases hfi : first opsL (l.drop j) with
  | none =>
   simp only [hfi, Option.map] at hs
   injection hs with hs; subst hs
   have rf3 := rf2.un (un_alloc h2 (.cells ⟨29, [.int .i64 19, .int .i64 (i : Int)], true⟩))
   simp -implicitDefEqProofs only [p51_31, h172, e0, rwrong_eq (n + 3), rf3.a, rf3.b, rf3.r1, rf3.r2, rf3.r3, SS, SU, Nat.reduceAdd, Nat.reduceLeDiff, Nat.reduceBEq, Nat.reduceMul]
   exact wp_some.2 ⟨rf3.done _ _, rfl, by omega⟩
  | some x =>
   obtain ⟨k, o⟩ := x
   simp only [hfi, Option.map] at hs
   have ho := (opsL_len hfi).2
   have hne0 := opsL_ne hfi
   have hj2 := pre_i (first_pre hfi).1 hj
   have rf3 : Rf h0 (h2.set t17 (.cells ⟨49, [.int .i64 2, .string (mkS t), .string (mkS o), .bool (inQ w), .slice none 0 0, .pointer none], true⟩)) t8 t10 := ⟨(blk_set_ne (by have := rf.d; omega)).trans rf2.a, (blk_set_ne (by omega)).trans rf2.b, rf2.c, rf2.d, un_new rf2.u (by have := rf.c; have := rf.d; omega) _⟩
   have h173 : (h2.set t17 (.cells ⟨49, [.int .i64 2, .string (mkS t), .string (mkS o), .bool (inQ w), .slice none 0 0, .pointer none], true⟩)).blk t17 = some ⟨49, [.int .i64 2, .string (mkS t), .string (mkS o), .bool (inQ w), .slice none 0 0, .pointer none], true⟩ := blk_set_eq (Heap.blk_lt h172)
   have h173p : PtB (h2.set t17 (.cells ⟨49, [.int .i64 2, .string (mkS t), .string (mkS o), .bool (inQ w), .slice none 0 0, .pointer none], true⟩)) t17 2 t o (inQ w) (.slice none 0 0) := h173
   simp -implicitDefEqProofs only [p51_31, h173, hne0, SS, SU, Nat.reduceAdd, Nat.reduceLeDiff, Nat.reduceBEq, Nat.reduceMul]
   generalize h2.set t17 (.cells ⟨49, [.int .i64 2, .string (mkS t), .string (mkS o), .bool (inQ w), .slice none 0 0, .pointer none], true⟩) = h3 at *
   cases hpt : parts f (if inQ w then 4 else 3) (deep + 1) [] [] (j + o.length) (l.drop (j + o.length)) with
   | none => simp [hpt] at hs
   | some rp =>
    simp only [hpt] at hs
    have hres : res = bracesEnd i t o (inQ w) rp := by
     unfold bracesEnd
     cases rp with
     | bad a b => simpa using hs.symm
     | ok x =>
      obtain ⟨ws, i', r'⟩ := x
      simp only at hs ⊢
      rcases b2 (pre [125] r') with hc | hc
      ·rw [if_pos hc] at hs ⊢; exact (Option.some.inj hs).symm
      ·rw [if_neg (by rw [hc]; decide)] at hs ⊢; exact (Option.some.inj hs).symm
    rw [hres]
    rcases b2 (inQ w) with qq | qq
    ·simp only [qq, if_true] at hpt
     have := rd38 (w := w) (N := N) (inner := 4) hl hf ih rf3 h173p ht hij hj2 hpt (by omega) hd (show 6 * f + 12020 ≤ n + 4 by omega)
     simp -implicitDefEqProofs only [qq, SS, SU, Nat.reduceAdd, Nat.reduceLeDiff, Nat.reduceBEq, Nat.reduceMul]
     rw [qq] at this
     exact this
    ·simp only [qq, Bool.false_eq_true, if_false] at hpt
     have := rd38 (w := w) (N := N) (inner := 3) hl hf ih rf3 h173p ht hij hj2 hpt (by omega) hd (show 6 * f + 12020 ≤ n + 4 by omega)
     simp -implicitDefEqProofs only [qq, SS, SU, Nat.reduceAdd, Nat.reduceLeDiff, Nat.reduceBEq, Nat.reduceMul]
     rw [qq] at this
     exact this
theorem rd16 (hl : l.length ≤ 5000) {f : Nat} (hf : f < 100000000) (ih : RPartsOk l f) {h0 h : Heap} {t8 t10 n N w deep i j : Nat} {res : Rz (Part × Nat × Bs)} (rf : Rf h0 h t8 t10) (hij : i < j) (hj : j ≤ l.length) (hN : 20 ≤ N) (hd : deep < 20) (hn : 6 * f + 12020 ≤ n)
  (hs : (if paramLen [63, 35, 64, 42] (l.drop j) == 0 then some (.bad 19 i)
   else if pre [125] (l.drop (j + paramLen [63, 35, 64, 42] (l.drop j))) then some (.ok ((⟨2, (l.drop j).take (paramLen [63, 35, 64, 42] (l.drop j)), [], inQ w, []⟩ : Part), j + paramLen [63, 35, 64, 42] (l.drop j) + 1, l.drop (j + paramLen [63, 35, 64, 42] (l.drop j) + 1)))
   else match opsL.find? (fun o => pre o (l.drop (j + paramLen [63, 35, 64, 42] (l.drop j)))) with
   | none => some (.bad 19 i)
   | some o => match parts f (if inQ w then 4 else 3) (deep + 1) [] [] (j + paramLen [63, 35, 64, 42] (l.drop j) + o.length) (l.drop (j + paramLen [63, 35, 64, 42] (l.drop j) + o.length)) with
    | none => none
    | some (.bad a b) => some (.bad a b)
    | some (.ok (ws, i', r')) => if pre [125] r' then some (.ok (⟨2, (l.drop j).take (paramLen [63, 35, 64, 42] (l.drop j)), o, inQ w, ws⟩, i' + 1, r'.drop 1)) else some (.bad 19 i)) = some res) :
  wp (p51_16 (cF n) N (.string (mkS l)) (.int .i64 (i : Int)) (.int .i64 (deep : Int)) (Pt t8) (Pt t10) (.bool (inQ w)) (.int .i64 (j : Int)) h) (RDQ h0 l i (brToDollar res)) := by
 obtain ⟨n, rfl⟩ : ∃ n', n = n' + 4 := ⟨n - 4, by omega⟩
 have hpl := paramLen_le [63, 35, 64, 42] (l.drop j)
 simp only [List.length_drop] at hpl
 have hpe := rparam_eq (h := h) (n + 1) [63, 35, 64, 42] hj (by omega) (by omega) (by simp; omega) (by simp)
 simp -implicitDefEqProofs only [p51_16, hpe, SS, SU, Nat.reduceAdd, Nat.reduceLeDiff, Nat.reduceBEq, Nat.reduceMul]
 generalize paramLen [63, 35, 64, 42] (l.drop j) = k at *
 rcases b2 (k == 0) with g | g
 ·simp only [g, if_true] at hs
  have hs := Option.some.inj hs
  subst hs
  have rf3 := rf.un (un_alloc h (.cells ⟨29, [.int .i64 19, .int .i64 (i : Int)], true⟩))
  simp -implicitDefEqProofs only [g, rwrong_eq (n + 3), rf3.a, rf3.b, rf3.r1, rf3.r2, rf3.r3, SS, SU, Nat.reduceAdd, Nat.reduceLeDiff, Nat.reduceBEq, Nat.reduceMul]
  exact wp_some.2 ⟨rf3.done _ _, rfl, by omega⟩
 ·simp only [g, Bool.false_eq_true, if_false] at hs
  have hb1 : j + k < 9223372036854775808 := by omega
  have hsv := sl9_lh l j (j + k) h (by omega) (by omega)
  rw [show j + k - j = k by omega] at hsv
  have hset : ∀ cs cs', (h.alloc (.cells ⟨49, cs, true⟩)).set h.next (.cells ⟨49, cs', true⟩) = h.alloc (.cells ⟨49, cs', true⟩) := by
   intro cs cs'
   exact put_lx ⟨h.m, h.next + 1⟩ h.next (.cells ⟨49, cs, true⟩) (.cells ⟨49, cs', true⟩)
  have hal : ∀ cs, (h.alloc (.cells ⟨49, cs, true⟩)).blk h.next = some ⟨49, cs, true⟩ := fun cs => blk_alloc_eq
  have rf2 := rf.un (un_alloc h (.cells ⟨49, [.int .i64 2, .string (mkS ((l.drop j).take k)), .string (mkS []), .bool (inQ w), .slice none 0 0, .pointer none], true⟩))
  have h17 : PtB (h.alloc (.cells ⟨49, [.int .i64 2, .string (mkS ((l.drop j).take k)), .string (mkS []), .bool (inQ w), .slice none 0 0, .pointer none], true⟩)) h.next 2 ((l.drop j).take k) [] (inQ w) (.slice none 0 0) := blk_alloc_eq
  have ht := Heap.blk_lt rf.b
  simp -implicitDefEqProofs only [g, wrap_nat (j + k) hb1, hsv, hal, hset, SS, SU, Nat.reduceAdd, Nat.reduceLeDiff, Nat.reduceBEq, Nat.reduceMul]
  exact rd24 hl hf ih rf2 h17 ht (by omega) (by omega) hN hd hn hs
theorem rd9 (hl : l.length ≤ 5000) {f : Nat} (hf : f < 100000000) (ih : ∀ g, g ≤ f → RPartsOk l g) {h0 h : Heap} {t8 t10 n N w deep i : Nat} {res : Rz (Part × Nat × Bs)} (rf : Rf h0 h t8 t10) (hi : i + 2 ≤ l.length) (hN : 20 ≤ N) (hn : 6 * f + 12020 ≤ n) (hs : braces (f + 1) w deep i (i + 2) (l.drop (i + 2)) = some res) :
  wp (p51_9 (cF n) N (.string (mkS l)) (.int .i64 (i : Int)) (.int .i64 (deep : Int)) (Pt t8) (Pt t10) (.bool (inQ w)) h) (RDQ h0 l i (brToDollar res)) := by
 have e20 : decide ((20 : Int) ≤ (deep : Int)) = decide (20 ≤ deep) := n_le 20 deep
 have hb1 : i + 2 < 9223372036854775808 := by omega
 obtain ⟨n, rfl⟩ : ∃ n', n = n' + 4 := ⟨n - 4, by omega⟩
 simp only [braces] at hs
 rcases b2 (decide (20 ≤ deep)) with g1 | g1
 ·have := of_decide_eq_true g1
  simp only [this, if_true] at hs
  have hs := Option.some.inj hs
  subst hs
  simp -implicitDefEqProofs only [p51_9, e20, g1, rf.a, rf.b, rf.r1, rf.r2, rf.r3, SS, SU, Nat.reduceAdd, Nat.reduceLeDiff, Nat.reduceBEq, Nat.reduceMul]
  exact wp_some.2 ⟨rf.done _ _, rfl, by omega⟩
 ·have hd' := of_decide_eq_false g1
  simp only [hd', if_false] at hs
  have ea := rat_eq (h := h) (n + 3) [35] hi (by simp; omega)
  have hrest : (if paramLen [63, 35, 64, 42] (l.drop (i + 2)) == 0 then some (.bad 19 i)
   else if pre [125] ((l.drop (i + 2)).drop (paramLen [63, 35, 64, 42] (l.drop (i + 2)))) then some (.ok ((⟨2, (l.drop (i + 2)).take (paramLen [63, 35, 64, 42] (l.drop (i + 2))), [], inQ w, []⟩ : Part), i + 2 + paramLen [63, 35, 64, 42] (l.drop (i + 2)) + 1, (l.drop (i + 2)).drop (paramLen [63, 35, 64, 42] (l.drop (i + 2)) + 1)))
   else match opsL.find? (fun o => pre o ((l.drop (i + 2)).drop (paramLen [63, 35, 64, 42] (l.drop (i + 2))))) with
   | none => some (.bad 19 i)
   | some o => match parts f (if inQ w then 4 else 3) (deep + 1) [] [] (i + 2 + paramLen [63, 35, 64, 42] (l.drop (i + 2)) + o.length) ((l.drop (i + 2)).drop (paramLen [63, 35, 64, 42] (l.drop (i + 2)) + o.length)) with
    | none => none
    | some (.bad a b) => some (.bad a b)
    | some (.ok (ws, i', r')) => if pre [125] r' then some (.ok (⟨2, (l.drop (i + 2)).take (paramLen [63, 35, 64, 42] (l.drop (i + 2))), o, inQ w, ws⟩, i' + 1, r'.drop 1)) else some (.bad 19 i)) = some res →
    wp (p51_16 (cF (n + 4)) N (.string (mkS l)) (.int .i64 (i : Int)) (.int .i64 (deep : Int)) (Pt t8) (Pt t10) (.bool (inQ w)) (.int .i64 ((i + 2 : Nat) : Int)) h) (RDQ h0 l i (brToDollar res)) := by
   intro hs'
   refine rd16 hl hf (ih f (Nat.le_refl _)) rf (by omega) hi hN (by omega) hn ?_
   rw [← hs']
   simp only [List.drop_drop, Nat.add_assoc] <;> rfl
  simp -implicitDefEqProofs only [p51_9, e20, g1, wrap_nat (i + 2) hb1, ea, SS, SU, Nat.reduceAdd, Nat.reduceLeDiff, Nat.reduceBEq, Nat.reduceMul]
  rcases b2 (pre [35] (l.drop (i + 2))) with g2 | g2
  ·have hi3 := pre_i g2 hi
   simp only [List.length_cons, List.length_nil] at hi3
   have hpl := paramLen_le [63, 64, 42] (l.drop (i + 2 + 1))
   simp only [List.length_drop] at hpl
   have hpe := rparam_eq (h := h) (n + 1) [63, 64, 42] hi3 (by omega) (by omega) (by simp; omega) (by simp)
   have hb2 : i + 2 + 1 < 9223372036854775808 := by omega
   simp only [g2, Bool.true_and, List.drop_drop] at hs
   rw [show i + 2 + (1 + paramLen [63, 64, 42] (l.drop (i + 2 + 1))) = i + 2 + 1 + paramLen [63, 64, 42] (l.drop (i + 2 + 1)) by omega, show i + 2 + (1 + paramLen [63, 64, 42] (l.drop (i + 2 + 1)) + 1) = i + 2 + 1 + paramLen [63, 64, 42] (l.drop (i + 2 + 1)) + 1 by omega] at hs
   simp -implicitDefEqProofs only [g2, p51_66, wrap_nat (i + 2 + 1) hb2, hpe, SS, SU, Nat.reduceAdd, Nat.reduceLeDiff, Nat.reduceBEq, Nat.reduceMul]
   generalize hk : paramLen [63, 64, 42] (l.drop (i + 2 + 1)) = k at *
   have hb3 : i + 2 + 1 + k < 9223372036854775808 := by omega
   have hjk : i + 2 + 1 + k ≤ l.length := by omega
   have ea2 := rat_eq (h := h) (n + 3) [125] hjk (by simp; omega)
   have hback : wp (p51_16 (cF (n + 4)) N (.string (mkS l)) (.int .i64 (i : Int)) (.int .i64 (deep : Int)) (Pt t8) (Pt t10) (.bool (inQ w)) (.int .i64 ((i + 2 : Nat) : Int)) h) (RDQ h0 l i (brToDollar res)) ∨ (k != 0 && pre [125] (l.drop (i + 2 + 1 + k))) = true := by
    rcases b2 (k != 0 && pre [125] (l.drop (i + 2 + 1 + k))) with g | g
    ·exact .inr g
    ·simp only [g, Bool.false_eq_true, if_false] at hs
     refine .inl (hrest ?_)
     rw [← hs]
     simp only [List.drop_drop] <;> rfl
   rcases b2 (decide (0 < k)) with g3 | g3
   ·have h0k := of_decide_eq_true g3
    have hz : (k != 0) = true := by simp; omega
    rcases b2 (pre [125] (l.drop (i + 2 + 1 + k))) with g4 | g4
    ·simp only [hz, g4, Bool.and_true, if_true] at hs
     have hs := Option.some.inj hs
     subst hs
     have hi5 := pre_i g4 hjk
     simp only [List.length_cons, List.length_nil] at hi5
     have hsv := sl9_lh l (i + 2 + 1) (i + 2 + 1 + k) h (by omega) (by omega)
     rw [show i + 2 + 1 + k - (i + 2 + 1) = k by omega] at hsv
     have hb4 : i + 2 + 2 < 9223372036854775808 := by omega
     have hb5 : i + 2 + 2 + k < 9223372036854775808 := by omega
     have hb6 : i + 2 + 2 + k - i < 9223372036854775808 := by omega
     have hsub := pull_sub (i + 2 + 2 + k) i (by omega)
     simp -implicitDefEqProofs only [g3, wrap_nat (i + 2 + 1) hb2, wrap_nat (i + 2 + 1 + k) hb3, ea2, g4, hsv, wrap_nat (i + 2 + 2) hb4, wrap_nat (i + 2 + 2 + k) hb5, hsub, wrap_nat (i + 2 + 2 + k - i) hb6, rf.a, rf.b, rf.r1, rf.r2, rf.r3, SS, SU, Nat.reduceAdd, Nat.reduceLeDiff, Nat.reduceBEq, Nat.reduceMul]
     refine wp_some.2 ⟨rf.done _ _, _, ?_, ⟨_, rfl, .nil⟩, hi5, rfl, by omega⟩
     rw [show i + 2 + 1 + k + 1 - i = i + 2 + 2 + k - i by omega]
     rfl
    ·rcases hback with hb | hb
     ·simp -implicitDefEqProofs only [g3, wrap_nat (i + 2 + 1) hb2, wrap_nat (i + 2 + 1 + k) hb3, ea2, g4, SS, SU, Nat.reduceAdd, Nat.reduceLeDiff, Nat.reduceBEq, Nat.reduceMul]
      exact hb
     ·rw [g4, Bool.and_false] at hb; cases hb
   ·have hz : (k != 0) = false := by have := of_decide_eq_false g3; simp; omega
    rcases hback with hb | hb
    ·simp -implicitDefEqProofs only [g3, SS, SU, Nat.reduceAdd, Nat.reduceLeDiff, Nat.reduceBEq, Nat.reduceMul]
     exact hb
    ·rw [hz] at hb; cases hb
  ·simp only [g2, Bool.false_and, Bool.false_eq_true, if_false] at hs
   simp -implicitDefEqProofs only [g2, p51_66, SS, SU, Nat.reduceAdd, Nat.reduceLeDiff, Nat.reduceBEq, Nat.reduceMul]
   exact hrest hs
theorem alloc_set (h : Heap) (b b' : Blk) : (h.alloc (.cells b)).set h.next (.cells b') = h.alloc (.cells b') := put_lx ⟨h.m, h.next + 1⟩ h.next (.cells b) (.cells b')
theorem rdollar_step (hl : l.length ≤ 5000) {f : Nat} (hf : f < 100000000) (ih : ∀ g, g ≤ f → RPartsOk l g) : RDollarOk l (f + 1) := by
 intro w deep i res n h hs hi h36 hw hd hn
 obtain ⟨n, rfl⟩ : ∃ n', n = n' + 5 := ⟨n - 5, by omega⟩
 have bA : (h.alloc (.cells ⟨49, [.int .i64 0, .string (mkS []), .string (mkS []), .bool false, .slice none 0 0, .pointer none], true⟩)).blk h.next = some ⟨49, [.int .i64 0, .string (mkS []), .string (mkS []), .bool false, .slice none 0 0, .pointer none], true⟩ := blk_alloc_eq
 have nA : (h.alloc (.cells ⟨49, [.int .i64 0, .string (mkS []), .string (mkS []), .bool false, .slice none 0 0, .pointer none], true⟩)).next = h.next + 1 := rfl
 have uA := un_alloc h (.cells ⟨49, [.int .i64 0, .string (mkS []), .string (mkS []), .bool false, .slice none 0 0, .pointer none], true⟩)
 have e3 : ((w : Int) != 3) = (w != 3) := n_ne w 3
 have ehead : ∀ hA hB : Heap, allocA E 49 h = some (Pt h.next, hA) → allocA E 29 hA = some (Pt hA.next, hB) → f51 (cF (n + 4)) (n + 4) (.string (mkS l)) (.int .i64 (i : Int)) (.int .i64 (w : Int)) (.int .i64 (deep : Int)) h =
   bindR (cF (n + 4) 26 [.string (mkS l), .int .i64 (i : Int), .string (mkS [36, 40, 40])] hB) (fun v h => some (.panic v, h)) fun t32 h' =>
   condV t32 (
    bindO (buildA E 49 []) fun t33 =>
    bindR (cF (n + 4) 28 [.int .i64 (i : Int)] h') (fun v h => some (.panic v, h)) fun t35 h' =>
    bindR (skipR (storeA E 49 (Pt h.next) t33 h')) (fun v h => some (.panic v, h)) fun _ h' =>
    bindR (skipR (storeA E 29 (Pt hA.next) t35 h')) (fun v h => some (.panic v, h)) fun _ h' =>
    bindO (loadA E 49 (Pt h.next) h') fun tr8 =>
    bindO (loadA E 29 (Pt hA.next) h') fun tr10 =>
    some (.ret (.tuple ⟨[tr8, (.int .i64 (0)), tr10]⟩), h')
   ) (
    bindR (cF (n + 4) 26 [.string (mkS l), .int .i64 (i : Int), .string (mkS [36, 40])] h') (fun v h => some (.panic v, h)) fun t38 h' =>
    p51_83 (cF (n + 4)) (n + 4) (.string (mkS l)) (.int .i64 (i : Int)) (.int .i64 (deep : Int)) (Pt h.next) (Pt hA.next) (.bool (inQ w)) t38 h'
   ) := by
  intro hA hB eA eB
  unfold inQ
  rcases b2 (w != 0) with q | q
  ·rw [q, Bool.true_and]
   simp -implicitDefEqProofs only [f51, p51_0, eA, eB, valR_some, bindR_ret, bin_neq, n_ne0, q, e3, gO_true, boolIs_bool, beqT, bindO_some, pickA_true]
  ·rw [q, Bool.false_and]
   simp -implicitDefEqProofs only [f51, p51_0, eA, eB, valR_some, bindR_ret, bin_neq, n_ne0, q, gO_false, boolIs_bool, beqT, bindO_some, pickA_false]
 rw [c51, ehead _ _ (al49 h) (al29 _)]
 clear ehead
 generalize h.alloc (.cells ⟨49, [.int .i64 0, .string (mkS []), .string (mkS []), .bool false, .slice none 0 0, .pointer none], true⟩) = hA at *
 have rf : Rf h (hA.alloc (.cells ⟨29, [.int .i64 0, .int .i64 0], true⟩)) h.next hA.next := ⟨(blk_alloc_lt (by omega)).trans bA, blk_alloc_eq, Nat.le_refl _, by omega, uA.trans (Un.alloc _ _ (by omega))⟩
 generalize hA.alloc (.cells ⟨29, [.int .i64 0, .int .i64 0], true⟩) = hB at *
 have hi' : i ≤ l.length := by omega
 have ea := rat_eq (h := hB) (n + 3) [36, 40, 40] hi' (by simp; omega)
 have ea2 := rat_eq (h := hB) (n + 3) [36, 40] hi' (by simp; omega)
 have ea3 := rat_eq (h := hB) (n + 3) [36, 123] hi' (by simp; omega)
 simp only [dollar] at hs
 rcases b2 (pre [36, 40, 40] (l.drop i)) with g1 | g1
 ·simp only [g1, if_true] at hs
  have hs := Option.some.inj hs
  subst hs
  have rf3 := rf.un (un_alloc hB (.cells ⟨29, [.int .i64 19, .int .i64 (i : Int)], true⟩))
  simp -implicitDefEqProofs only [ea, g1, rwrong_eq (n + 3), rf3.a, rf3.b, rf3.r1, rf3.r2, rf3.r3, SS, SU, Nat.reduceAdd, Nat.reduceLeDiff, Nat.reduceBEq, Nat.reduceMul]
  exact wp_some.2 ⟨rf3.done _ _, rfl, by omega⟩
 ·simp only [g1, Bool.false_eq_true, if_false] at hs
  rcases b2 (pre [36, 40] (l.drop i)) with g2 | g2
  ·simp only [g2, if_true, List.drop_drop] at hs
   have hi2 := pre_i g2 hi'
   simp only [List.length_cons, List.length_nil] at hi2
   have hb1 : i + 2 < 9223372036854775808 := by omega
   cases hc : closed f 1 (l.drop (i + 2)) with
   | none => rw [hc] at hs; cases hs
   | some rc =>
    rw [hc] at hs
    have hcall := rbalanced_eq (n := n + 4) (h := hB) hl hc (by omega) (by omega) (by omega)
    cases rc with
    | none =>
     simp only at hs
     have hs := Option.some.inj hs
     subst hs
     have hcall' : cF (n + 4) 76 [.string (mkS l), .int .i64 ((i + 2 : Nat) : Int)] hB = some (.ret (.int .i64 (-1)), hB) := hcall
     have hb : decide ((-1 : Int) < 0) = true := rfl
     have rf3 := rf.un (un_alloc hB (.cells ⟨29, [.int .i64 19, .int .i64 (i : Int)], true⟩))
     simp -implicitDefEqProofs only [ea, g1, ea2, g2, p51_83, wrap_nat (i + 2) hb1, hcall', hb, rwrong_eq (n + 3), rf3.a, rf3.b, rf3.r1, rf3.r2, rf3.r3, SS, SU, Nat.reduceAdd, Nat.reduceLeDiff, Nat.reduceBEq, Nat.reduceMul]
     exact wp_some.2 ⟨rf3.done _ _, rfl, by omega⟩
    | some t' =>
     obtain ⟨j, rfl, hj, hij, e0⟩ := hcall
     have ej : i + ((l.drop i).length - (l.drop j).length) = j := by simp; omega
     simp only [ej] at hs
     have hs := Option.some.inj hs
     subst hs
     have hsv := sl9_lh l (i + 2) (j - 1) hB (by omega) (by omega)
     have hb3 : j - 1 + 1 < 9223372036854775808 := by omega
     have hb4 : j - 1 + 1 - i < 9223372036854775808 := by omega
     have hsub := pull_sub (j - 1 + 1) i (by omega)
     simp -implicitDefEqProofs only [ea, g1, ea2, g2, p51_83, wrap_nat (i + 2) hb1, e0, hsv, wrap_nat (j - 1 + 1) hb3, hsub, wrap_nat (j - 1 + 1 - i) hb4, rf.a, rf.b, rf.r1, rf.r2, rf.r3, SS, SU, Nat.reduceAdd, Nat.reduceLeDiff, Nat.reduceBEq, Nat.reduceMul]
     refine wp_some.2 ⟨rf.done _ _, .agg ⟨[.int .i64 3, .string (mkS ((l.drop (i + 2)).take (j - 1 - (i + 2)))), .string (mkS []), .bool (inQ w), .slice none 0 0, .pointer none]⟩, ?_, ⟨.slice none 0 0, ?_, .nil⟩, hj, rfl, by omega⟩
     ·rw [show j - i = j - 1 + 1 - i by omega]
     ·have e1 : (l.drop i).length - 2 - (l.drop j).length - 1 = j - 1 - (i + 2) := by simp; omega
      rw [e1]; rfl
  ·simp only [g2, Bool.false_eq_true, if_false] at hs
   rcases b2 (pre [36, 123] (l.drop i)) with g3 | g3
   ·simp only [g3, if_true, List.drop_drop] at hs
    have hi2 := pre_i g3 hi'
    simp only [List.length_cons, List.length_nil] at hi2
    cases f with
    | zero => simp [braces] at hs
    | succ f =>
     cases hb : braces (f + 1) w deep i (i + 2) (l.drop (i + 2)) with
     | none => rw [hb] at hs; cases hs
     | some rb =>
      rw [hb] at hs
      have hres : res = brToDollar rb := by
       cases rb with
       | bad a b => exact (Option.some.inj hs).symm
       | ok x => obtain ⟨x, j, r'⟩ := x; exact (Option.some.inj hs).symm
      rw [hres]
      have := rd9 (N := n + 4) hl (show f < 100000000 by omega) (fun g hg => ih g (by omega)) rf hi2 (by omega) (show 6 * f + 12020 ≤ n + 4 by omega) hb
      simp -implicitDefEqProofs only [ea, g1, ea2, g2, p51_83, p51_8, ea3, g3, p51_73, SS, SU, Nat.reduceAdd, Nat.reduceLeDiff, Nat.reduceBEq, Nat.reduceMul]
      exact this
   ·simp only [g3, Bool.false_eq_true, if_false, List.drop_drop] at hs
    have hi1 : i + 1 ≤ l.length := by omega
    have hb1 : i + 1 < 9223372036854775808 := by omega
    have hpe := rparam_eq (h := hB) (n + 1) [63, 35, 64, 42] hi1 (by omega) (by omega) (by simp; omega) (by simp)
    have hpl := paramLen_le [63, 35, 64, 42] (l.drop (i + 1))
    simp only [List.length_drop] at hpl
    simp -implicitDefEqProofs only [ea, g1, ea2, g2, p51_83, p51_8, ea3, g3, p51_73, wrap_nat (i + 1) hb1, hpe, SS, SU, Nat.reduceAdd, Nat.reduceLeDiff, Nat.reduceBEq, Nat.reduceMul]
    generalize paramLen [63, 35, 64, 42] (l.drop (i + 1)) = k at *
    rcases b2 (k == 0) with g4 | g4
    ·simp only [g4, if_true] at hs
     have hs := Option.some.inj hs
     subst hs
     simp -implicitDefEqProofs only [g4, rf.a, rf.b, rf.r1, rf.r2, rf.r3, SS, SU, Nat.reduceAdd, Nat.reduceLeDiff, Nat.reduceBEq, Nat.reduceMul]
     exact wp_some.2 ⟨rf.done _ _, rfl, rfl, hi1, rfl⟩
    ·simp only [g4, Bool.false_eq_true, if_false] at hs
     have hs := Option.some.inj hs
     subst hs
     have hb2 : i + 1 + k < 9223372036854775808 := by omega
     have hb3 : 1 + k < 9223372036854775808 := by omega
     have hsv := sl9_lh l (i + 1) (i + 1 + k) hB (by omega) (by omega)
     rw [show i + 1 + k - (i + 1) = k by omega] at hsv
     have e1k : (1 : Int) + (k : Int) = ((1 + k : Nat) : Int) := by omega
     simp -implicitDefEqProofs only [g4, wrap_nat (i + 1 + k) hb2, hsv, e1k, wrap_nat (1 + k) hb3, rf.a, rf.b, rf.r1, rf.r2, rf.r3, SS, SU, Nat.reduceAdd, Nat.reduceLeDiff, Nat.reduceBEq, Nat.reduceMul]
     refine wp_some.2 ⟨rf.done _ _, .agg ⟨[.int .i64 2, .string (mkS ((l.drop (i + 1)).take k)), .string (mkS []), .bool (inQ w), .slice none 0 0, .pointer none]⟩, ?_, ⟨_, rfl, .nil⟩, by omega, rfl, by omega⟩
     rw [show i + 1 + k - i = 1 + k by omega]
end
end Go.Proofs.YteekjekckgpbfaaDoor.Abs
end
section
namespace Go.Proofs.YteekjekckgpbfaaDoor.Abs
open Sp
attribute [local congr] bindO_congr bindR_congr condV_congr wp_congr
structure RS (h0 h : Heap) (t10 lo : Nat) (X : List Nat) (ov : Value) (out : List Part) : Prop where
 a : h.blk t10 = some ⟨29, [.int .i64 0, .int .i64 0], true⟩
 c1 : h0.next ≤ t10
 c2 : t10 < lo
 c3 : lo ≤ h.next
 o : OutV h lo X ov out
 c4 : ∀ x, x ∈ X → x < h.next
 u : Un h0.next h0 h
section
variable {h0 h : Heap} {t10 lo : Nat} {X : List Nat} {ov : Value} {out : List Part}
theorem RS.un {h' : Heap} (r : RS h0 h t10 lo X ov out) (u : Un h.next h h') : RS h0 h' t10 lo X ov out := by
 have st : ∀ b y, h.blk b = some y → h'.blk b = some y := fun b y e => (u.2 _ (Heap.blk_lt e)).trans e
 refine ⟨st _ _ r.a, r.c1, r.c2, Nat.le_trans r.c3 u.1, ?_, fun x hx => Nat.lt_of_lt_of_le (r.c4 x hx) u.1, ⟨Nat.le_trans r.u.1 u.1, fun b hb => (u.2 b (Nat.lt_of_lt_of_le hb r.u.1)).trans (r.u.2 b hb)⟩⟩
 refine r.o.keep (fun ob n e => ?_) fun b k a e => ⟨a, st _ _ e⟩
 rcases r.o with ⟨e', _⟩ | ⟨ob', cs, n', e', _, _, hob, _, hx, _⟩
 ·rw [e'] at e; cases e
 ·rw [e'] at e
  injection e with e; injection e with e; injection e with e
  subst e
  exact ⟨(st _ _ hob).trans hob.symm, hx⟩
theorem RS.append (r : RS h0 h t10 lo X ov out) {sv : Value} {ps : List Part} (s : RepW h.blk (Al lo X) sv ps) (hmax : out.length + ps.length ≤ 100000) :
  ∃ ov' h' X', appendA E 37 ov sv h = some (ov', h') ∧ RS h0 h' t10 lo X' ov' (out ++ ps) ∧ h.next ≤ h'.next ∧ (∀ b y, Al lo X b → h.blk b = some y → Al lo X' b ∧ h'.blk b = some y) := by
 obtain ⟨ov', h', X', ha, hO, hn, hsub, hX', _, hsame, hsame2⟩ := r.o.append s r.c3 (by unfold most; omega)
 have h1 := r.c1
 have h2 := r.c2
 have h3 := r.c3
 refine ⟨ov', h', X', ha, ⟨hsame2 _ _ r.a (show (29 : Nat) ≠ 49 by decide), r.c1, r.c2, by omega, hO, fun x hx => ?_, ⟨Nat.le_trans r.u.1 hn, fun b hb => (hsame b (by omega) (.inl (by omega))).trans (r.u.2 b hb)⟩⟩, hn, fun b y a e => ⟨⟨a.1, fun hm => ?_⟩, (hsame b (Heap.blk_lt e) (.inr a.2)).trans e⟩⟩
 ·rcases hX' x hx with e | e
  ·have := r.c4 x e; omega
  ·omega
 ·rcases hX' b hm with e' | e'
  ·exact a.2 e'
  ·have := Heap.blk_lt e; omega
theorem RS.f1 (r : RS h0 h t10 lo X ov out) (ws : List Value) : (h.set t10 (.cells ⟨29, ws, true⟩)).blk t10 = some ⟨29, ws, true⟩ := blk_set_eq (Heap.blk_lt r.a)
theorem RS.done (r : RS h0 h t10 lo X ov out) (ws : List Value) : Un h0.next h0 (h.set t10 (.cells ⟨29, ws, true⟩)) := un_new r.u r.c1 _
theorem RS.one (r : RS h0 h t10 lo X ov out) (k : Nat) (t o : Bs) (q : Bool) (wa : Option Addr) (wn wc : Nat) (ws : List Part) (hw : RepW h.blk (Al lo X) (.slice wa wn wc) ws) (hmax : out.length ≤ 50000) :
  ∃ ov' h' X', buildSliceA E 37 1 [(0, .agg ⟨[.int .i64 (k : Int), .string (mkS t), .string (mkS o), .bool q, .slice wa wn wc, .pointer none]⟩)] h = some (.slice (some ⟨h.next, 0, none⟩) 1 1, h.alloc (.cells ⟨49, [.int .i64 (k : Int), .string (mkS t), .string (mkS o), .bool q, .slice wa wn wc, .pointer none], true⟩)) ∧
   appendA E 37 ov (.slice (some ⟨h.next, 0, none⟩) 1 1) (h.alloc (.cells ⟨49, [.int .i64 (k : Int), .string (mkS t), .string (mkS o), .bool q, .slice wa wn wc, .pointer none], true⟩)) = some (ov', h') ∧
   RS h0 h' t10 lo X' ov' (out ++ [⟨k, t, o, q, ws⟩]) ∧ h.next ≤ h'.next ∧ (∀ b y, Al lo X b → h.blk b = some y → Al lo X' b ∧ h'.blk b = some y) := by
 have r1 := r.un (un_alloc h (.cells ⟨49, [.int .i64 (k : Int), .string (mkS t), .string (mkS o), .bool q, .slice wa wn wc, .pointer none], true⟩))
 have s1 : RepW (h.alloc (.cells ⟨49, [.int .i64 (k : Int), .string (mkS t), .string (mkS o), .bool q, .slice wa wn wc, .pointer none], true⟩)).blk (Al lo X) (.slice (some ⟨h.next, 0, none⟩) 1 1) [⟨k, t, o, q, ws⟩] :=
  .some _ _ 1 _ ⟨r.c3, fun hm => by have := r.c4 _ hm; omega⟩ blk_alloc_eq (.cons k t o q _ _ _ _ (hw.mono fun b y a e => ⟨a, (blk_alloc_lt (Heap.blk_lt e)).trans e⟩) .nil) rfl (by omega)
 obtain ⟨ov', h', X', e1, r2, hn, hm⟩ := r1.append s1 (by simp; omega)
 refine ⟨ov', h', X', bs37_1 _ h rfl, e1, r2, by rw [next_alloc] at hn; omega, fun b y a e => hm b y a ((blk_alloc_lt (Heap.blk_lt e)).trans e)⟩
end
def specialB (w : Nat) (c : UInt8) : Bool := c == 36 || (c == 92 || (c == 96 || ((!inQ w && (c == 39 || c == 34)) || (w == 4 && c == 34))))
section
variable {l : Bs}
theorem rp_head_lt {h : Heap} {n N : Nat} {F : Value → Value → Value → Value → Value → Value → Value → Value → Value → Heap → Ans} {w i : Nat} {c : UInt8} {s3 s10 s11 s13 s14 : Value} (hi : i < l.length) (hg : l[i]? = some c) (hn : 8 ≤ n) :
  p29_7 (cF (n + 2)) N F (.string (mkS l)) (.int .i64 (i : Int)) (.int .i64 (w : Int)) s3 s10 s11 (.bool (inQ w)) s13 s14 h = p29_10 (cF (n + 2)) N F (.string (mkS l)) (.int .i64 (i : Int)) (.int .i64 (w : Int)) s3 s10 s11 (.bool (inQ w)) s13 s14 (.bool (ends w c)) (.bool (ends w c || specialB w c)) h := by
 have e36 : ((c.toNat : Int) == 36) = (c == 36) := u8_eqn c 36 (by decide)
 have e92 : ((c.toNat : Int) == 92) = (c == 92) := u8_eqn c 92 (by decide)
 have e96 : ((c.toNat : Int) == 96) = (c == 96) := u8_eqn c 96 (by decide)
 have e39 : ((c.toNat : Int) == 39) = (c == 39) := u8_eqn c 39 (by decide)
 have e34 : ((c.toNat : Int) == 34) = (c == 34) := u8_eqn c 34 (by decide)
 have ew4 : ((w : Int) == 4) = (w == 4) := n_eq w 4
 have hge : decide (l.length ≤ i) = false := decide_eq_false (by omega)
 have est := rstops_eq (h := h) n w c hn
 unfold specialB
 rcases b2 (ends w c) with g0 | g0
 ·simp -implicitDefEqProofs only [p29_7, hge, ix9 l i c hg, est, g0, SS, SU, Nat.reduceAdd, Nat.reduceLeDiff, Nat.reduceBEq, Nat.reduceMul]
 rcases b2 (c == 36) with g1 | g1
 ·simp -implicitDefEqProofs only [p29_7, hge, ix9 l i c hg, est, g0, e36, g1, SS, SU, Nat.reduceAdd, Nat.reduceLeDiff, Nat.reduceBEq, Nat.reduceMul]
 rcases b2 (c == 92) with g2 | g2
 ·simp -implicitDefEqProofs only [p29_7, hge, ix9 l i c hg, est, g0, e36, g1, e92, g2, SS, SU, Nat.reduceAdd, Nat.reduceLeDiff, Nat.reduceBEq, Nat.reduceMul]
 rcases b2 (c == 96) with g3 | g3
 ·simp -implicitDefEqProofs only [p29_7, hge, ix9 l i c hg, est, g0, e36, g1, e92, g2, e96, g3, SS, SU, Nat.reduceAdd, Nat.reduceLeDiff, Nat.reduceBEq, Nat.reduceMul]
 rcases b2 (inQ w) with g4 | g4
 ·rcases b2 (w == 4) with g5 | g5
  ·simp -implicitDefEqProofs only [p29_7, hge, ix9 l i c hg, est, g0, e36, g1, e92, g2, e96, g3, g4, ew4, g5, e34, SS, SU, Nat.reduceAdd, Nat.reduceLeDiff, Nat.reduceBEq, Nat.reduceMul]
  ·simp -implicitDefEqProofs only [p29_7, hge, ix9 l i c hg, est, g0, e36, g1, e92, g2, e96, g3, g4, ew4, g5, SS, SU, Nat.reduceAdd, Nat.reduceLeDiff, Nat.reduceBEq, Nat.reduceMul]
 ·rcases b2 (c == 39) with g5 | g5
  ·simp -implicitDefEqProofs only [p29_7, hge, ix9 l i c hg, est, g0, e36, g1, e92, g2, e96, g3, g4, e39, g5, SS, SU, Nat.reduceAdd, Nat.reduceLeDiff, Nat.reduceBEq, Nat.reduceMul]
  ·rcases b2 (c == 34) with g6 | g6
   ·simp -implicitDefEqProofs only [p29_7, hge, ix9 l i c hg, est, g0, e36, g1, e92, g2, e96, g3, g4, e39, g5, e34, g6, SS, SU, Nat.reduceAdd, Nat.reduceLeDiff, Nat.reduceBEq, Nat.reduceMul]
   ·rcases b2 (w == 4) with g7 | g7
    ·simp -implicitDefEqProofs only [p29_7, hge, ix9 l i c hg, est, g0, e36, g1, e92, g2, e96, g3, g4, e39, g5, e34, g6, ew4, g7, SS, SU, Nat.reduceAdd, Nat.reduceLeDiff, Nat.reduceBEq, Nat.reduceMul]
    ·simp -implicitDefEqProofs only [p29_7, hge, ix9 l i c hg, est, g0, e36, g1, e92, g2, e96, g3, g4, e39, g5, e34, g6, ew4, g7, SS, SU, Nat.reduceAdd, Nat.reduceLeDiff, Nat.reduceBEq, Nat.reduceMul]
theorem rp_head_ge {h : Heap} {n N : Nat} {F : Value → Value → Value → Value → Value → Value → Value → Value → Value → Heap → Ans} {w i : Nat} {s3 s10 s11 s13 s14 : Value} (hi : l.length ≤ i) :
  p29_7 (cF n) N F (.string (mkS l)) (.int .i64 (i : Int)) (.int .i64 (w : Int)) s3 s10 s11 (.bool (inQ w)) s13 s14 h = p29_10 (cF n) N F (.string (mkS l)) (.int .i64 (i : Int)) (.int .i64 (w : Int)) s3 s10 s11 (.bool (inQ w)) s13 s14 (.bool true) (.bool true) h := by
 have hge : decide (l.length ≤ i) = true := decide_eq_true hi
 simp -implicitDefEqProofs only [p29_7, hge, SS, SU, Nat.reduceAdd, Nat.reduceLeDiff, Nat.reduceBEq, Nat.reduceMul]
theorem rp_flush {h0 h : Heap} {t10 lo : Nat} {X : List Nat} {ov : Value} {out : List Part} {text : Bs} {n N w : Nat} {F : Value → Value → Value → Value → Value → Value → Value → Value → Value → Heap → Ans} {s0 s1 s2 s3 s15 s18 s19 : Value} {Q : Res → Heap → Prop} {b : Bool} (hb : inQ w = b) (r : RS h0 h t10 lo X ov out) (hlen : out.length ≤ 50000)
  (k : ∀ ov' h' X', RS h0 h' t10 lo X' ov' (flush w out text) → h.next ≤ h'.next → (∀ b y, Al lo X b → h.blk b = some y → Al lo X' b ∧ h'.blk b = some y) → wp (p29_23 (cF n) N F s0 s1 s2 s3 (Pt t10) ov' (.bool b) (.string (mkS [])) (.bool false) s15 s18 s19 h') Q) :
  wp (p29_22 (cF n) N F s0 s1 s2 s3 (Pt t10) ov (.bool b) (.string (mkS text)) (.bool (!text.isEmpty)) s15 s18 s19 h) Q := by
 unfold flush at k
 rw [hb] at k
 cases text with
 | nil =>
  simp only [List.isEmpty_nil, if_true] at k
  simp -implicitDefEqProofs only [p29_22, List.isEmpty_nil, SS, SU, Nat.reduceAdd, Nat.reduceLeDiff, Nat.reduceBEq, Nat.reduceMul]
  exact k ov h X r (Nat.le_refl _) fun b y a e => ⟨a, e⟩
 | cons c t =>
  simp only [List.isEmpty_cons, Bool.false_eq_true, if_false] at k
  rcases b2 b with g | g
  ·subst g; simp only [if_true] at k
   obtain ⟨ov', h', X', e1, e2, r2, hn, hm⟩ := r.one 1 (c :: t) [] true none 0 0 [] .nil hlen
   have ec : ((1 : Nat) : Int) = 1 := rfl
   rw [ec] at e1 e2
   simp -implicitDefEqProofs only [p29_22, List.isEmpty_cons, p29_89, e1, e2, SS, SU, Nat.reduceAdd, Nat.reduceLeDiff, Nat.reduceBEq, Nat.reduceMul]
   exact k ov' h' X' r2 hn hm
  ·subst g; simp only [Bool.false_eq_true, if_false] at k
   obtain ⟨ov', h', X', e1, e2, r2, hn, hm⟩ := r.one 0 (c :: t) [] false none 0 0 [] .nil hlen
   have ec : ((0 : Nat) : Int) = 0 := rfl
   rw [ec] at e1 e2
   simp -implicitDefEqProofs only [p29_22, List.isEmpty_cons, p29_89, e1, e2, SS, SU, Nat.reduceAdd, Nat.reduceLeDiff, Nat.reduceBEq, Nat.reduceMul]
   exact k ov' h' X' r2 hn hm
def RLoopOk (l : Bs) (f : Nat) : Prop := ∀ (h0 : Heap) (t10 lo : Nat) (X : List Nat) (ov : Value) (out : List Part) (text : Bs) (w deep i : Nat) (res : Rz (List Part × Nat × Bs)) (n N m : Nat) (h : Heap),
 parts f w deep out text i (l.drop i) = some res → i ≤ l.length → RS h0 h t10 lo X ov out → w ≤ 4 → deep ≤ 20 → out.length + text.length ≤ i → f ≤ m → 6 * f + 12010 ≤ n → 6000 ≤ N →
 wp (l29_6 (cF n) N m (.string (mkS l)) (.int .i64 (i : Int)) (.int .i64 (w : Int)) (.int .i64 (deep : Int)) (Pt t10) ov (.bool (inQ w)) (.string (mkS text)) (.bool (!text.isEmpty)) h) (RPQ h0 l i (out.length + text.length) res)
theorem RPQ.of {h : Heap} {i i' k k' : Nat} {res : Rz (List Part × Nat × Bs)} {r : Res} {h' : Heap} (hi : i ≤ i') (hk : k' ≤ k + (i' - i)) (q : RPQ h l i' k' res r h') : RPQ h l i k res r h' := by
 obtain ⟨u, q⟩ := q
 refine ⟨u, ?_⟩
 cases res with
 | bad c a => exact q
 | ok x =>
  obtain ⟨ps, j, r'⟩ := x
  obtain ⟨v, e, hv, hj, hr, hij, hl⟩ := q
  exact ⟨v, e, hv, hj, hr, by omega, by omega⟩
theorem rp_end {h0 h : Heap} {t10 lo : Nat} {X : List Nat} {ov : Value} {out : List Part} {text : Bs} {n N w i deep : Nat} {F : Value → Value → Value → Value → Value → Value → Value → Value → Value → Heap → Ans} (hl : l.length ≤ 5000) (hi : i ≤ l.length) (r : RS h0 h t10 lo X ov out) (hlen : out.length + text.length ≤ i) :
  wp (p29_10 (cF n) N F (.string (mkS l)) (.int .i64 (i : Int)) (.int .i64 (w : Int)) (.int .i64 (deep : Int)) (Pt t10) ov (.bool (inQ w)) (.string (mkS text)) (.bool (!text.isEmpty)) (.bool true) (.bool true) h) (RPQ h0 l i (out.length + text.length) (.ok (flush w out text, i, l.drop i))) := by
 have r1 := r.un (un_alloc h (.cells ⟨49, [.int .i64 0, .string (mkS []), .string (mkS []), .bool false, .slice none 0 0, .pointer none], true⟩))
 simp -implicitDefEqProofs only [p29_10, p29_127, p29_18, p29_112, p29_19, p29_95, SS, SU, Nat.reduceAdd, Nat.reduceLeDiff, Nat.reduceBEq, Nat.reduceMul]
 refine rp_flush rfl r1 (by omega) fun ov' h' X' r2 hn hm => ?_
 have ra := r2.a
 simp -implicitDefEqProofs only [p29_23, ra, r2.f1, SS, SU, Nat.reduceAdd, Nat.reduceLeDiff, Nat.reduceBEq, Nat.reduceMul]
 have h1 := r2.c1
 have h2 := r2.c2
 refine wp_some.2 ⟨r2.done _, ov', rfl, ?_, hi, rfl, Nat.le_refl _, ?_⟩
 ·exact r2.o.rep.mono fun b y a e => ⟨by have a' : lo ≤ b := a; show h0.next ≤ b; omega, (blk_set_ne (by have a' : lo ≤ b := a; omega)).trans e⟩
 ·have := flush_len w out text; omega
end
end Go.Proofs.YteekjekckgpbfaaDoor.Abs
end
section
namespace Go.Proofs.YteekjekckgpbfaaDoor.Abs
open Sp
attribute [local congr] bindO_congr bindR_congr condV_congr wp_congr
theorem two_boxes (h : Heap) (vs : List Value) (x y : Int) :
  ((h.alloc (.cells ⟨49, [.int .i64 0, .string (mkS []), .string (mkS []), .bool false, .slice none 0 0, .pointer none], true⟩)).alloc (.cells ⟨29, [.int .i64 0, .int .i64 0], true⟩)).blk h.next = some ⟨49, [.int .i64 0, .string (mkS []), .string (mkS []), .bool false, .slice none 0 0, .pointer none], true⟩ ∧
  (((h.alloc (.cells ⟨49, [.int .i64 0, .string (mkS []), .string (mkS []), .bool false, .slice none 0 0, .pointer none], true⟩)).alloc (.cells ⟨29, [.int .i64 0, .int .i64 0], true⟩)).set h.next (.cells ⟨49, vs, true⟩)).blk (h.next + 1) = some ⟨29, [.int .i64 0, .int .i64 0], true⟩ ∧
  ((((h.alloc (.cells ⟨49, [.int .i64 0, .string (mkS []), .string (mkS []), .bool false, .slice none 0 0, .pointer none], true⟩)).alloc (.cells ⟨29, [.int .i64 0, .int .i64 0], true⟩)).set h.next (.cells ⟨49, vs, true⟩)).set (h.next + 1) (.cells ⟨29, [.int .i64 x, .int .i64 y], true⟩)).blk h.next = some ⟨49, vs, true⟩ ∧
  ((((h.alloc (.cells ⟨49, [.int .i64 0, .string (mkS []), .string (mkS []), .bool false, .slice none 0 0, .pointer none], true⟩)).alloc (.cells ⟨29, [.int .i64 0, .int .i64 0], true⟩)).set h.next (.cells ⟨49, vs, true⟩)).set (h.next + 1) (.cells ⟨29, [.int .i64 x, .int .i64 y], true⟩)).blk (h.next + 1) = some ⟨29, [.int .i64 x, .int .i64 y], true⟩ ∧
  Un h.next h ((((h.alloc (.cells ⟨49, [.int .i64 0, .string (mkS []), .string (mkS []), .bool false, .slice none 0 0, .pointer none], true⟩)).alloc (.cells ⟨29, [.int .i64 0, .int .i64 0], true⟩)).set h.next (.cells ⟨49, vs, true⟩)).set (h.next + 1) (.cells ⟨29, [.int .i64 x, .int .i64 y], true⟩)) := by
 have n1 : (h.alloc (.cells ⟨49, [.int .i64 0, .string (mkS []), .string (mkS []), .bool false, .slice none 0 0, .pointer none], true⟩)).next = h.next + 1 := rfl
 have n2 : ((h.alloc (.cells ⟨49, [.int .i64 0, .string (mkS []), .string (mkS []), .bool false, .slice none 0 0, .pointer none], true⟩)).alloc (.cells ⟨29, [.int .i64 0, .int .i64 0], true⟩)).next = h.next + 2 := rfl
 have b1 : (h.alloc (.cells ⟨49, [.int .i64 0, .string (mkS []), .string (mkS []), .bool false, .slice none 0 0, .pointer none], true⟩)).blk h.next = some ⟨49, [.int .i64 0, .string (mkS []), .string (mkS []), .bool false, .slice none 0 0, .pointer none], true⟩ := blk_alloc_eq
 have b2 : ((h.alloc (.cells ⟨49, [.int .i64 0, .string (mkS []), .string (mkS []), .bool false, .slice none 0 0, .pointer none], true⟩)).alloc (.cells ⟨29, [.int .i64 0, .int .i64 0], true⟩)).blk h.next = some ⟨49, [.int .i64 0, .string (mkS []), .string (mkS []), .bool false, .slice none 0 0, .pointer none], true⟩ := (blk_alloc_lt (by omega)).trans b1
 have c2 : ((h.alloc (.cells ⟨49, [.int .i64 0, .string (mkS []), .string (mkS []), .bool false, .slice none 0 0, .pointer none], true⟩)).alloc (.cells ⟨29, [.int .i64 0, .int .i64 0], true⟩)).blk (h.next + 1) = some ⟨29, [.int .i64 0, .int .i64 0], true⟩ := blk_alloc_eq' n1.symm
 have u2 : Un h.next h ((h.alloc (.cells ⟨49, [.int .i64 0, .string (mkS []), .string (mkS []), .bool false, .slice none 0 0, .pointer none], true⟩)).alloc (.cells ⟨29, [.int .i64 0, .int .i64 0], true⟩)) := (un_alloc h _).trans (Un.alloc _ _ (by omega))
 generalize (h.alloc (.cells ⟨49, [.int .i64 0, .string (mkS []), .string (mkS []), .bool false, .slice none 0 0, .pointer none], true⟩)).alloc (.cells ⟨29, [.int .i64 0, .int .i64 0], true⟩) = h2 at *
 have c3 : (h2.set h.next (.cells ⟨49, vs, true⟩)).blk (h.next + 1) = some ⟨29, [.int .i64 0, .int .i64 0], true⟩ := (blk_set_ne (by omega)).trans c2
 have b3 : (h2.set h.next (.cells ⟨49, vs, true⟩)).blk h.next = some ⟨49, vs, true⟩ := blk_set_eq (by omega)
 exact ⟨b2, c3, (blk_set_ne (by omega)).trans b3, blk_set_eq (by rw [next_set]; omega), un_new (un_new u2 (Nat.le_refl _) _) (by omega) _⟩
theorem ne_of_snoc (t : Bs) (c : UInt8) : (!(t ++ [c]).isEmpty) = true := by cases t <;> rfl
theorem ne_of_app (t u : Bs) (h : u ≠ []) : (!(t ++ u).isEmpty) = true := by
 cases t with
 | nil => cases u with | nil => exact absurd rfl h | cons => rfl
 | cons => rfl
section
variable {l : Bs}
theorem rp_wrong {h0 h : Heap} {t10 lo : Nat} {X : List Nat} {ov : Value} {out : List Part} {n i k0 : Nat} (r : RS h0 h t10 lo X ov out) :
  RPQ h0 l i k0 (.bad 19 i) (.ret (.tuple ⟨[.slice none 0 0, .int .i64 (i : Int), .agg ⟨[.int .i64 19, .int .i64 (i : Int)]⟩]⟩)) ((h.alloc (.cells ⟨29, [.int .i64 19, .int .i64 (i : Int)], true⟩)).set t10 (.cells ⟨29, [.int .i64 19, .int .i64 (i : Int)], true⟩)) :=
 ⟨(r.un (un_alloc h _)).done _, ⟨(i : Int), rfl⟩, by omega⟩
theorem apos_loop2 (hl : l.length < 4611686018427387904) {h : Heap} {n N i : Nat} {s2 s3 s10 s11 s12 s13 s14 : Value} {F : Value → Value → Value → Value → Value → Value → Value → Value → Value → Heap → Ans} : ∀ (m k : Nat), k ≤ l.length → l.length < k + m →
  l29_55 (cF n) N F m (.string (mkS l)) (.int .i64 (i : Int)) s2 s3 s10 s11 s12 s13 s14 (.int .i64 (k : Int)) h = p29_47 (cF n) N F (.string (mkS l)) (.int .i64 (i : Int)) s2 s3 s10 s11 s12 s13 s14 (.int .i64 ((match find 39 (l.drop k) with | none => l.length | some x => k + x : Nat) : Int)) h := by
 intro m
 induction m with
 | zero => intro k hk hm; omega
 | succ m ih =>
  intro k hk hm
  rcases b2 (decide (k < l.length)) with h1 | h1
  ·have hlt := of_decide_eq_true h1
   have hg := drop_get l k hlt
   have hb : k + 1 < 9223372036854775808 := by omega
   rw [List.drop_eq_getElem_cons hlt]
   generalize l[k] = c at hg ⊢
   have e39 : ((c.toNat : Int) != 39) = (c != 39) := u8_nen c 39 (by decide)
   rcases b2 (c == 39) with g | g
   ·have g' : (c != 39) = false := by simp [bne, g]
    simp -implicitDefEqProofs only [l29_55, p29_56, h1, ix9 l k c hg, e39, g', find, g, if_true, Nat.add_zero, SS, SU, Nat.reduceAdd, Nat.reduceLeDiff, Nat.reduceBEq, Nat.reduceMul]
   ·have g' : (c != 39) = true := by simp [bne, g]
    have := ih (k + 1) (by omega) (by omega)
    simp -implicitDefEqProofs only [l29_55, p29_56, h1, ix9 l k c hg, e39, g', find, g, Bool.false_eq_true, if_false, wrap_nat (k + 1) hb, this, SS, SU, Nat.reduceAdd, Nat.reduceLeDiff, Nat.reduceBEq, Nat.reduceMul]
    cases hf : find 39 (l.drop (k + 1)) with
    | none => rfl
    | some x => simp only; rw [show k + 1 + x = k + (x + 1) by omega]
  ·have hge := of_decide_eq_false h1
   have hd : l.drop k = [] := List.drop_of_length_le (by omega)
   have hk : k = l.length := by omega
   rw [hd]
   simp -implicitDefEqProofs only [l29_55, p29_56, h1, find, SS, SU, Nat.reduceAdd, Nat.reduceLeDiff, Nat.reduceBEq, Nat.reduceMul]
   rw [hk]
theorem rparts_step (hl : l.length ≤ 5000) {f : Nat} (hf : f < 100000000) (ih : RLoopOk l f) (ihp : RPartsOk l f) (ihd : RDollarOk l f) : RLoopOk l (f + 1) := by
 intro h0 t10 lo X ov out text w deep i res n N m h hs hi r hw hd hlen hm hn hN
 obtain ⟨m, rfl⟩ : ∃ m', m = m' + 1 := ⟨m - 1, by omega⟩
 obtain ⟨n, rfl⟩ : ∃ n', n = n' + 8 := ⟨n - 8, by omega⟩
 have hb1 : i + 1 < 9223372036854775808 := by omega
 have hb2 : i + 2 < 9223372036854775808 := by omega
 have next : ∀ {X' : List Nat} {ov' : Value} {out' : List Part} {text' : Bs} {i' : Nat} {h' : Heap} (b : Bool), inQ w = b → parts f w deep out' text' i' (l.drop i') = some res → i' ≤ l.length → RS h0 h' t10 lo X' ov' out' → i < i' → out'.length + text'.length ≤ out.length + text.length + (i' - i) →
   wp (l29_6 (cF (n + 8)) N m (.string (mkS l)) (.int .i64 (i' : Int)) (.int .i64 (w : Int)) (.int .i64 (deep : Int)) (Pt t10) ov' (.bool b) (.string (mkS text')) (.bool (!text'.isEmpty)) h') (RPQ h0 l i (out.length + text.length) res) := by
  rintro X' ov' out' text' i' h' b rfl hs' hi' r' hlt hle
  exact wp_mono (ih h0 t10 lo X' ov' out' text' w deep i' res (n + 8) N m h' hs' hi' r' hw hd (by omega) (by omega) (by omega) hN) fun r h'' q => RPQ.of (by omega) hle q
 rcases b2 (decide (i < l.length)) with h1 | h1
 ·have hlt := of_decide_eq_true h1
  have hg := drop_get l i hlt
  have hdr := List.drop_eq_getElem_cons hlt
  rw [hdr] at hs
  generalize l[i] = c at hs hg hdr
  rw [parts_cons, ← hdr] at hs
  have hhead := rp_head_lt (h := h) (n := n + 6) (N := N) (F := l29_6 (cF (n + 8)) N m) (w := w) (s3 := .int .i64 (deep : Int)) (s10 := Pt t10) (s11 := ov) (s13 := .string (mkS text)) (s14 := .bool (!text.isEmpty)) hlt hg (by omega)
  have hloop : l29_6 (cF (n + 8)) N (m + 1) (.string (mkS l)) (.int .i64 (i : Int)) (.int .i64 (w : Int)) (.int .i64 (deep : Int)) (Pt t10) ov (.bool (inQ w)) (.string (mkS text)) (.bool (!text.isEmpty)) h = p29_10 (cF (n + 8)) N (l29_6 (cF (n + 8)) N m) (.string (mkS l)) (.int .i64 (i : Int)) (.int .i64 (w : Int)) (.int .i64 (deep : Int)) (Pt t10) ov (.bool (inQ w)) (.string (mkS text)) (.bool (!text.isEmpty)) (.bool (ends w c)) (.bool (ends w c || specialB w c)) h := hhead
  rw [hloop]
  clear hhead hloop
  rcases b2 (ends w c) with g0 | g0
  ·simp only [g0, if_true] at hs
   have hs := Option.some.inj hs
   subst hs
   rw [g0, Bool.true_or]
   exact rp_end hl hi r hlen
  ·simp only [g0, Bool.false_eq_true, if_false] at hs
   rw [g0, Bool.false_or]
   have e36 : ((c.toNat : Int) == 36) = (c == 36) := u8_eqn c 36 (by decide)
   have e92 : ((c.toNat : Int) == 92) = (c == 92) := u8_eqn c 92 (by decide)
   have e96 : ((c.toNat : Int) == 96) = (c == 96) := u8_eqn c 96 (by decide)
   have e39 : ((c.toNat : Int) == 39) = (c == 39) := u8_eqn c 39 (by decide)
   have e34 : ((c.toNat : Int) == 34) = (c == 34) := u8_eqn c 34 (by decide)
   have ew4 : ((w : Int) == 4) = (w == 4) := n_eq w 4
   have hp92 : (c == 92) = false → pre [92, 10] (l.drop i) = false := by
    intro hc
    rw [hdr]
    unfold pre
    rw [beq_eq_false_iff_ne]
    intro e
    injection e with e1 e2
    rw [e1] at hc
    exact absurd hc (by decide)
   have ea := rat_eq (h := h) (n + 7) [92, 10] hi (by simp; omega)
   have hsv1 := sl9_lh l i (i + 1) h (by omega) (by omega)
   have hone : (l.drop i).take (i + 1 - i) = [c] := by rw [show i + 1 - i = 1 by omega, hdr]; rfl
   rw [hone] at hsv1
   rcases b2 (specialB w c) with gs | gs
   ·
    rcases b2 (c == 92) with g2 | g2
    ·rcases b2 (pre [92, 10] (l.drop i)) with g1 | g1
     ·simp only [g1, if_true, List.drop_drop] at hs
      have hi2 := pre_i g1 hi
      simp only [List.length_cons, List.length_nil] at hi2
      simp -implicitDefEqProofs only [gs, p29_10, ea, g1, p29_127, wrap_nat (i + 2) hb2, SS, SU, Nat.reduceAdd, Nat.reduceLeDiff, Nat.reduceBEq, Nat.reduceMul]
      exact next _ rfl hs hi2 r (by omega) (by omega)
     ·simp only [g1, Bool.false_eq_true, if_false] at hs
      rcases b2 (inQ w) with g3 | g3
      ·simp only [g2, g3, Bool.and_true, if_true] at hs
       cases ht : l.drop (i + 1) with
       | nil =>
        simp only [ht] at hs
        have hs := Option.some.inj hs
        subst hs
        have hle : i + 1 = l.length := by have := congrArg List.length ht; simp at this; omega
        have hge : decide (l.length ≤ i + 1) = true := decide_eq_true (by omega)
        have r1 := r.un (un_alloc h (.cells ⟨29, [.int .i64 19, .int .i64 (i : Int)], true⟩))
        simp -implicitDefEqProofs only [gs, p29_10, ea, g1, p29_127, p29_18, ix9 l i c hg, e92, g2, g3, p29_112, wrap_nat (i + 1) hb1, hge, rwrong_eq (n + 7), r1.a, r1.f1, SS, SU, Nat.reduceAdd, Nat.reduceLeDiff, Nat.reduceBEq, Nat.reduceMul]
        exact wp_some.2 (rp_wrong (n := n) r)
       | cons x t' =>
        simp only [ht] at hs
        have hlt2 : i + 1 < l.length := by have := congrArg List.length ht; simp at this; omega
        have hdr2 := List.drop_eq_getElem_cons hlt2
        have hgx := drop_get l (i + 1) hlt2
        rw [ht] at hdr2
        injection hdr2 with hxx htt
        rw [← hxx] at hgx
        rw [htt] at hs
        have hge : decide (l.length ≤ i + 1) = false := decide_eq_false (by omega)
        have f36 : ((x.toNat : Int) == 36) = (x == 36) := u8_eqn x 36 (by decide)
        have f92 : ((x.toNat : Int) == 92) = (x == 92) := u8_eqn x 92 (by decide)
        have f96 : ((x.toNat : Int) == 96) = (x == 96) := u8_eqn x 96 (by decide)
        have f34 : ((x.toNat : Int) == 34) = (x == 34) := u8_eqn x 34 (by decide)
        have ew2 : ((w : Int) != 2) = (w != 2) := n_ne w 2
        have hsv2 := sl9_lh l (i + 1) (i + 2) h (by omega) (by omega)
        have htwo : (l.drop (i + 1)).take (i + 2 - (i + 1)) = [x] := by rw [show i + 2 - (i + 1) = 1 by omega, ht]; rfl
        rw [htwo] at hsv2
        have hsa := bin_sadd E 9 text [92] (by simp; unfold most; omega)
        have hsb := bin_sadd E 9 (text ++ [92]) [x] (by simp; unfold most; omega)
        have hsc := bin_sadd E 9 text [x] (by simp; unfold most; omega)
        have hel : (esc w x).length ≤ 2 := esc_le w x
        have hfin := next true g3 hs (by omega) r (by omega) (by simp; omega)
        have yes : esc w x = [92, x] → wp (p29_125 (cF (n + 8)) N (l29_6 (cF (n + 8)) N m) (.string (mkS l)) (.int .i64 (i : Int)) (.int .i64 (w : Int)) (.int .i64 (deep : Int)) (Pt t10) ov (.bool true) (.string (mkS text)) (.bool true) h) (RPQ h0 l i (out.length + text.length) res) := by
         intro he
         rw [he, ne_of_app text [92, x] (by simp), show text ++ [92, x] = text ++ [92] ++ [x] by simp] at hfin
         simp -implicitDefEqProofs only [p29_125, hsa, p29_120, wrap_nat (i + 1) hb1, wrap_nat (i + 2) hb2, hsv2, hsb, SS, SU, Nat.reduceAdd, Nat.reduceLeDiff, Nat.reduceBEq, Nat.reduceMul]
         exact hfin
        have no : esc w x = [x] → wp (p29_125 (cF (n + 8)) N (l29_6 (cF (n + 8)) N m) (.string (mkS l)) (.int .i64 (i : Int)) (.int .i64 (w : Int)) (.int .i64 (deep : Int)) (Pt t10) ov (.bool true) (.string (mkS text)) (.bool false) h) (RPQ h0 l i (out.length + text.length) res) := by
         intro he
         rw [he, ne_of_app text [x] (by simp)] at hfin
         simp -implicitDefEqProofs only [p29_125, p29_120, wrap_nat (i + 1) hb1, wrap_nat (i + 2) hb2, hsv2, hsc, SS, SU, Nat.reduceAdd, Nat.reduceLeDiff, Nat.reduceBEq, Nat.reduceMul]
         exact hfin
        have hesc : esc w x = if !((x == 36 || (x == 96 || x == 92))) && (!(x == 34) || w == 2) then [92, x] else [x] := by
         unfold esc
         simp only [List.contains_cons, List.contains_nil, Bool.or_false, bne]
        rcases b2 (x == 36) with q1 | q1
        ·have := no (by rw [hesc, q1]; rfl)
         simp -implicitDefEqProofs only [gs, p29_10, ea, g1, p29_127, p29_18, ix9 l i c hg, e92, g2, g3, p29_112, wrap_nat (i + 1) hb1, hge, ix9 l (i + 1) x hgx, f36, q1, SS, SU, Nat.reduceAdd, Nat.reduceLeDiff, Nat.reduceBEq, Nat.reduceMul]
         exact this
        rcases b2 (x == 96) with q2 | q2
        ·have := no (by rw [hesc, q1, q2]; rfl)
         simp -implicitDefEqProofs only [gs, p29_10, ea, g1, p29_127, p29_18, ix9 l i c hg, e92, g2, g3, p29_112, wrap_nat (i + 1) hb1, hge, ix9 l (i + 1) x hgx, f36, q1, f96, q2, SS, SU, Nat.reduceAdd, Nat.reduceLeDiff, Nat.reduceBEq, Nat.reduceMul]
         exact this
        rcases b2 (x == 92) with q3 | q3
        ·have := no (by rw [hesc, q1, q2, q3]; rfl)
         simp -implicitDefEqProofs only [gs, p29_10, ea, g1, p29_127, p29_18, ix9 l i c hg, e92, g2, g3, p29_112, wrap_nat (i + 1) hb1, hge, ix9 l (i + 1) x hgx, f36, q1, f96, q2, f92, q3, SS, SU, Nat.reduceAdd, Nat.reduceLeDiff, Nat.reduceBEq, Nat.reduceMul]
         exact this
        rcases b2 (w == 2) with q4 | q4
        ·have q4' : (w != 2) = false := by simp [bne, q4]
         have := yes (by rw [hesc, q1, q2, q3, q4, Bool.or_true]; rfl)
         simp -implicitDefEqProofs only [gs, p29_10, ea, g1, p29_127, p29_18, ix9 l i c hg, e92, g2, g3, p29_112, wrap_nat (i + 1) hb1, hge, ix9 l (i + 1) x hgx, f36, q1, f96, q2, f92, q3, ew2, q4', SS, SU, Nat.reduceAdd, Nat.reduceLeDiff, Nat.reduceBEq, Nat.reduceMul]
         exact this
        ·have q4' : (w != 2) = true := by simp [bne, q4]
         rcases b2 (x == 34) with q5 | q5
         ·have := no (by rw [hesc, q1, q2, q3, q4, q5]; rfl)
          simp -implicitDefEqProofs only [gs, p29_10, ea, g1, p29_127, p29_18, ix9 l i c hg, e92, g2, g3, p29_112, wrap_nat (i + 1) hb1, hge, ix9 l (i + 1) x hgx, f36, q1, f96, q2, f92, q3, ew2, q4', f34, q5, SS, SU, Nat.reduceAdd, Nat.reduceLeDiff, Nat.reduceBEq, Nat.reduceMul]
          exact this
         ·have := yes (by rw [hesc, q1, q2, q3, q4, q5]; rfl)
          simp -implicitDefEqProofs only [gs, p29_10, ea, g1, p29_127, p29_18, ix9 l i c hg, e92, g2, g3, p29_112, wrap_nat (i + 1) hb1, hge, ix9 l (i + 1) x hgx, f36, q1, f96, q2, f92, q3, ew2, q4', f34, q5, SS, SU, Nat.reduceAdd, Nat.reduceLeDiff, Nat.reduceBEq, Nat.reduceMul]
          exact this
      ·
       simp only [g2, g3, Bool.and_false, Bool.false_eq_true, if_false, if_true] at hs
       have g36 : (c == 36) = false := by simp at g2 ⊢; subst g2; decide
       have r1 := r.un (un_alloc h (.cells ⟨49, [.int .i64 0, .string (mkS []), .string (mkS []), .bool false, .slice none 0 0, .pointer none], true⟩))
       simp -implicitDefEqProofs only [gs, p29_10, ea, g1, p29_127, p29_18, ix9 l i c hg, e92, g2, g3, p29_112, p29_19, e36, g36, p29_95, SS, SU, Nat.reduceAdd, Nat.reduceLeDiff, Nat.reduceBEq, Nat.reduceMul]
       refine rp_flush g3 r1 (by omega) fun ov' h' X' r2 hn2 hm2 => ?_
       have hfl := flush_len w out text
       cases ht : l.drop (i + 1) with
       | nil =>
        simp only [ht] at hs
        have hs := Option.some.inj hs
        subst hs
        have hle : i + 1 = l.length := by have := congrArg List.length ht; simp at this; omega
        have hge : decide (l.length ≤ i + 1) = true := decide_eq_true (by omega)
        have r3 := r2.un (un_alloc h' (.cells ⟨29, [.int .i64 19, .int .i64 (i : Int)], true⟩))
        simp -implicitDefEqProofs only [p29_23, ix9 l i c hg, e36, g36, e92, g2, wrap_nat (i + 1) hb1, hge, p29_40, rwrong_eq (n + 7), r3.a, r3.f1, SS, SU, Nat.reduceAdd, Nat.reduceLeDiff, Nat.reduceBEq, Nat.reduceMul]
        exact wp_some.2 (rp_wrong (n := n) r2)
       | cons x t' =>
        simp only [ht] at hs
        have hlt2 : i + 1 < l.length := by have := congrArg List.length ht; simp at this; omega
        have hdr2 := List.drop_eq_getElem_cons hlt2
        rw [ht] at hdr2
        injection hdr2 with hxx htt
        rw [htt] at hs
        have hge : decide (l.length ≤ i + 1) = false := decide_eq_false (by omega)
        have hsv2 := sl9_lh l (i + 1) (i + 2) h' (by omega) (by omega)
        have htwo : (l.drop (i + 1)).take (i + 2 - (i + 1)) = [x] := by rw [show i + 2 - (i + 1) = 1 by omega, ht]; rfl
        rw [htwo] at hsv2
        obtain ⟨ov2, h2, X2, e1, e2, r3, _, _⟩ := r2.one 1 [x] [] false none 0 0 [] .nil (by omega)
        have ec : ((1 : Nat) : Int) = 1 := rfl
        rw [ec] at e1 e2
        simp -implicitDefEqProofs only [p29_23, ix9 l i c hg, e36, g36, e92, g2, wrap_nat (i + 1) hb1, hge, p29_40, p29_37, wrap_nat (i + 2) hb2, hsv2, e1, e2, SS, SU, Nat.reduceAdd, Nat.reduceLeDiff, Nat.reduceBEq, Nat.reduceMul]
        exact next false g3 hs (by omega) r3 (by omega) (by simp; omega)
    ·have g1 := hp92 g2
     simp only [g1, g2, Bool.false_and, Bool.false_eq_true, if_false] at hs
     rcases b2 (c == 36) with g3 | g3
     ·
      simp only [g3, if_true] at hs
      have hc36 : c = 36 := by simpa using g3
      subst hc36
      have r1 := r.un (un_alloc h (.cells ⟨49, [.int .i64 0, .string (mkS []), .string (mkS []), .bool false, .slice none 0 0, .pointer none], true⟩))
      have ht18 : (h.alloc (.cells ⟨49, [.int .i64 0, .string (mkS []), .string (mkS []), .bool false, .slice none 0 0, .pointer none], true⟩)).blk h.next = some ⟨49, [.int .i64 0, .string (mkS []), .string (mkS []), .bool false, .slice none 0 0, .pointer none], true⟩ := blk_alloc_eq
      have hA18 : Al lo X h.next := ⟨r.c3, fun hm => by have := r.c4 _ hm; omega⟩
      have hn1 : (h.alloc (.cells ⟨49, [.int .i64 0, .string (mkS []), .string (mkS []), .bool false, .slice none 0 0, .pointer none], true⟩)).next = h.next + 1 := rfl
      have u1 := un_alloc h (.cells ⟨49, [.int .i64 0, .string (mkS []), .string (mkS []), .bool false, .slice none 0 0, .pointer none], true⟩)
      simp -implicitDefEqProofs only [gs, p29_10, ea, g1, p29_127, p29_18, ix9 l i 36 hg, e92, g2, p29_112, p29_19, e36, g3, p29_95, SS, SU, Nat.reduceAdd, Nat.reduceLeDiff, Nat.reduceBEq, Nat.reduceMul]
      generalize h.alloc (.cells ⟨49, [.int .i64 0, .string (mkS []), .string (mkS []), .bool false, .slice none 0 0, .pointer none], true⟩) = h1 at *
      cases hdl : dollar f w deep i (l.drop i) with
      | none => rw [hdl] at hs; cases hs
      | some rd =>
       have hcall := ihd w deep i rd (n + 8) h1 hdl hlt hg hw hd (by omega)
       rw [hdl] at hs
       refine wp_bindR hcall ?_ ?_
       ·intro v h2 q
        obtain ⟨u2, q⟩ := q
        have r2 := r1.un u2
        have ht182 := (u2.2 _ (Heap.blk_lt ht18)).trans ht18
        have a1 : ∀ (cs : List Value), (h2.alloc (.cells ⟨49, cs, true⟩)).blk h2.next = some ⟨49, cs, true⟩ := fun cs => blk_alloc_eq
        have hn2 := u2.1
        cases rd with
        | bad a b =>
         obtain ⟨e, hc0⟩ := q
         injection e with e; subst e
         simp only at hs
         have hs := Option.some.inj hs
         subst hs
         have hnz' : (a != 0) = true := by simp; omega
         obtain ⟨q1, q2, q3, q4, q5⟩ := two_boxes h2 [.int .i64 0, .string (mkS []), .string (mkS []), .bool false, .slice none 0 0, .pointer none] (a : Int) (b : Int)
         have r6 := r2.un q5
         simp -implicitDefEqProofs only [next_alloc, q1, q2, q4, hnz', r6.a, SS, SU, Nat.reduceAdd, Nat.reduceLeDiff, Nat.reduceBEq, Nat.reduceMul]
         generalize ((((h2.alloc (.cells ⟨49, [.int .i64 0, .string (mkS []), .string (mkS []), .bool false, .slice none 0 0, .pointer none], true⟩)).alloc (.cells ⟨29, [.int .i64 0, .int .i64 0], true⟩)).set h2.next (.cells ⟨49, [.int .i64 0, .string (mkS []), .string (mkS []), .bool false, .slice none 0 0, .pointer none], true⟩)).set (h2.next + 1) (.cells ⟨29, [.int .i64 (a : Int), .int .i64 (b : Int)], true⟩)) = h6 at *
         simp -implicitDefEqProofs only [r6.f1, SS, SU, Nat.reduceAdd, Nat.reduceLeDiff, Nat.reduceBEq, Nat.reduceMul]
         exact wp_some.2 ⟨r6.done _, ⟨_, rfl⟩, hc0⟩
        | ok y =>
         obtain ⟨y, j, r'⟩ := y
         cases y with
         | none =>
          obtain ⟨e, rfl, hj, rfl⟩ := q
          injection e with e; subst e
          simp only at hs
          obtain ⟨q1, q2, q3, q4, q5⟩ := two_boxes h2 [.int .i64 0, .string (mkS []), .string (mkS []), .bool false, .slice none 0 0, .pointer none] 0 0
          have r6 := r2.un q5
          have hz0 : ((0 : Int) != 0) = false := rfl
          have hz1 : ((0 : Int) == 0) = true := rfl
          have hsa := bin_sadd E 9 text [36] (by simp; unfold most; omega)
          have hfin := next _ rfl hs hj r6 (by omega) (by simp; omega)
          rw [ne_of_app text [36] (by simp)] at hfin
          simp -implicitDefEqProofs only [next_alloc, q1, q2, q4, hz0, hz1, p29_106, hsa, wrap_nat (i + 1) hb1, SS, SU, Nat.reduceAdd, Nat.reduceLeDiff, Nat.reduceBEq, Nat.reduceMul]
          exact hfin
         | some y =>
          obtain ⟨pv, e, hpv, hj, rfl, hij⟩ := q
          injection e with e; subst e
          simp only at hs
          obtain ⟨yk, yt, yo, yq, yw⟩ := y
          obtain ⟨wv, rfl, hwv⟩ := hpv
          obtain ⟨wa, wn, wc, rfl⟩ := hwv.one
          obtain ⟨q1, q2, q3, q4, q5⟩ := two_boxes h2 [.int .i64 (yk : Int), .string (mkS yt), .string (mkS yo), .bool yq, .slice wa wn wc, .pointer none] 0 0
          have r6 := r2.un q5
          have hz0 : ((0 : Int) != 0) = false := rfl
          have hji : ((j - i : Nat) == 0) = false := by simp; omega
          have hfl := flush_len w out text
          have ht186 := (q5.2 _ (Heap.blk_lt ht182)).trans ht182
          have hX : ∀ b, h1.next ≤ b → b ∉ X := fun b hb hm => by have := r.c4 b hm; omega
          have hlo1 : lo ≤ h1.next := r1.c3
          have hw6 : RepW ((((h2.alloc (.cells ⟨49, [.int .i64 0, .string (mkS []), .string (mkS []), .bool false, .slice none 0 0, .pointer none], true⟩)).alloc (.cells ⟨29, [.int .i64 0, .int .i64 0], true⟩)).set h2.next (.cells ⟨49, [.int .i64 (yk : Int), .string (mkS yt), .string (mkS yo), .bool yq, .slice wa wn wc, .pointer none], true⟩)).set (h2.next + 1) (.cells ⟨29, [.int .i64 0, .int .i64 0], true⟩)).blk (h1.next ≤ ·) (.slice wa wn wc) yw := hwv.mono fun b y a e => ⟨a, (q5.2 _ (Heap.blk_lt e)).trans e⟩
          simp -implicitDefEqProofs only [next_alloc, q1, q2, q3, q4, hz0, p29_106, hji, p29_103, ht186, SS, SU, Nat.reduceAdd, Nat.reduceLeDiff, Nat.reduceBEq, Nat.reduceMul]
          generalize ((((h2.alloc (.cells ⟨49, [.int .i64 0, .string (mkS []), .string (mkS []), .bool false, .slice none 0 0, .pointer none], true⟩)).alloc (.cells ⟨29, [.int .i64 0, .int .i64 0], true⟩)).set h2.next (.cells ⟨49, [.int .i64 (yk : Int), .string (mkS yt), .string (mkS yo), .bool yq, .slice wa wn wc, .pointer none], true⟩)).set (h2.next + 1) (.cells ⟨29, [.int .i64 0, .int .i64 0], true⟩)) = h6 at *
          have b7 : (h6.set h.next (.cells ⟨49, [.int .i64 (yk : Int), .string (mkS yt), .string (mkS yo), .bool yq, .slice wa wn wc, .pointer none], true⟩)).blk h.next = some ⟨49, [.int .i64 (yk : Int), .string (mkS yt), .string (mkS yo), .bool yq, .slice wa wn wc, .pointer none], true⟩ := blk_set_eq (Heap.blk_lt ht186)
          have st : ∀ b y, h.blk b = some y → h6.blk b = some y := fun b y e => ((un_trans (un_trans u1 u2) q5).2 b (Heap.blk_lt e)).trans e
          have r7 : RS h0 (h6.set h.next (.cells ⟨49, [.int .i64 (yk : Int), .string (mkS yt), .string (mkS yo), .bool yq, .slice wa wn wc, .pointer none], true⟩)) t10 lo X ov out := by
           have hrn := r.c3
           have hrc := r.c2
           have hrc1 := r.c1
           refine ⟨(blk_set_ne (by omega)).trans r6.a, r6.c1, r6.c2, by rw [next_set]; exact r6.c3, ?_, fun x hx => by rw [next_set]; exact r6.c4 x hx, un_new r6.u (by omega) _⟩
           rcases r.o with ⟨e1, e2⟩ | ⟨ob, cs, n', e1, e2, e3, e4, e5, e6, e7⟩
           ·exact .inl ⟨e1, e2⟩
           ·have hob := Heap.blk_lt e4
            exact .inr ⟨ob, cs, n', e1, e2, e3, (blk_set_ne (by omega)).trans (st _ _ e4), e5.mono fun b y a e => ⟨a, (blk_set_ne (by have := Heap.blk_lt e; omega)).trans (st _ _ e)⟩, e6, e7⟩
          have hw7 : RepW (h6.set h.next (.cells ⟨49, [.int .i64 (yk : Int), .string (mkS yt), .string (mkS yo), .bool yq, .slice wa wn wc, .pointer none], true⟩)).blk (Al lo X) (.slice wa wn wc) yw := hw6.mono fun b y a e => by
           have a' : h1.next ≤ b := a
           exact ⟨⟨by omega, hX b a'⟩, (blk_set_ne (by omega)).trans e⟩
          generalize (h6.set h.next (.cells ⟨49, [.int .i64 (yk : Int), .string (mkS yt), .string (mkS yo), .bool yq, .slice wa wn wc, .pointer none], true⟩)) = h7 at *
          refine rp_flush rfl r7 (by omega) fun ov' h' X' r8 hn8 hm8 => ?_
          have b8 := (hm8 _ _ hA18 b7).2
          have hw8 := hw7.mono hm8
          obtain ⟨ov2, h9, X2, e1, e2, r9, _, _⟩ := r8.one yk yt yo yq wa wn wc yw hw8 (by omega)
          have hbj : j < 9223372036854775808 := by omega
          have hij' : i + (j - i) = j := by omega
          have hfin := next _ rfl hs hj r9 hij (by simp; omega)
          simp -implicitDefEqProofs only [p29_23, ix9 l i 36 hg, e36, g3, b8, e1, e2, hij', wrap_nat j hbj, SS, SU, Nat.reduceAdd, Nat.reduceLeDiff, Nat.reduceBEq, Nat.reduceMul]
          exact hfin
       ·intro v h2 q
        cases rd with
        | bad a b => obtain ⟨_, e, _⟩ := q; cases e
        | ok y =>
         obtain ⟨y, j, r'⟩ := y
         cases y with
         | none => obtain ⟨_, e, _⟩ := q; cases e
         | some y => obtain ⟨_, pv, e, _⟩ := q; cases e
     ·simp only [g3, Bool.false_eq_true, if_false] at hs
      have r1 := r.un (un_alloc h (.cells ⟨49, [.int .i64 0, .string (mkS []), .string (mkS []), .bool false, .slice none 0 0, .pointer none], true⟩))
      simp -implicitDefEqProofs only [gs, p29_10, ea, g1, p29_127, p29_18, ix9 l i c hg, e92, g2, p29_112, p29_19, e36, g3, p29_95, SS, SU, Nat.reduceAdd, Nat.reduceLeDiff, Nat.reduceBEq, Nat.reduceMul]
      refine rp_flush rfl r1 (by omega) fun ov' h' X' r2 hn2 hm2 => ?_
      have hfl := flush_len w out text
      have r3 := r2.un (un_alloc h' (.cells ⟨29, [.int .i64 19, .int .i64 (i : Int)], true⟩))
      rcases b2 (c == 39) with g4 | g4
      ·
       have n96 : (c == 96) = false := by simp at g4 ⊢; subst g4; decide
       have n34 : (c == 34) = false := by simp at g4 ⊢; subst g4; decide
       have g5 : inQ w = false := by
        rcases b2 (inQ w) with q | q
        ·exfalso
         unfold specialB at gs
         rw [g3, g2, n96, n34, q] at gs
         simp at gs
        ·exact q
       simp only [n96, n34, g4, g5, Bool.false_and, Bool.or_false, Bool.not_false, Bool.and_true, Bool.false_eq_true, if_false, if_true] at hs
       have hap := apos_loop2 (l := l) (by omega) (h := h') (n := n + 8) (N := N) (i := i) (s2 := .int .i64 (w : Int)) (s3 := .int .i64 (deep : Int)) (s10 := Pt t10) (s11 := ov') (s12 := .bool (inQ w)) (s13 := .string (mkS [])) (s14 := .bool false) (F := l29_6 (cF (n + 8)) N m) N (i + 1) (by omega) (by omega)
       simp -implicitDefEqProofs only [p29_23, ix9 l i c hg, e36, g3, e92, g2, e39, g4, p29_44, wrap_nat (i + 1) hb1, hap, SS, SU, Nat.reduceAdd, Nat.reduceLeDiff, Nat.reduceBEq, Nat.reduceMul]
       cases hfd : find 39 (l.drop (i + 1)) with
       | none =>
        simp only [hfd] at hs
        have hs := Option.some.inj hs
        subst hs
        have hge : decide (l.length ≤ l.length) = true := decide_eq_true (by omega)
        simp -implicitDefEqProofs only [p29_47, hge, rwrong_eq (n + 7), r3.a, r3.f1, SS, SU, Nat.reduceAdd, Nat.reduceLeDiff, Nat.reduceBEq, Nat.reduceMul]
        exact wp_some.2 (rp_wrong (n := n) r2)
       | some k0 =>
        simp only [hfd, List.drop_drop] at hs
        have hk0 := find_some hfd
        simp only [List.length_drop] at hk0
        rw [show i + 1 + (k0 + 1) = i + k0 + 2 by omega] at hs
        have hge : decide (l.length ≤ i + 1 + k0) = false := decide_eq_false (by omega)
        have hsv := sl9_lh l (i + 1) (i + 1 + k0) h' (by omega) (by omega)
        rw [show i + 1 + k0 - (i + 1) = k0 by omega] at hsv
        have hb3 : i + 1 + k0 + 1 < 9223372036854775808 := by omega
        obtain ⟨ov2, h2, X2, e1, e2, r4, _, _⟩ := r2.one 1 ((l.drop (i + 1)).take k0) [] false none 0 0 [] .nil (by omega)
        have ec : ((1 : Nat) : Int) = 1 := rfl
        rw [ec] at e1 e2
        have hfin := next _ rfl hs (by omega) r4 (by omega) (by simp; omega)
        rw [show i + k0 + 2 = i + 1 + k0 + 1 by omega] at hfin
        simp -implicitDefEqProofs only [p29_47, hge, wrap_nat (i + 1) hb1, hsv, e1, e2, wrap_nat (i + 1 + k0 + 1) hb3, SS, SU, Nat.reduceAdd, Nat.reduceLeDiff, Nat.reduceBEq, Nat.reduceMul]
        exact hfin
      ·rcases b2 (c == 34) with g5 | g5
       ·rcases b2 (w == 4) with g6 | g6
        ·simp only [g5, g6, Bool.and_true, Bool.or_true, if_true] at hs
         have hs := Option.some.inj hs
         subst hs
         simp -implicitDefEqProofs only [p29_23, ix9 l i c hg, e36, g3, e92, g2, e39, g4, p29_44, e34, g5, ew4, g6, rwrong_eq (n + 7), r3.a, r3.f1, SS, SU, Nat.reduceAdd, Nat.reduceLeDiff, Nat.reduceBEq, Nat.reduceMul]
         exact wp_some.2 (rp_wrong (n := n) r2)
        ·have n96 : (c == 96) = false := by simp at g5 ⊢; subst g5; decide
         have g7 : inQ w = false := by
          rcases b2 (inQ w) with q | q
          ·exfalso
           unfold specialB at gs
           rw [g3, g2, n96, g6, q] at gs
           simp at gs
          ·exact q
         simp only [n96, g4, g5, g6, g7, Bool.and_false, Bool.or_false, Bool.false_and, Bool.not_false, Bool.and_true, Bool.false_eq_true, if_false, if_true] at hs
         have hi1 : i + 1 ≤ l.length := by omega
         cases hin : parts f 1 deep [] [] (i + 1) (l.drop (i + 1)) with
         | none => rw [hin] at hs; cases hs
         | some rp =>
          have hcall := ihp 1 deep (i + 1) rp (n + 8) h' hin hi1 (by omega) hd (by omega)
          have ec1 : ((1 : Nat) : Int) = 1 := rfl
          rw [ec1] at hcall
          rw [hin] at hs
          simp -implicitDefEqProofs only [p29_23, ix9 l i c hg, e36, g3, e92, g2, e39, g4, p29_44, e34, g5, ew4, g6, wrap_nat (i + 1) hb1, SS, SU, Nat.reduceAdd, Nat.reduceLeDiff, Nat.reduceBEq, Nat.reduceMul]
          refine wp_bindR hcall ?_ ?_
          ·intro v h3 q
           obtain ⟨u3, q⟩ := q
           have r4 := r2.un u3
           have a1 : ∀ (cs : List Value), (h3.alloc (.cells ⟨29, cs, true⟩)).blk h3.next = some ⟨29, cs, true⟩ := fun cs => blk_alloc_eq
           cases rp with
           | bad a b =>
            obtain ⟨⟨e0, e⟩, hc0⟩ := q
            injection e with e; subst e
            simp only at hs
            have hs := Option.some.inj hs
            subst hs
            have hnz' : (a != 0) = true := by simp; omega
            have r5 := r4.un (un_alloc h3 (.cells ⟨29, [.int .i64 (a : Int), .int .i64 (b : Int)], true⟩))
            simp -implicitDefEqProofs only [a1, alloc_set, p29_68, hnz', r5.a, r5.f1, SS, SU, Nat.reduceAdd, Nat.reduceLeDiff, Nat.reduceBEq, Nat.reduceMul]
            exact wp_some.2 ⟨r5.done _, ⟨_, rfl⟩, hc0⟩
           | ok y =>
            obtain ⟨ps, j, r'⟩ := y
            obtain ⟨v', e, hv, hj, rfl, hij, hpl⟩ := q
            injection e with e; subst e
            simp only at hs
            have hz0 : ((0 : Int) != 0) = false := rfl
            have r5 := r4.un (un_alloc h3 (.cells ⟨29, [.int .i64 0, .int .i64 0], true⟩))
            have hv5 : RepW (h3.alloc (.cells ⟨29, [.int .i64 0, .int .i64 0], true⟩)).blk (h'.next ≤ ·) v' ps := hv.mono fun b y a e => ⟨a, (blk_alloc_lt (Heap.blk_lt e)).trans e⟩
            have hX : ∀ b, h'.next ≤ b → b ∉ X' := fun b hb hm => by have := r2.c4 b hm; omega
            have hlo' := r2.c3
            simp -implicitDefEqProofs only [a1, alloc_set, p29_68, hz0, SS, SU, Nat.reduceAdd, Nat.reduceLeDiff, Nat.reduceBEq, Nat.reduceMul]
            generalize h3.alloc (.cells ⟨29, [.int .i64 0, .int .i64 0], true⟩) = h4 at *
            rcases b2 (decide (l.length ≤ j)) with g8 | g8
            ·have hjl := of_decide_eq_true g8
             have hp34 : pre [34] (l.drop j) = false := by rw [List.drop_of_length_le hjl]; rfl
             rw [hp34] at hs
             simp only [Bool.false_eq_true, if_false] at hs
             have hs := Option.some.inj hs
             subst hs
             have r6 := r5.un (un_alloc h4 (.cells ⟨29, [.int .i64 19, .int .i64 (i : Int)], true⟩))
             simp -implicitDefEqProofs only [g8, rwrong_eq (n + 7), r6.a, r6.f1, SS, SU, Nat.reduceAdd, Nat.reduceLeDiff, Nat.reduceBEq, Nat.reduceMul]
             exact wp_some.2 (rp_wrong (n := n) r5)
            ·have hjl := of_decide_eq_false g8
             have hp34 : pre [34] (l.drop j) = true := by
              rcases parts_stop f 1 _ _ _ _ _ _ _ _ hin with e | ⟨c', t', e, hc'⟩
              ·have := congrArg List.length e; simp at this; omega
              ·rw [e]
               have : (c' == 34) = true := hc'
               simpa [pre] using this
             rw [hp34] at hs
             simp only [if_true, List.drop_drop] at hs
             have hbj : j + 1 < 9223372036854775808 := by omega
             cases hv5 with
             | nil =>
              simp only [List.isEmpty_nil, if_true] at hs
              obtain ⟨ov2, h6, X2, e1, e2, r6, _, _⟩ := r5.one 1 [] [] true none 0 0 [] .nil (by omega)
              have ec : ((1 : Nat) : Int) = 1 := rfl
              rw [ec] at e1 e2
              have hfin := next _ rfl hs (by omega) r6 (by omega) (by simp; omega)
              simp -implicitDefEqProofs only [g8, p29_82, e1, p29_79, e2, wrap_nat (j + 1) hbj, SS, SU, Nat.reduceAdd, Nat.reduceLeDiff, Nat.reduceBEq, Nat.reduceMul]
              exact hfin
             | some sb cs m' _ ha hb hl' hm' hm0 =>
              have hne' : ps.isEmpty = false := by cases ps with | nil => simp at hm'; omega | cons => rfl
              have hz : (m' == 0) = false := by simp; omega
              simp only [hne', Bool.false_eq_true, if_false] at hs
              have s5 : RepW h4.blk (Al lo X') (.slice (some ⟨sb, 0, none⟩) m' m') ps := by
               have ha' : h'.next ≤ sb := ha
               exact .some sb cs m' ps ⟨by omega, hX sb ha⟩ hb (hl'.mono fun b k' a e => ⟨⟨by have a' : h'.next ≤ b := a; omega, hX b a⟩, e⟩) hm' hm0
              obtain ⟨ov2, h6, X2, e2, r6, _, _⟩ := r5.append s5 (by omega)
              have hfin := next _ rfl hs (by omega) r6 (by omega) (by simp; omega)
              simp -implicitDefEqProofs only [g8, hz, p29_82, p29_79, e2, wrap_nat (j + 1) hbj, SS, SU, Nat.reduceAdd, Nat.reduceLeDiff, Nat.reduceBEq, Nat.reduceMul]
              exact hfin
          ·intro v h3 q
           cases rp with
           | bad a b => obtain ⟨_, ⟨e0, e⟩, _⟩ := q; cases e
           | ok y => obtain ⟨ps, j, r'⟩ := y; obtain ⟨_, v', e, _⟩ := q; cases e
       ·
        have g6 : (c == 96) = true := by
         rcases b2 (c == 96) with q | q
         ·exact q
         ·exfalso
          unfold specialB at gs
          rw [g3, g2, g4, g5, q] at gs
          simp at gs
        simp only [g6, Bool.true_or, if_true] at hs
        have hs := Option.some.inj hs
        subst hs
        simp -implicitDefEqProofs only [p29_23, ix9 l i c hg, e36, g3, e92, g2, e39, g4, p29_44, e34, g5, rwrong_eq (n + 7), r3.a, r3.f1, SS, SU, Nat.reduceAdd, Nat.reduceLeDiff, Nat.reduceBEq, Nat.reduceMul]
        exact wp_some.2 (rp_wrong (n := n) r2)
   ·
    have hno := gs
    unfold specialB at hno
    simp only [Bool.or_eq_false_iff] at hno
    obtain ⟨n36, n92, n96, n1, n2⟩ := hno
    have g1 := hp92 n92
    have q1 : (c == 39 && !inQ w) = false := by
     rcases b2 (inQ w) with q | q
     ·rw [q, Bool.not_true, Bool.and_false]
     ·rw [q, Bool.not_false, Bool.true_and, Bool.or_eq_false_iff] at n1; rw [n1.1]; rfl
    have q2 : (c == 34 && !inQ w) = false := by
     rcases b2 (inQ w) with q | q
     ·rw [q, Bool.not_true, Bool.and_false]
     ·rw [q, Bool.not_false, Bool.true_and, Bool.or_eq_false_iff] at n1; rw [n1.2]; rfl
    have q3 : (c == 34 && w == 4) = false := by rw [Bool.and_comm]; exact n2
    rw [if_neg (by rw [g1]; decide), if_neg (by rw [n92, Bool.false_and]; decide), if_neg (by rw [n92]; decide), if_neg (by rw [n36]; decide), if_neg (by rw [n96, q3]; decide), if_neg (by rw [q1]; decide), if_neg (by rw [q2]; decide)] at hs
    have hsc := bin_sadd E 9 text [c] (by simp; unfold most; omega)
    have hfin := next _ rfl hs (by omega) r (by omega) (by simp; omega)
    rw [ne_of_snoc] at hfin
    simp -implicitDefEqProofs only [gs, p29_10, wrap_nat (i + 1) hb1, hsv1, hsc, SS, SU, Nat.reduceAdd, Nat.reduceLeDiff, Nat.reduceBEq, Nat.reduceMul]
    exact hfin
 ·have hge := of_decide_eq_false h1
  have hd0 : l.drop i = [] := List.drop_of_length_le (by omega)
  rw [hd0] at hs
  simp only [parts] at hs
  have hs := Option.some.inj hs
  subst hs
  have := rp_end (n := n + 8) (N := N) (w := w) (deep := deep) (F := l29_6 (cF (n + 8)) N m) hl hi r hlen
  rw [hd0] at this
  have hhead := rp_head_ge (h := h) (n := n + 8) (N := N) (F := l29_6 (cF (n + 8)) N m) (w := w) (s3 := .int .i64 (deep : Int)) (s10 := Pt t10) (s11 := ov) (s13 := .string (mkS text)) (s14 := .bool (!text.isEmpty)) (show l.length ≤ i by omega)
  exact wp_eq hhead this
end
end Go.Proofs.YteekjekckgpbfaaDoor.Abs
end
