/- Spans and nests: the parser's and the document's agree. Plain Lean. -/
import Derived.Test.YtdcpfmjnkcodiaaDoorPlA
import Derived.Test.YtdcpfmjnkcodiaaDoorWaA
namespace Go.Proofs.YtdcpfmjnkcodiaaDoor.W
open Go Go.Jv

/-- how many operands an operation takes -/
def ar (n : Int) : Int := if 1 ≤ n ∧ n ≤ 10 then 0 else if 20 ≤ n ∧ n ≤ 22 then 1 else if (30 ≤ n ∧ n ≤ 36) ∨ (40 ≤ n ∧ n ≤ 45) ∨ n = 50 ∨ n = 51 then 2 else -1
theorem ar_range (n : Int) : -1 ≤ ar n ∧ ar n ≤ 2 := by unfold ar; repeat' split <;> omega

theorem tab_ok : ∀ k : Fin 52, arith_Arity ((k.val : Nat) : Int) = some (ar ((k.val : Nat) : Int)) := by decide

theorem arity_tree (op : Int) : arith_Arity op = some (ar op) := by
  by_cases h : 0 ≤ op ∧ op < 52
  · have := tab_ok ⟨op.toNat, by omega⟩
    simp only at this
    rwa [show ((op.toNat : Nat) : Int) = op by omega] at this
  · unfold arith_Arity arith_Arity_k1 ar
    repeat' split
    all_goals first | rfl | (exfalso; omega)

theorem arity_ref (op : Int) : junctionref3_Arity op = some (ar op) := by
  unfold junctionref3_Arity junctionref3_Arity_k4 junctionref3_Arity_k3 junctionref3_Arity_k2 junctionref3_Arity_k1 ar
  repeat' split
  all_goals first | rfl | (exfalso; omega)

/-- where a subtree begins that ends ahead of j, w values being wanted -/
def spanL (l : List NodeT) : Nat → Int → Int
  | 0, _ => -1
  | j + 1, w => if ar (l.getD j default).Op < 0 then -1 else if w + (ar (l.getD j default).Op - 1) = 0 then j else spanL l j (w + (ar (l.getD j default).Op - 1))

theorem span_tree (l : List NodeT) : ∀ (j : Nat) (w : Int), j ≤ l.length → 0 < w → w + 2 * j ≤ 4000000000000000000 → tree_Span_L1 l w ((j : Int) - 1) = some (spanL l j w) := by
  intro j
  induction j with
  | zero => intro w _ _ _; rw [tree_Span_L1, if_neg (by omega)]; rfl
  | succ j ih =>
    intro w hj hw hb
    have ha := ar_range (l.getD j default).Op
    rw [tree_Span_L1, if_pos (by omega), show ((j + 1 : Nat) : Int) - 1 = (j : Int) by omega, idx_nat, List.getElem?_eq_getElem (by omega), some_bind, arity_tree, some_bind]
    have e : l[j] = l.getD j default := by simp [List.getD, List.getElem?_eq_getElem (show j < l.length by omega)]
    rw [e, w64_id (n := ar (l.getD j default).Op - 1) (by omega), w64_id (by omega), spanL]
    split
    · rfl
    · split
      · rfl
      · rw [w64_id (by omega)]; exact ih _ (by omega) (by omega) (by omega)

theorem span_ref (l : List NodeT) : ∀ (j : Nat) (w : Int), j ≤ l.length → 0 < w → w + 2 * j ≤ 4000000000000000000 → junctionref3_Span_L1 l w ((j : Int) - 1) = some (spanL l j w) := by
  intro j
  induction j with
  | zero => intro w _ _ _; rw [junctionref3_Span_L1, if_neg (by omega)]; rfl
  | succ j ih =>
    intro w hj hw hb
    have ha := ar_range (l.getD j default).Op
    rw [junctionref3_Span_L1, if_pos (by omega), show ((j + 1 : Nat) : Int) - 1 = (j : Int) by omega, idx_nat, List.getElem?_eq_getElem (by omega), some_bind, arity_ref, some_bind]
    have e : l[j] = l.getD j default := by simp [List.getD, List.getElem?_eq_getElem (show j < l.length by omega)]
    rw [e, w64_id (n := w - 1) (by omega), show w - 1 + ar (l.getD j default).Op = w + (ar (l.getD j default).Op - 1) by omega, w64_id (by omega), spanL]
    split
    · rfl
    · split
      · rfl
      · rw [w64_id (by omega)]; exact ih _ (by omega) (by omega) (by omega)

def span (l : List NodeT) (i : Int) : Int := if i < 0 ∨ (l.length : Int) ≤ i then -1 else spanL l (i.toNat + 1) 1

theorem tree_span (l : List NodeT) (i : Int) (hl : l.length ≤ 1000000000000000) : tree_Span l i = some (span l i) := by
  unfold tree_Span span
  by_cases h : i < 0
  · rw [if_pos h, if_pos (.inl h)]
  · rw [if_neg h]
    by_cases h2 : (l.length : Int) ≤ i
    · rw [if_pos h2, if_pos (.inr h2)]
    · rw [if_neg h2, if_neg (by omega)]
      have := span_tree l (i.toNat + 1) 1 (by omega) (by omega) (by omega)
      rw [show (((i.toNat + 1 : Nat) : Int) - 1) = i by omega] at this
      exact this
theorem ref_span (l : List NodeT) (i : Int) (hl : l.length ≤ 1000000000000000) : junctionref3_Span l i = some (span l i) := by
  unfold junctionref3_Span span
  by_cases h : i < 0
  · rw [if_pos h, if_pos (.inl h)]
  · rw [if_neg h]
    by_cases h2 : (l.length : Int) ≤ i
    · rw [if_pos h2, if_pos (.inr h2)]
    · rw [if_neg h2, if_neg (by omega)]
      have := span_ref l (i.toNat + 1) 1 (by omega) (by omega) (by omega)
      rw [show (((i.toNat + 1 : Nat) : Int) - 1) = i by omega] at this
      exact this

/-- how tightly an operation holds -/
def lev (n : Int) : Int := if n = 51 then 1 else if n = 50 then 2 else if n = 21 then 3 else if 40 ≤ n ∧ n ≤ 45 then 4 else if n = 30 ∨ n = 31 then 5 else if 32 ≤ n ∧ n ≤ 34 then 6 else if n = 20 then 7 else 8
theorem level_tree (op : Int) : tree_level op = some (lev op) := by
  unfold tree_level tree_level_k1 lev
  repeat' split
  all_goals first | rfl | (exfalso; omega)
theorem level_tab : ∀ k : Fin 52, junctionref3_Level ((k.val : Nat) : Int) = some (lev ((k.val : Nat) : Int)) := by decide
theorem level_ref (op : Int) : junctionref3_Level op = some (lev op) := by
  by_cases h : 0 ≤ op ∧ op < 52
  · have := level_tab ⟨op.toNat, by omega⟩
    simp only at this
    rwa [show ((op.toNat : Nat) : Int) = op by omega] at this
  · unfold junctionref3_Level lev
    repeat rw [if_neg (by omega)]

/-- the levels that an operation asks of its operands -/
def askd (n : Int) : Int × Int := if n = 51 then (1, 2) else if n = 50 then (2, 3) else if n = 21 then (3, 3) else if 40 ≤ n ∧ n ≤ 45 then (5, 5) else if n = 30 ∨ n = 31 then (5, 6) else if 32 ≤ n ∧ n ≤ 34 then (6, 7) else if n = 20 then (7, 7) else (1, 1)
theorem asked_tab : ∀ k : Fin 52, junctionref3_Asked ((k.val : Nat) : Int) = some (askd ((k.val : Nat) : Int)) := by decide
theorem asked_ref (op : Int) : junctionref3_Asked op = some (askd op) := by
  by_cases h : 0 ≤ op ∧ op < 52
  · have := asked_tab ⟨op.toNat, by omega⟩
    simp only at this
    rwa [show ((op.toNat : Nat) : Int) = op by omega] at this
  · unfold junctionref3_Asked askd
    repeat rw [if_neg (by omega)]
/-- the first parser's levels: the second one is looked at where there are two operands -/
def fits (op : Int) (w : A2 Int) : Bool := (decide (ar op < 1) || decide (w.e0 = (askd op).1)) && (decide (ar op ≠ 2) || decide (w.e1 = (askd op).2))
theorem asks_tab : ∀ k : Fin 52, (tree_asks ((k.val : Nat) : Int)).any (fits ((k.val : Nat) : Int)) = true := by decide
theorem asks_tree (op : Int) : ∃ w : A2 Int, tree_asks op = some w ∧ (1 ≤ ar op → w.e0 = (askd op).1) ∧ (ar op = 2 → w.e1 = (askd op).2) := by
  by_cases h : 0 ≤ op ∧ op < 52
  · have h1 := asks_tab ⟨op.toNat, by omega⟩
    simp only at h1
    rw [show ((op.toNat : Nat) : Int) = op by omega] at h1
    cases hw : tree_asks op with
    | none => rw [hw] at h1; cases h1
    | some w =>
      rw [hw] at h1
      simp only [Option.any_some, fits, Bool.and_eq_true, Bool.or_eq_true, decide_eq_true_eq] at h1
      exact ⟨w, rfl, fun h2 => h1.1.resolve_left (by omega), fun h2 => h1.2.resolve_left (by simp [h2])⟩
  · have ha : ar op = -1 := by unfold ar; repeat rw [if_neg (by omega)]
    refine ⟨⟨lev op, w64 (lev op + 1)⟩, ?_, by omega, by omega⟩
    unfold tree_asks tree_asks_k3
    rw [level_tree]
    repeat' split
    all_goals first | rfl | (exfalso; omega)
end Go.Proofs.YtdcpfmjnkcodiaaDoor.W
