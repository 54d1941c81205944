/- Spans and nests: the parser's and the document's agree. Plain Lean. -/
import Derived.Test.YtdcpfmjnkcodiaaDoorB3
import Derived.Test.YtdcpfmjnkcodiaaDoorC1
namespace Go.Proofs.YtdcpfmjnkcodiaaDoor.We
open Go Go.Jv
def ar (n : Int) : Int := if 1 ≤ n ∧ n ≤ 10 then 0 else if 20 ≤ n ∧ n ≤ 22 then 1 else if (30 ≤ n ∧ n ≤ 36) ∨ (40 ≤ n ∧ n ≤ 45) ∨ n = 50 ∨ n = 51 then 2 else -1
theorem ar_range (n : Int) : -1 ≤ ar n ∧ ar n ≤ 2 := by unfold ar; repeat' split <;> omega
theorem tab_ok : ∀ k : Fin 52, arith_Arity ((k.val : Nat) : Int) = some (ar ((k.val : Nat) : Int)) := by decide
theorem arity_tree (op : Int) : arith_Arity op = some (ar op) := by
 by_cases h : 0 ≤ op ∧ op < 52
 ·have := tab_ok ⟨op.toNat, by omega⟩
  simp only at this
  rwa [show ((op.toNat : Nat) : Int) = op by omega] at this
 ·unfold arith_Arity arith_Arity_k1 ar
  repeat' split
  all_goals first | rfl | (exfalso; omega)
theorem arity_ref (op : Int) : r3_Arity op = some (ar op) := by
 unfold r3_Arity r3_Arity_k1 r3_Arity_k2 r3_Arity_k3 r3_Arity_k4 ar
 repeat' split
 all_goals first | rfl | (exfalso; omega)
def spanL (l : List NodeT) : Nat → Int → Int
 | 0, _ => -1
 | j + 1, w => if ar (l.getD j default).Op < 0 then -1 else if w + (ar (l.getD j default).Op - 1) = 0 then j else spanL l j (w + (ar (l.getD j default).Op - 1))
theorem span_tree (l : List NodeT) : ∀ (j : Nat) (w : Int), j ≤ l.length → 0 < w → w + 2 * j ≤ 4000000000000000000 → tree_Span_L1 l w ((j : Int) - 1) = some (spanL l j w) := by
 intro j
 induction j with
 | zero => intro w _ _ _; rw [tree_Span_L1, if_neg (by omega)]; rfl
 | succ j ih =>
  intro w hj hw hb
  have ha := ar_range (l.getD j default).Op
  rw [tree_Span_L1, if_pos (by omega), show ((j + 1 : Nat) : Int) - 1 = (j : Int) by omega, idx_nat, List.getElem?_eq_getElem (by omega), some_bind, arity_tree, some_bind]
  have e : l[j] = l.getD j default := by simp [List.getD, List.getElem?_eq_getElem (show j < l.length by omega)]
  rw [e, w64_id (n := ar (l.getD j default).Op - 1) (by omega), w64_id (by omega), spanL]
  split
  ·rfl
  ·split
   ·rfl
   ·rw [w64_id (by omega)]; exact ih _ (by omega) (by omega) (by omega)
theorem span_ref (l : List NodeT) : ∀ (j : Nat) (w : Int), j ≤ l.length → 0 < w → w + 2 * j ≤ 4000000000000000000 → r3_Span_L1 l w ((j : Int) - 1) = some (spanL l j w) := by
 intro j
 induction j with
 | zero => intro w _ _ _; rw [r3_Span_L1, if_neg (by omega)]; rfl
 | succ j ih =>
  intro w hj hw hb
  have ha := ar_range (l.getD j default).Op
  rw [r3_Span_L1, if_pos (by omega), show ((j + 1 : Nat) : Int) - 1 = (j : Int) by omega, idx_nat, List.getElem?_eq_getElem (by omega), some_bind, arity_ref, some_bind]
  have e : l[j] = l.getD j default := by simp [List.getD, List.getElem?_eq_getElem (show j < l.length by omega)]
  rw [e, w64_id (n := w - 1) (by omega), show w - 1 + ar (l.getD j default).Op = w + (ar (l.getD j default).Op - 1) by omega, w64_id (by omega), spanL]
  split
  ·rfl
  ·split
   ·rfl
   ·rw [w64_id (by omega)]; exact ih _ (by omega) (by omega) (by omega)
def span (l : List NodeT) (i : Int) : Int := if i < 0 ∨ (l.length : Int) ≤ i then -1 else spanL l (i.toNat + 1) 1
theorem tree_span (l : List NodeT) (i : Int) (hl : l.length ≤ 1000000000000000) : tree_Span l i = some (span l i) := by
 unfold tree_Span span
 by_cases h : i < 0
 ·rw [if_pos h, if_pos (.inl h)]
 ·rw [if_neg h]
  by_cases h2 : (l.length : Int) ≤ i
  ·rw [if_pos h2, if_pos (.inr h2)]
  ·rw [if_neg h2, if_neg (by omega)]
   have := span_tree l (i.toNat + 1) 1 (by omega) (by omega) (by omega)
   rw [show (((i.toNat + 1 : Nat) : Int) - 1) = i by omega] at this
   exact this
theorem ref_span (l : List NodeT) (i : Int) (hl : l.length ≤ 1000000000000000) : r3_Span l i = some (span l i) := by
 unfold r3_Span span
 by_cases h : i < 0
 ·rw [if_pos h, if_pos (.inl h)]
 ·rw [if_neg h]
  by_cases h2 : (l.length : Int) ≤ i
  ·rw [if_pos h2, if_pos (.inr h2)]
  ·rw [if_neg h2, if_neg (by omega)]
   have := span_ref l (i.toNat + 1) 1 (by omega) (by omega) (by omega)
   rw [show (((i.toNat + 1 : Nat) : Int) - 1) = i by omega] at this
   exact this
def lev (n : Int) : Int := if n = 51 then 1 else if n = 50 then 2 else if n = 21 then 3 else if 40 ≤ n ∧ n ≤ 45 then 4 else if n = 30 ∨ n = 31 then 5 else if 32 ≤ n ∧ n ≤ 34 then 6 else if n = 20 then 7 else 8
theorem level_tree (op : Int) : tree_level op = some (lev op) := by
 unfold tree_level tree_level_k1 lev
 repeat' split
 all_goals first | rfl | (exfalso; omega)
theorem level_tab : ∀ k : Fin 52, r3_Level ((k.val : Nat) : Int) = some (lev ((k.val : Nat) : Int)) := by decide
theorem level_ref (op : Int) : r3_Level op = some (lev op) := by
 by_cases h : 0 ≤ op ∧ op < 52
 ·have := level_tab ⟨op.toNat, by omega⟩
  simp only at this
  rwa [show ((op.toNat : Nat) : Int) = op by omega] at this
 ·unfold r3_Level lev
  repeat rw [if_neg (by omega)]
def askd (n : Int) : Int × Int := if n = 51 then (1, 2) else if n = 50 then (2, 3) else if n = 21 then (3, 3) else if 40 ≤ n ∧ n ≤ 45 then (5, 5) else if n = 30 ∨ n = 31 then (5, 6) else if 32 ≤ n ∧ n ≤ 34 then (6, 7) else if n = 20 then (7, 7) else (1, 1)
theorem asked_tab : ∀ k : Fin 52, r3_Asked ((k.val : Nat) : Int) = some (askd ((k.val : Nat) : Int)) := by decide
theorem asked_ref (op : Int) : r3_Asked op = some (askd op) := by
 by_cases h : 0 ≤ op ∧ op < 52
 ·have := asked_tab ⟨op.toNat, by omega⟩
  simp only at this
  rwa [show ((op.toNat : Nat) : Int) = op by omega] at this
 ·unfold r3_Asked askd
  repeat rw [if_neg (by omega)]
def fits (op : Int) (w : A2 Int) : Bool := (decide (ar op < 1) || decide (w.e0 = (askd op).1)) && (decide (ar op ≠ 2) || decide (w.e1 = (askd op).2))
theorem asks_tab : ∀ k : Fin 52, (tree_asks ((k.val : Nat) : Int)).any (fits ((k.val : Nat) : Int)) = true := by decide
theorem asks_tree (op : Int) : ∃ w : A2 Int, tree_asks op = some w ∧ (1 ≤ ar op → w.e0 = (askd op).1) ∧ (ar op = 2 → w.e1 = (askd op).2) := by
 by_cases h : 0 ≤ op ∧ op < 52
 ·have h1 := asks_tab ⟨op.toNat, by omega⟩
  simp only at h1
  rw [show ((op.toNat : Nat) : Int) = op by omega] at h1
  cases hw : tree_asks op with
  | none => rw [hw] at h1; cases h1
  | some w =>
   rw [hw] at h1
   simp only [Option.any_some, fits, Bool.and_eq_true, Bool.or_eq_true, decide_eq_true_eq] at h1
   exact ⟨w, rfl, fun h2 => h1.1.resolve_left (by omega), fun h2 => h1.2.resolve_left (by simp [h2])⟩
 ·have ha : ar op = -1 := by unfold ar; repeat rw [if_neg (by omega)]
  refine ⟨⟨lev op, w64 (lev op + 1)⟩, ?_, by omega, by omega⟩
  unfold tree_asks tree_asks_k2 tree_asks_k3
  rw [level_tree]
  repeat' split
  all_goals first | rfl | (exfalso; omega)
end Go.Proofs.YtdcpfmjnkcodiaaDoor.We
namespace Go.Proofs.YtdcpfmjnkcodiaaDoor.We
open Go Go.Jv
def opAt (l : List NodeT) (j : Nat) : Int := (l.getD j default).Op
def hh (l : List NodeT) : Nat → Int
 | 0 => 0
 | j + 1 => hh l j + 1 - ar (opAt l j)
theorem span_zero (l : List NodeT) : ∀ (j : Nat) (w : Int), 0 < w → spanL l j w = 0 → (∀ i, i < j → 0 ≤ ar (opAt l i)) ∧ hh l j = w ∧ ∀ i, 1 ≤ i → i ≤ j → 0 < hh l i := by
 intro j
 induction j with
 | zero => intro w _ h; simp [spanL] at h
 | succ j ih =>
  intro w hw h
  rw [spanL] at h
  have ha := ar_range (l.getD j default).Op
  split at h
  ·omega
  ·rename_i h1
   split at h
   ·rename_i h2
    have hj : j = 0 := by omega
    subst hj
    refine ⟨fun i hi => ?_, ?_, fun i h3 h4 => ?_⟩
    ·have : i = 0 := by omega
     subst this; unfold opAt; omega
    ·simp only [hh, opAt]; omega
    ·have : i = 1 := by omega
     subst this; simp only [hh, opAt]; omega
   ·rename_i h2
    obtain ⟨k1, k2, k3⟩ := ih _ (by omega) h
    refine ⟨fun i hi => ?_, ?_, fun i h3 h4 => ?_⟩
    ·by_cases e : i = j
     ·subst e; unfold opAt; omega
     ·exact k1 i (by omega)
    ·simp only [hh, opAt]; omega
    ·by_cases e : i = j + 1
     ·subst e; simp only [hh, opAt]; omega
     ·exact k3 i h3 (by omega)
theorem get_op {l : List NodeT} {j : Nat} (h : j < l.length) : (l[j]).Op = opAt l j := by
 simp [opAt, List.getD, List.getElem?_eq_getElem h]
def up (o : Tree_deepT) (want own : Int) : Int := let v := if lev o.op < want then w64 (o.nest + 1) else o.nest; if v > own then v else own
theorem inner (l : List NodeT) (st : List Tree_deepT) (n_ : NodeT) (want : A2 Int) (x y i op : Int) (a : Nat) (ha : a ≤ 2) (hs : a ≤ st.length) (hb : st.length ≤ 4000000000000) (hx : 1 ≤ a → want.e0 = x) (hy : a = 2 → want.e1 = y) (L : Int) :
  ∀ (m j : Nat) (own : Int), j + m = a → ∃ own', tree_Nest_L2 st n_ a ⟨op, own⟩ want l L i (w64 ((st.length : Int) - a)) a j = tree_Nest_L2 st n_ a ⟨op, own'⟩ want l L i (w64 ((st.length : Int) - a)) a a ∧
   r3_Nest_L3 l (st.map (·.nest)) (st.map (·.op)) i op a x y own j = r3_Nest_L3 l (st.map (·.nest)) (st.map (·.op)) i op a x y own' a := by
 intro m
 induction m with
 | zero => intro j own h; have : j = a := by omega
           subst this; exact ⟨own, rfl, rfl⟩
 | succ m ih =>
  intro j own h
  have hw : w64 ((st.length : Int) - a) = ((st.length - a : Nat) : Int) := by rw [w64_id (by omega)]; omega
  have hlt : st.length - a + j < st.length := by omega
  have hwant : ∃ wv, A2.get want (j : Int) = some wv ∧ (if (j : Int) = 1 then y else x) = wv := by
   have hj : j = 0 ∨ j = 1 := by omega
   rcases hj with rfl | rfl
   ·exact ⟨want.e0, by simp [A2.get], by rw [hx (by omega)]; rfl⟩
   ·exact ⟨want.e1, by simp [A2.get], by rw [hy (by omega)]; rfl⟩
  obtain ⟨wv, hw1, hw2⟩ := hwant
  obtain ⟨own', h1, h2⟩ := ih (j + 1) (up (st[st.length - a + j]) wv own) (by omega)
  refine ⟨own', ?_, ?_⟩
  ·rw [← h1]
   conv => lhs; rw [tree_Nest_L2_eq]
   rw [if_pos (by omega), idx_nat, hw]
   have e : (List.drop (((st.length - a : Nat) : Int)).toNat st)[j]? = some (st[st.length - a + j]) := by
    rw [List.getElem?_drop, Int.toNat_natCast, List.getElem?_eq_getElem hlt]
   rw [e, some_bind, level_tree, some_bind, hw1, some_bind]
   simp only [tree_Nest_k3_eq]
   rw [w64_id (n := (j : Int) + 1) (by omega), show ((j + 1 : Nat) : Int) = (j : Int) + 1 by omega]
   unfold up
   split <;> rfl
  ·rw [← h2]
   conv => lhs; rw [r3_Nest_L3_eq]
   rw [if_pos (by omega)]
   have e0 : w64 (w64 (((st.map (·.nest)).length : Int) - a) + j) = ((st.length - a + j : Nat) : Int) := by
    rw [List.length_map, hw, w64_id (by omega)]; omega
   have key : ∀ asked, r3_Nest_k4 l (st.map (·.nest)) (st.map (·.op)) i op a x y own j (w64 (w64 (((st.map (·.nest)).length : Int) - a) + j)) asked = r3_Nest_L3 l (st.map (·.nest)) (st.map (·.op)) i op a x y (up (st[st.length - a + j]) asked own) ((j + 1 : Nat) : Int) := by
    intro asked
    rw [e0, r3_Nest_k4_eq, idx_nat, idx_nat, List.getElem?_map, List.getElem?_map, List.getElem?_eq_getElem hlt]
    simp only [Option.map_some, some_bind]
    rw [level_ref, some_bind]
    simp only [r3_Nest_k8_eq, r3_Nest_k7_eq]
    rw [w64_id (n := (j : Int) + 1) (by omega), show ((j + 1 : Nat) : Int) = (j : Int) + 1 by omega]
    unfold up
    simp only
    by_cases c1 : lev (st[st.length - a + j]).op < asked
    ·simp only [if_pos c1]
     split <;> rfl
    ·simp only [if_neg c1]
     split <;> rfl
   rw [← hw2]
   split
   ·exact key y
   ·exact key x
def opensB (op : Int) : Bool := decide (op = 20 ∨ op = 21 ∨ op = 22 ∨ op = 35 ∨ op = 36)
theorem tree_after (l : List NodeT) (st : List Tree_deepT) (n_ : NodeT) (want : A2 Int) (i own L lo : Int) (a : Nat) (hs : a ≤ st.length) (hb : st.length ≤ 4000000000000) :
  tree_Nest_L2 st n_ a ⟨n_.Op, own⟩ want l L i lo a a = tree_Nest_L1 (st.take (st.length - a) ++ [⟨n_.Op, if opensB n_.Op then w64 (own + 1) else own⟩]) l L (w64 (i + 1)) := by
 have hw : w64 ((st.length : Int) - a) = ((st.length - a : Nat) : Int) := by rw [w64_id (by omega)]; omega
 rw [tree_Nest_L2_eq, if_neg (by omega), hw, cut_pre (by omega) (by omega), Int.toNat_natCast, some_bind]
 have h5 : ∀ d, tree_Nest_k5 (st.take (st.length - a)) d l L i = tree_Nest_L1 (st.take (st.length - a) ++ [d]) l L (w64 (i + 1)) := by
  intro d
  rw [tree_Nest_k5_eq, app_ok (by simp; omega), some_bind]
 simp only [tree_Nest_k4_eq, h5]
 unfold opensB
 repeat' split
 all_goals first | rfl | (exfalso; simp_all; done) | (exfalso; simp_all; omega)
theorem ref_after (l : List NodeT) (st : List Tree_deepT) (op x y i own : Int) (a : Nat) (hs : a ≤ st.length) (hb : st.length ≤ 4000000000000) :
  r3_Nest_L3 l (st.map (·.nest)) (st.map (·.op)) i op a x y own a = r3_Nest_L2 l ((st.take (st.length - a) ++ [(⟨op, if opensB op then w64 (own + 1) else own⟩ : Tree_deepT)]).map (·.nest)) ((st.take (st.length - a) ++ [(⟨op, if opensB op then w64 (own + 1) else own⟩ : Tree_deepT)]).map (·.op)) (w64 (i + 1)) := by
 have hw : w64 ((st.length : Int) - a) = ((st.length - a : Nat) : Int) := by rw [w64_id (by omega)]; omega
 rw [r3_Nest_L3_eq, if_neg (by omega)]
 have h6 : ∀ o, r3_Nest_k6 l (st.map (·.nest)) (st.map (·.op)) i op a o = r3_Nest_L2 l ((st.take (st.length - a) ++ [(⟨op, o⟩ : Tree_deepT)]).map (·.nest)) ((st.take (st.length - a) ++ [(⟨op, o⟩ : Tree_deepT)]).map (·.op)) (w64 (i + 1)) := by
  intro o
  rw [r3_Nest_k6_eq, List.length_map, List.length_map, hw, cut_pre (by omega) (by simp), some_bind, app_ok (by simp; omega), some_bind, cut_pre (by omega) (by simp), some_bind, app_ok (by simp; omega), some_bind]
  simp [List.map_take]
 simp only [r3_Nest_k5_eq, h6]
 unfold opensB
 repeat' split
 all_goals first | rfl | (exfalso; simp_all; done) | (exfalso; simp_all; omega)
theorem nest_loop (l : List NodeT) (hl : l.length ≤ 3000000000000) (hz : spanL l l.length 1 = 0) : ∀ (m i : Nat) (st : List Tree_deepT), i + m = l.length → 1 ≤ l.length → (st.length : Int) = hh l i → i ≤ l.length →
  ∃ v, tree_Nest_L1 st l l.length i = some v ∧ r3_Nest_L2 l (st.map (·.nest)) (st.map (·.op)) i = some v := by
 obtain ⟨k1, k2, k3⟩ := span_zero l l.length 1 (by omega) hz
 intro m
 induction m with
 | zero =>
  intro i st h h1 hs _
  have e : i = l.length := by omega
  subst e
  have hpos : 0 < st.length := by have := k3 l.length h1 (Nat.le_refl _); omega
  rw [tree_Nest_L1_eq, if_neg (by omega), r3_Nest_L2_eq, if_neg (by omega)]
  refine ⟨(st[0]).nest, ?_, ?_⟩
  ·rw [show (0 : Int) = ((0 : Nat) : Int) from rfl, idx_nat, List.getElem?_eq_getElem hpos]; rfl
  ·rw [show (0 : Int) = ((0 : Nat) : Int) from rfl, idx_nat, List.getElem?_map, List.getElem?_eq_getElem hpos]; rfl
 | succ m ih =>
  intro i st h h1 hs hi
  have hlt : i < l.length := by omega
  have ha0 := k1 i hlt
  have ha2 := ar_range (opAt l i)
  have hn := k3 (i + 1) (by omega) (by omega)
  have hhi : hh l (i + 1) = hh l i + 1 - ar (opAt l i) := rfl
  have hup : ∀ j, j ≤ l.length → hh l j ≤ j := by
   intro j
   induction j with
   | zero => intro _; simp [hh]
   | succ j ihj => intro hj; have := ihj (by omega); have := k1 j (by omega); simp only [hh]; omega
  have hub := hup i hi
  obtain ⟨a, hae⟩ : ∃ a : Nat, (a : Int) = ar (opAt l i) := ⟨(ar (opAt l i)).toNat, by omega⟩
  obtain ⟨want, hw0, hw1, hw2⟩ := asks_tree (opAt l i)
  obtain ⟨own', e1, e2⟩ := inner l st l[i] want (askd (opAt l i)).1 (askd (opAt l i)).2 i (opAt l i) a (by omega) (by omega) (by omega) (fun h => hw1 (by omega)) (fun h => hw2 (by omega)) l.length a 0 0 (by omega)
  have hop := get_op hlt
  have e3 := tree_after l st l[i] want i own' l.length (w64 ((st.length : Int) - a)) a (by omega) (by omega)
  have e4 := ref_after l st (opAt l i) (askd (opAt l i)).1 (askd (opAt l i)).2 i own' a (by omega) (by omega)
  rw [hop] at e3
  rw [w64_id (n := (i : Int) + 1) (by omega)] at e3 e4
  obtain ⟨v, v1, v2⟩ := ih (i + 1) (st.take (st.length - a) ++ [⟨opAt l i, if opensB (opAt l i) then w64 (own' + 1) else own'⟩]) (by omega) h1 (by simp; omega) (by omega)
  refine ⟨v, ?_, ?_⟩
  ·rw [tree_Nest_L1_eq, if_pos (by omega), idx_nat, List.getElem?_eq_getElem hlt, some_bind, hop, arity_tree, some_bind, hw0, some_bind, ← hae]
   have hw : w64 ((st.length : Int) - a) = ((st.length - a : Nat) : Int) := by rw [w64_id (by omega)]; omega
   rw [cut_ok (by omega) (by omega) (by omega), some_bind]
   have e5 : ((List.drop (w64 ((st.length : Int) - a)).toNat st).length : Int) = a := by rw [hw]; simp; omega
   rw [e5]
   refine (e1.trans (e3.trans ?_))
   exact v1
  ·rw [r3_Nest_L2_eq, if_pos (by omega), idx_nat, List.getElem?_eq_getElem hlt, some_bind, hop, arity_ref, some_bind, asked_ref, some_bind, ← hae]
   refine (e2.trans (e4.trans ?_))
   exact v2
theorem nests (l : List NodeT) (hl : l.length ≤ 3000000000000) : ∃ v, tree_Nest l = some v ∧ r3_Nest l = some v := by
 unfold tree_Nest r3_Nest r3_One
 by_cases h0 : l.length = 0
 ·have : l = [] := List.eq_nil_of_length_eq_zero h0
  subst this
  exact ⟨-1, by decide, by rfl⟩
 ·rw [w64_id (n := (l.length : Int) - 1) (by omega), tree_span l _ (by omega), some_bind, if_neg (show ¬ (l.length : Int) = 0 by omega), ref_span l _ (by omega)]
  simp only [some_bind]
  by_cases hz : span l ((l.length : Int) - 1) = 0
  ·have hz' : spanL l l.length 1 = 0 := by
    unfold span at hz
    rw [if_neg (by omega)] at hz
    rwa [show ((l.length : Int) - 1).toNat + 1 = l.length by omega] at hz
   obtain ⟨v, v1, v2⟩ := nest_loop l hl hz' l.length 0 [] (by omega) (by omega) rfl (by omega)
   refine ⟨v, ?_, ?_⟩
   ·rw [if_pos hz]; exact v1
   ·simp only [hz, decide_true, if_true]
    unfold r3_Nest_k1
    exact v2
  ·refine ⟨-1, ?_, ?_⟩
   ·rw [if_neg hz]
   ·simp only [hz, decide_false]; rfl
end Go.Proofs.YtdcpfmjnkcodiaaDoor.We
namespace Go.Proofs.YtdcpfmjnkcodiaaDoor.We
open Go Go.Jv
theorem in_eq (n lo hi : Int) : c_in n lo hi = some (decide (lo ≤ n ∧ n ≤ hi)) := by
 unfold c_in; by_cases h : lo ≤ n
 ·rw [if_pos h]; simp [h]
 ·rw [if_neg h]; simp [h]
theorem within_eq (n lo hi : Int) : r5_within n lo hi = some (decide (lo ≤ n ∧ n ≤ hi)) := in_eq n lo hi
theorem grid_pairs (t : TablesT) (hc : t.Conflicts.length ≤ 1000000000000) : ∀ (k i : Nat) (a b : Int), i + k = t.Conflicts.length →
  (i = 0 → a = -1 ∧ b = -1) → (∀ h : 0 < i ∧ i ≤ t.Conflicts.length, a = (t.Conflicts[i - 1]'(by omega)).A ∧ b = (t.Conflicts[i - 1]'(by omega)).B) →
  E2 (c_Grid_L2 t a b t.Conflicts t.Conflicts.length i) (r5_Grid_L2 t t.Groups.length i) := by
 intro k
 induction k with
 | zero => intro i a b h _ _; rw [c_Grid_L2_eq, r5_Grid_L2_eq, if_neg (by omega), if_neg (by omega)]; exact .rfl'
 | succ k ih =>
  intro i a b h h0 h1
  have hi : i < t.Conflicts.length := by omega
  rw [c_Grid_L2_eq, r5_Grid_L2_eq, if_pos (by omega), if_pos (by omega), idx_at hi]
  simp only [some_bind, in_eq, within_eq, c_Grid_k3_eq, r5_Grid_k3_eq, decide_eq_true_eq]
  have hn := ih (i + 1) (t.Conflicts[i]).A (t.Conflicts[i]).B (by omega) (by omega) (fun h => ⟨rfl, rfl⟩)
  rw [← w64_succ (by omega)] at hn
  refine .ite (fun _ => .rfl') fun c1 => .ite (fun _ => .rfl') fun c2 => .ite (fun _ => .rfl') fun c3 => .ite (fun c4 => .ite (fun c5 => ?_) fun _ => .rfl') fun _ => .rfl'
  by_cases hz : i = 0
  ·obtain ⟨rfl, rfl⟩ := h0 hz
   rw [if_neg (by omega), if_neg (by omega), if_neg (by omega)]; exact hn
  ·obtain ⟨rfl, rfl⟩ := h1 ⟨by omega, by omega⟩
   rw [if_pos (show (i : Int) > 0 by omega), w64_id (n := (i : Int) - 1) (by omega), show (i : Int) - 1 = ((i - 1 : Nat) : Int) by omega, idx_at (by omega), some_bind]
   exact .ite (fun _ => .rfl') fun _ => .ite (fun _ => .ite (fun _ => .rfl') fun _ => hn) fun _ => hn
theorem grid_groups (t : TablesT) (hg : t.Groups.length ≤ 1000000000000) (hc : t.Conflicts.length ≤ 1000000000000) : ∀ (k i : Nat), i + k = t.Groups.length →
  E2 (c_Grid_L1 t t.Groups t.Groups.length i) (r5_Grid_L1 t t.Groups.length i) := by
 intro k
 induction k with
 | zero =>
  intro i h; rw [c_Grid_L1, r5_Grid_L1, if_neg (by omega), if_neg (by omega)]
  exact grid_pairs t hc t.Conflicts.length 0 _ _ (by omega) (fun _ => ⟨rfl, rfl⟩) (fun h => absurd h.1 (by omega))
 | succ k ih =>
  intro i h
  have hi : i < t.Groups.length := by omega
  rw [c_Grid_L1, r5_Grid_L1, if_pos (by omega), if_pos (by omega), idx_at hi]
  simp only [some_bind, in_eq, within_eq, decide_eq_true_eq]
  have hn := ih (i + 1) (by omega)
  rw [← w64_succ (by omega)] at hn
  exact .ite (fun _ => .ite (fun _ => .ite (fun _ => .ite (fun _ => hn) fun _ => .rfl') fun _ => .rfl') fun _ => .rfl') fun _ => .rfl'
theorem grids (t : TablesT) (hg : t.Groups.length ≤ 1000000000000) (hc : t.Conflicts.length ≤ 1000000000000) : E2 (c_Grid t) (r5_Grid t) := by
 unfold c_Grid r5_Grid
 exact .ite (fun _ => .rfl') fun _ => grid_groups t hg hc t.Groups.length 0 (by omega)
theorem result_pushed1 (op a : Int) (h : 20 ≤ op ∧ op ≤ 22) : ∃ r, c_operated op a 0 = some r ∧ r5_result op a 0 = some r := by
 have : op = 20 ∨ op = 21 ∨ op = 22 := by omega
 unfold c_operated c_operated_k1 r5_result r5_result_k1
 rcases this with rfl | rfl | rfl <;> simp <;> split <;> simp
theorem result_pushed2 (op a b : Int) (h : ar op = 2) : ∃ r, c_operated op a b = some r ∧ r5_result op a b = some r := by
 have : op = 30 ∨ op = 31 ∨ op = 32 ∨ op = 33 ∨ op = 34 ∨ op = 35 ∨ op = 36 ∨ op = 40 ∨ op = 41 ∨ op = 42 ∨ op = 43 ∨ op = 44 ∨ op = 45 ∨ op = 50 ∨ op = 51 := by
  unfold ar at h; repeat' split at h
  all_goals omega
 unfold c_operated c_operated_k2 c_operated_k3 c_operated_k4 r5_result r5_result_k2 r5_result_k3 r5_result_k4 r5_result_k5
 rcases this with rfl | rfl | rfl | rfl | rfl | rfl | rfl | rfl | rfl | rfl | rfl | rfl | rfl | rfl | rfl <;> simp <;> (repeat' split) <;> simp_all
end Go.Proofs.YtdcpfmjnkcodiaaDoor.We
namespace Go.Proofs.YtdcpfmjnkcodiaaDoor.We
open Go Go.Jv
theorem place_eq (v n : Int) (hv : -2147483648 ≤ v ∧ v ≤ 2147483647) : c_place v n = some (decide (0 ≤ v ∧ v < n)) := by
 unfold c_place; rw [w64_id (by omega)]; by_cases h : 0 ≤ v
 ·rw [if_pos h]; simp [h]
 ·rw [if_neg h]; simp [h]
def leafTy (t : TypedT) (n : NodeT) : Int :=
 if n.Op = 1 then 1 else if n.Op = 2 then (if n.Val = 0 ∨ n.Val = 1 then 2 else 0) else if n.Op = 4 then (if n.Val = 0 then 1 else 0) else
 if n.Op = 7 then (if 0 ≤ n.Val ∧ n.Val < t.Vars.length then 1 else 0) else if n.Op = 8 then (if 0 ≤ n.Val ∧ n.Val < t.Timers.length then 1 else 0) else
 if n.Op = 9 then (if 0 ≤ n.Val ∧ n.Val < t.Counters.length then 1 else 0) else if n.Op = 5 ∨ n.Op = 6 then (if 0 ≤ n.Val ∧ n.Val < t.Tables.Groups.length then 2 else 0) else
 if n.Op = 10 then (if 0 ≤ n.Val ∧ n.Val < t.Dets.length then 2 else 0) else 0
theorem leaf_ref (t : TypedT) (n : NodeT) (hv : -2147483648 ≤ n.Val ∧ n.Val ≤ 2147483647) : r5_leaf t n = some (leafTy t n) := by
 unfold r5_leaf r5_leaf_k1 r5_leaf_k2 r5_room r5_room_k1 leafTy
 rw [w64_id (by omega)]
 by_cases h1 : n.Op = 1
 ·simp [h1]
 by_cases h2 : n.Op = 2
 ·simp [h2]; repeat' split
  all_goals first | rfl | (exfalso; omega)
 by_cases h4 : n.Op = 4
 ·simp [h4]; split <;> simp [*]
 by_cases h5 : n.Op = 5
 ·simp [h5]; repeat' split
  all_goals first | rfl | (exfalso; omega)
 by_cases h6 : n.Op = 6
 ·simp [h6]; repeat' split
  all_goals first | rfl | (exfalso; omega)
 by_cases h7 : n.Op = 7
 ·simp [h7]; repeat' split
  all_goals first | rfl | (exfalso; omega)
 by_cases h8 : n.Op = 8
 ·simp [h8]; repeat' split
  all_goals first | rfl | (exfalso; omega)
 by_cases h9 : n.Op = 9
 ·simp [h9]; repeat' split
  all_goals first | rfl | (exfalso; omega)
 by_cases h10 : n.Op = 10
 ·simp [h10]; repeat' split
  all_goals first | rfl | (exfalso; omega)
 simp [*]
theorem leaf_check (typ : Int) (t : TypedT) (st : List Int) (e : List NodeT) (i : Nat) (hi : i < e.length) (hs : st.length ≤ 1000000000) (he : e.length ≤ 1000000000)
  (hv : -2147483648 ≤ (e[i]).Val ∧ (e[i]).Val ≤ 2147483647) (hn : (e[i]).Name = ⟨#[]⟩) (hl : (e[i]).At.Line = 0) (hc : (e[i]).At.Col = 0) (ha : ar (e[i]).Op = 0) :
  c_SoundExpr_L1 typ t st e e.length i = if leafTy t e[i] = 0 then some false else c_SoundExpr_L1 typ t (st ++ [leafTy t e[i]]) e e.length ((i + 1 : Nat) : Int) := by
 have ap : ∀ x, app 8 st [x] = some (st ++ [x]) := fun x => app_ok (by simp; omega)
 rw [c_SoundExpr_L1_eq, if_pos (by omega), idx_at hi, some_bind]
 simp only [hn, hl, hc, if_true, decide_true, Bool.and_true, Bool.true_and, Bool.not_true, Bool.false_eq_true, if_false, c_SoundExpr_k2_eq, c_SoundExpr_k3_eq, c_SoundExpr_k5_eq, ap, some_bind, w64_succ (show i < 4611686018427387904 by omega)]
 generalize e[i] = n at *
 unfold c_value c_value_k1 leafTy
 have h : n.Op = 1 ∨ n.Op = 2 ∨ n.Op = 3 ∨ n.Op = 4 ∨ n.Op = 5 ∨ n.Op = 6 ∨ n.Op = 7 ∨ n.Op = 8 ∨ n.Op = 9 ∨ n.Op = 10 := by
  unfold ar at ha; repeat' split at ha
  all_goals omega
 simp only [place_eq _ _ hv, some_bind]
 rcases h with h | h | h | h | h | h | h | h | h | h <;> simp [h]
 all_goals (repeat' split)
 all_goals first | rfl | (exfalso; omega) | simp_all <;> omega
theorem op_check (typ : Int) (t : TypedT) (st : List Int) (e : List NodeT) (i : Nat) (hi : i < e.length) (hs : st.length ≤ 1000000000) (he : e.length ≤ 1000000000)
  (hn : (e[i]).Name = ⟨#[]⟩) (hl : (e[i]).At.Line = 0) (hc : (e[i]).At.Col = 0) (ha : 20 ≤ (e[i]).Op) :
  c_SoundExpr_L1 typ t st e e.length i = if (e[i]).Val = 0 then c_pushed st (e[i]).Op >>= fun p => if p.2 = true then c_SoundExpr_L1 typ t p.1 e e.length ((i + 1 : Nat) : Int) else some false else some false := by
 rw [c_SoundExpr_L1_eq, if_pos (by omega), idx_at hi, some_bind]
 simp only [hn, hl, hc, if_true, decide_true, Bool.and_true, Bool.true_and, Bool.not_true, Bool.false_eq_true, if_false, c_SoundExpr_k4_eq, c_SoundExpr_k5_eq, w64_succ (show i < 4611686018427387904 by omega)]
 generalize e[i] = n at *
 unfold c_value c_value_k1
 simp only [show ¬ n.Op = 1 by omega, show ¬ n.Op = 2 by omega, show ¬ n.Op = 3 by omega, show ¬ n.Op = 4 by omega, show ¬ n.Op = 5 by omega, show ¬ n.Op = 6 by omega, show ¬ n.Op = 7 by omega, show ¬ n.Op = 8 by omega, show ¬ n.Op = 9 by omega, show ¬ n.Op = 10 by omega, if_false, some_bind]
 by_cases h0 : n.Val = 0
 ·simp [h0]
 ·simp [h0]
theorem ar0 {op : Int} (h : ar op = 0) : 1 ≤ op ∧ op ≤ 10 := by
 unfold ar at h
 repeat' split at h
 all_goals omega
theorem ar1 {op : Int} (h : ar op = 1) : 20 ≤ op ∧ op ≤ 22 := by
 unfold ar at h
 repeat' split at h
 all_goals omega
theorem ar2 {op : Int} (h : ar op = 2) : 30 ≤ op := by
 unfold ar at h
 repeat' split at h
 all_goals omega
theorem arp {op : Int} (h : 0 ≤ ar op) (h0 : ¬ ar op = 0) : 20 ≤ op := by
 unfold ar at h h0
 repeat' split at h
 all_goals omega
def Rg (x : Option Int) : Prop := ∃ r, x = some r ∧ 0 ≤ r ∧ r ≤ 2
theorem Rg.ite {c : Prop} [Decidable c] {a b : Option Int} (h : Rg a) (h' : Rg b) : Rg (if c then a else b) := by by_cases hc : c <;> simp [hc, h, h']
theorem oper_range (op a b : Int) {r : Int} : c_operated op a b = some r → 0 ≤ r ∧ r ≤ 2 := by
 have : Rg (c_operated op a b) := by
  unfold c_operated c_operated_k1 c_operated_k2 c_operated_k3 c_operated_k4
  repeat' refine Rg.ite ?_ ?_
  all_goals exact ⟨_, rfl, by omega, by omega⟩
 intro h
 obtain ⟨x, h1, h2⟩ := this
 rw [h1] at h
 obtain rfl := Option.some.inj h
 exact h2
theorem expr_step (typ : Int) (t : TypedT) (st : List Int) (e : List NodeT) (i : Nat) (hi : i < e.length) (hs : st.length ≤ 1000000000) (he : e.length ≤ 1000000000)
  (hv : -2147483648 ≤ (e[i]).Val ∧ (e[i]).Val ≤ 2147483647) (ha : 0 ≤ ar (e[i]).Op) (hst : ar (e[i]).Op ≤ st.length) :
  ∃ r, (0 ≤ r ∧ r ≤ 2) ∧ c_SoundExpr_L1 typ t st e e.length i = (if r = 0 then some false else c_SoundExpr_L1 typ t (st.take (st.length - (ar (e[i]).Op).toNat) ++ [r]) e e.length ((i + 1 : Nat) : Int)) ∧
   r5_typed_L1 e t st i = (if r = 0 then some 0 else r5_typed_L1 e t (st.take (st.length - (ar (e[i]).Op).toNat) ++ [r]) ((i + 1 : Nat) : Int)) := by
 by_cases hn : (e[i]).Name = ⟨#[]⟩
 case neg =>
  refine ⟨0, by omega, ?_, ?_⟩
  ·rw [c_SoundExpr_L1_eq, if_pos (by omega), idx_at hi, some_bind, if_neg hn, if_pos rfl]
  ·rw [r5_typed_L1_eq, if_pos (by omega), idx_at hi, some_bind, if_neg hn, if_pos rfl]
 by_cases hl : (e[i]).At.Line = 0
 case neg =>
  refine ⟨0, by omega, ?_, ?_⟩
  ·rw [c_SoundExpr_L1_eq, if_pos (by omega), idx_at hi, some_bind, if_pos hn, if_pos (by simp [hl]), if_pos rfl]
  ·rw [r5_typed_L1_eq, if_pos (by omega), idx_at hi, some_bind, if_pos hn, if_neg hl, if_pos rfl]
 by_cases hc : (e[i]).At.Col = 0
 case neg =>
  refine ⟨0, by omega, ?_, ?_⟩
  ·rw [c_SoundExpr_L1_eq, if_pos (by omega), idx_at hi, some_bind, if_pos hn, if_pos (by simp [hc]), if_pos rfl]
  ·rw [r5_typed_L1_eq, if_pos (by omega), idx_at hi, some_bind, if_pos hn, if_pos hl, if_neg hc, if_pos rfl]
 have href : r5_typed_L1 e t st i = (r5_operands (e[i]).Op) >>= fun t39 => (if t39 = 0 then (r5_leaf t (e[i])) >>= fun t43 => (app 8 st [t43]) >>= fun t47 => r5_typed_k2 e t t47 i t43 else (if (e[i]).Val = 0 then (r5_operands (e[i]).Op) >>= fun t53 => (if t53 = 1 then (idx st (w64 ((st.length : Int) - 1))) >>= fun t60 => (r5_result (e[i]).Op t60 0) >>= fun t62 => (idx st (w64 ((st.length : Int) - 1))) >>= fun t67 => (some (st.set ((w64 ((st.length : Int) - 1)).toNat) t62)) >>= fun l6884 => r5_typed_k2 e t l6884 i t62 else (idx st (w64 ((st.length : Int) - 2))) >>= fun t73 => (idx st (w64 ((st.length : Int) - 1))) >>= fun t78 => (r5_result (e[i]).Op t73 t78) >>= fun t80 => (idx st (w64 ((st.length : Int) - 2))) >>= fun t85 => (some (st.set ((w64 ((st.length : Int) - 2)).toNat) t80)) >>= fun l6888 => (cut l6888 0 (w64 ((st.length : Int) - 1))) >>= fun t89 => r5_typed_k2 e t t89 i t80) else some 0)) := by
  rw [r5_typed_L1_eq, if_pos (by omega), idx_at hi, some_bind, if_pos hn, if_pos hl, if_pos hc]
 simp only [r5_typed_k2_eq, w64_succ (show i < 4611686018427387904 by omega)] at href
 have har := ar_range (e[i]).Op
 by_cases a0 : ar (e[i]).Op = 0
 ·have hop : ¬ (e[i]).Op ≥ 30 ∧ ¬ (e[i]).Op ≥ 20 := ⟨by have := ar0 a0; omega, by have := ar0 a0; omega⟩
  refine ⟨leafTy t e[i], ?_, ?_, ?_⟩
  ·unfold leafTy; repeat' split
   all_goals omega
  ·rw [leaf_check typ t st e i hi hs he hv hn hl hc a0, a0]; simp
  ·rw [href, r5_operands, if_neg hop.1, if_neg hop.2, some_bind, if_pos rfl, leaf_ref _ _ hv, some_bind, app_ok (by simp; omega), some_bind, a0]; simp
 by_cases hval : (e[i]).Val = 0
 case neg =>
  have hop : 20 ≤ (e[i]).Op := arp ha a0
  refine ⟨0, by omega, ?_, ?_⟩
  ·rw [op_check typ t st e i hi hs he hn hl hc hop, if_neg hval, if_pos rfl]
  ·rw [href, r5_operands]
   by_cases h30 : (e[i]).Op ≥ 30
   ·rw [if_pos h30, some_bind, if_neg (by omega), if_neg hval, if_pos rfl]
   ·rw [if_neg h30, if_pos (by omega), some_bind, if_neg (by omega), if_neg hval, if_pos rfl]
 by_cases a1 : ar (e[i]).Op = 1
 ·have hop : 20 ≤ (e[i]).Op ∧ (e[i]).Op ≤ 22 := ar1 a1
  obtain ⟨r, r1, r2⟩ := result_pushed1 (e[i]).Op (st[st.length - 1]'(by omega)) hop
  have hw : w64 ((st.length : Int) - 1) = ((st.length - 1 : Nat) : Int) := by rw [w64_id (by omega)]; omega
  refine ⟨r, ?_, ?_, ?_⟩
  ·exact oper_range _ _ _ r1
  ·rw [op_check typ t st e i hi hs he hn hl hc hop.1, if_pos hval, c_pushed, if_pos (by omega), hw, idx_at (by omega), some_bind, c_pushed_k1, r1, some_bind, cut_pre (by omega) (by omega), some_bind, app_ok (by simp; omega)]
   simp only [some_bind, a1]
   by_cases hr : r = 0
   ·simp [hr]
   ·simp [hr]
  ·rw [href, r5_operands, if_neg (by omega), if_pos hop.1, some_bind, if_neg (by omega), if_pos hval, some_bind, if_pos rfl, hw, idx_at (by omega), some_bind, r2, some_bind, some_bind, some_bind, a1]
   congr 2
   rw [Int.toNat_natCast]
   apply List.ext_getElem (by simp; omega)
   intro j h1 h2
   simp only [List.getElem_set, List.getElem_append, List.length_take, List.getElem_take]
   simp at h1
   by_cases hj : st.length - 1 = j
   ·subst hj; simp
   ·rw [if_neg hj, dif_pos (by simp; omega)]
 ·have a2 : ar (e[i]).Op = 2 := by omega
  have hop : 30 ≤ (e[i]).Op := ar2 a2
  obtain ⟨r, r1, r2⟩ := result_pushed2 (e[i]).Op (st[st.length - 2]'(by omega)) (st[st.length - 1]'(by omega)) a2
  have hw : w64 ((st.length : Int) - 1) = ((st.length - 1 : Nat) : Int) := by rw [w64_id (by omega)]; omega
  have hw2 : w64 ((st.length : Int) - 2) = ((st.length - 2 : Nat) : Int) := by rw [w64_id (by omega)]; omega
  refine ⟨r, ?_, ?_, ?_⟩
  ·exact oper_range _ _ _ r1
  ·rw [op_check typ t st e i hi hs he hn hl hc (by omega), if_pos hval, c_pushed, if_neg (by omega), hw, hw2, idx_at (by omega), some_bind, idx_at (by omega), some_bind, c_pushed_k1, r1, some_bind, cut_pre (by omega) (by omega), some_bind, app_ok (by simp; omega)]
   simp only [some_bind, a2]
   by_cases hr : r = 0
   ·simp [hr]
   ·simp [hr]
  ·rw [href, r5_operands, if_pos hop, some_bind, if_neg (by omega), if_pos hval, some_bind, if_neg (by omega), hw, hw2, idx_at (by omega), some_bind, idx_at (by omega), some_bind, r2, some_bind, some_bind, some_bind, cut_pre (by omega) (by simp), some_bind, a2]
   congr 2
   rw [Int.toNat_natCast, Int.toNat_natCast]
   apply List.ext_getElem (by simp; omega)
   intro j h1 h2
   simp only [List.getElem_take, List.getElem_set, List.getElem_append, List.length_take]
   simp at h1
   by_cases hj : st.length - 2 = j
   ·subst hj; simp
   ·rw [if_neg hj, dif_pos (by simp; omega)]
theorem hh_le (l : List NodeT) (k1 : ∀ i, i < l.length → 0 ≤ ar (opAt l i)) : ∀ j, j ≤ l.length → hh l j ≤ j := by
 intro j
 induction j with
 | zero => intro _; simp [hh]
 | succ j ih => intro hj; have := ih (by omega); have := k1 j (by omega); simp only [hh]; omega
theorem expr_loop (typ : Int) (t : TypedT) (e : List NodeT) (hty : 1 ≤ typ ∧ typ ≤ 2) (he : e.length ≤ 1000000000) (h1 : 1 ≤ e.length) (hv : ∀ i (h : i < e.length), -2147483648 ≤ (e[i]).Val ∧ (e[i]).Val ≤ 2147483647) (hz : spanL e e.length 1 = 0) :
  ∀ (k i : Nat) (st : List Int), i + k = e.length → (st.length : Int) = hh e i →
   ∃ got, r5_typed_L1 e t st i = some got ∧ c_SoundExpr_L1 typ t st e e.length i = some (decide (got = typ)) := by
 obtain ⟨k1, k2, k3⟩ := span_zero e e.length 1 (by omega) hz
 intro k
 induction k with
 | zero =>
  intro i st h hs
  have e0 : i = e.length := by omega
  subst e0
  have hpos : 0 < st.length := by have := k3 e.length h1 (Nat.le_refl _); omega
  rw [c_SoundExpr_L1_eq, if_neg (by omega), r5_typed_L1_eq, if_neg (by omega)]
  rw [show (0 : Int) = ((0 : Nat) : Int) from rfl, idx_at hpos]
  exact ⟨st[0], rfl, rfl⟩
 | succ k ih =>
  intro i st h hs
  have hlt : i < e.length := by omega
  have ha0 := k1 i hlt
  have hub := hh_le e k1 i (by omega)
  have hn := k3 (i + 1) (by omega) (by omega)
  have hhi : hh e (i + 1) = hh e i + 1 - ar (opAt e i) := rfl
  rw [← get_op hlt] at ha0 hhi
  have ha2 := ar_range (e[i]).Op
  obtain ⟨r, r0, r1, r2⟩ := expr_step typ t st e i hlt (by omega) he (hv i hlt) ha0 (by omega)
  rw [r1, r2]
  by_cases hr : r = 0
  ·rw [if_pos hr, if_pos hr]; exact ⟨0, rfl, by rw [decide_eq_false (by omega)]⟩
  ·rw [if_neg hr, if_neg hr]
   exact ih (i + 1) _ (by omega) (by simp; omega)
theorem typed_le (t : TypedT) (e : List NodeT) (he : e.length ≤ 1000000000) (h1 : 1 ≤ e.length) (hv : ∀ i (h : i < e.length), -2147483648 ≤ (e[i]).Val ∧ (e[i]).Val ≤ 2147483647) (hz : spanL e e.length 1 = 0) :
  ∀ (k i : Nat) (st : List Int), i + k = e.length → (st.length : Int) = hh e i → (∀ x, x ∈ st → 0 ≤ x ∧ x ≤ 2) → ∀ got, r5_typed_L1 e t st i = some got → 0 ≤ got ∧ got ≤ 2 := by
 obtain ⟨k1, k2, k3⟩ := span_zero e e.length 1 (by omega) hz
 intro k
 induction k with
 | zero =>
  intro i st h hs hst got hg
  have e0 : i = e.length := by omega
  subst e0
  have hpos : 0 < st.length := by have := k3 e.length h1 (Nat.le_refl _); omega
  rw [r5_typed_L1_eq, if_neg (by omega), show (0 : Int) = ((0 : Nat) : Int) from rfl, idx_at hpos] at hg
  obtain rfl : st[0] = got := Option.some.inj hg
  exact hst _ (List.getElem_mem _)
 | succ k ih =>
  intro i st h hs hst got hg
  have hlt : i < e.length := by omega
  have ha0 := k1 i hlt
  have hub := hh_le e k1 i (by omega)
  have hn := k3 (i + 1) (by omega) (by omega)
  have hhi : hh e (i + 1) = hh e i + 1 - ar (opAt e i) := rfl
  rw [← get_op hlt] at ha0 hhi
  have ha2 := ar_range (e[i]).Op
  obtain ⟨r, r0, r1, r2⟩ := expr_step 1 t st e i hlt (by omega) he (hv i hlt) ha0 (by omega)
  rw [r2] at hg
  by_cases hr : r = 0
  ·rw [if_pos hr] at hg; obtain rfl := Option.some.inj hg; omega
  ·rw [if_neg hr] at hg
   refine ih (i + 1) _ (by omega) (by simp; omega) (fun x hx => ?_) got hg
   rcases List.mem_append.mp hx with hx | hx
   ·exact hst x (List.mem_of_mem_take hx)
   ·rw [List.mem_singleton.mp hx]; omega
def okE (e : List NodeT) : Prop := e.length ≤ 2000000 ∧ ∀ i (h : i < e.length), -2147483648 ≤ (e[i]).Val ∧ (e[i]).Val ≤ 2147483647
theorem exprs (t : TypedT) (e : List NodeT) (typ : Int) (hk : okE e) : E2 (c_SoundExpr t e typ) (r5_SoundExpr t e typ) := by
 obtain ⟨he', hv⟩ := hk
 have he : e.length ≤ 1000000000 := by omega
 unfold c_SoundExpr r5_SoundExpr
 rw [in_eq, some_bind, in_eq, some_bind]
 obtain ⟨v, v1, v2⟩ := nests e (by omega)
 by_cases h0 : e.length = 0
 ·rw [if_pos (show (e.length : Int) < 1 by omega), if_neg (show ¬ decide (1 ≤ (e.length : Int) ∧ (e.length : Int) ≤ 256) = true by simp; omega)]
  exact ⟨false, by simp, rfl⟩
 rw [if_neg (show ¬ (e.length : Int) < 1 by omega)]
 by_cases h256 : e.length ≤ 256
 case neg =>
  rw [if_pos (show (e.length : Int) > 256 by omega), if_neg (show ¬ decide (1 ≤ (e.length : Int) ∧ (e.length : Int) ≤ 256) = true by simp; omega)]
  exact ⟨false, by simp, rfl⟩
 rw [if_neg (show ¬ (e.length : Int) > 256 by omega), if_pos (show decide (1 ≤ (e.length : Int) ∧ (e.length : Int) ≤ 256) = true by simp; omega), w64_id (n := (e.length : Int) - 1) (by omega), tree_span e _ (by omega), ref_span e _ (by omega), some_bind, some_bind, v1, v2]
 by_cases hz : span e ((e.length : Int) - 1) = 0
 case neg => rw [if_neg hz, if_neg hz]; exact ⟨false, by simp, rfl⟩
 rw [if_pos hz, if_pos hz, some_bind, some_bind]
 by_cases hv64 : v > 64
 ·rw [if_pos hv64, if_pos hv64]; exact ⟨false, by simp, rfl⟩
 rw [if_neg hv64, if_neg hv64]
 have hz' : spanL e e.length 1 = 0 := by
  unfold span at hz
  rw [if_neg (by omega)] at hz
  rwa [show ((e.length : Int) - 1).toNat + 1 = e.length by omega] at hz
 unfold r5_typed
 have hg : ∃ got, r5_typed_L1 e t [] 0 = some got ∧ (0 ≤ got ∧ got ≤ 2) ∧ (1 ≤ typ ∧ typ ≤ 2 → c_SoundExpr_L1 typ t [] e e.length 0 = some (decide (got = typ))) := by
  obtain ⟨got, g1, g2⟩ := expr_loop 1 t e (by omega) he (by omega) hv hz' e.length 0 [] (by omega) rfl
  refine ⟨got, g1, typed_le t e he (by omega) hv hz' e.length 0 [] (by omega) rfl (by simp) got g1, fun ht => ?_⟩
  obtain ⟨got', g3, g4⟩ := expr_loop typ t e ht he (by omega) hv hz' e.length 0 [] (by omega) rfl
  rw [g1] at g3; obtain rfl := Option.some.inj g3; exact g4
 obtain ⟨got, g1, g2, g3⟩ := hg
 rw [g1, some_bind]
 by_cases ht : 1 ≤ typ ∧ typ ≤ 2
 ·rw [if_pos (by simpa using ht), g3 ht]
  by_cases hg0 : got = 0
  ·rw [if_pos hg0, decide_eq_false (by omega)]; exact .rfl'
  ·rw [if_neg hg0]; exact .rfl'
 ·rw [if_neg (by simpa using ht)]
  by_cases hg0 : got = 0
  ·rw [if_pos hg0]; exact .rfl'
  ·rw [if_neg hg0, decide_eq_false (by omega)]; exact .rfl'
end Go.Proofs.YtdcpfmjnkcodiaaDoor.We
