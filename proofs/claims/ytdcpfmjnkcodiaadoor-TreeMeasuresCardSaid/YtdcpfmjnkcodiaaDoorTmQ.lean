/- Nests: the parser's and the document's agree; the statement on spans and nests, of plain Lean. -/
import Derived.Test.YtdcpfmjnkcodiaaDoorTmP
namespace Go.Proofs.YtdcpfmjnkcodiaaDoor.W
open Go Go.Jv

def opAt (l : List NodeT) (j : Nat) : Int := (l.getD j default).Op
/-- how many operands wait behind the first j nodes -/
def hh (l : List NodeT) : Nat → Int
  | 0 => 0
  | j + 1 => hh l j + 1 - ar (opAt l j)

theorem span_zero (l : List NodeT) : ∀ (j : Nat) (w : Int), 0 < w → spanL l j w = 0 → (∀ i, i < j → 0 ≤ ar (opAt l i)) ∧ hh l j = w ∧ ∀ i, 1 ≤ i → i ≤ j → 0 < hh l i := by
  intro j
  induction j with
  | zero => intro w _ h; simp [spanL] at h
  | succ j ih =>
    intro w hw h
    rw [spanL] at h
    have ha := ar_range (l.getD j default).Op
    split at h
    · omega
    · rename_i h1
      split at h
      · rename_i h2
        have hj : j = 0 := by omega
        subst hj
        refine ⟨fun i hi => ?_, ?_, fun i h3 h4 => ?_⟩
        · have : i = 0 := by omega
          subst this; unfold opAt; omega
        · simp only [hh, opAt]; omega
        · have : i = 1 := by omega
          subst this; simp only [hh, opAt]; omega
      · rename_i h2
        obtain ⟨k1, k2, k3⟩ := ih _ (by omega) h
        refine ⟨fun i hi => ?_, ?_, fun i h3 h4 => ?_⟩
        · by_cases e : i = j
          · subst e; unfold opAt; omega
          · exact k1 i (by omega)
        · simp only [hh, opAt]; omega
        · by_cases e : i = j + 1
          · subst e; simp only [hh, opAt]; omega
          · exact k3 i h3 (by omega)

theorem get_op {l : List NodeT} {j : Nat} (h : j < l.length) : (l[j]).Op = opAt l j := by
  simp [opAt, List.getD, List.getElem?_eq_getElem h]

/-- an operand's nest within its operation -/
def up (o : Tree_deepT) (want own : Int) : Int := let v := if lev o.op < want then w64 (o.nest + 1) else o.nest; if v > own then v else own

theorem inner (l : List NodeT) (st : List Tree_deepT) (n_ : NodeT) (want : A2 Int) (x y i op : Int) (a : Nat) (ha : a ≤ 2) (hs : a ≤ st.length) (hb : st.length ≤ 4000000000000) (hx : 1 ≤ a → want.e0 = x) (hy : a = 2 → want.e1 = y) (L : Int) :
    ∀ (m j : Nat) (own : Int), j + m = a → ∃ own', tree_Nest_L2 st n_ a ⟨op, own⟩ want l L i (w64 ((st.length : Int) - a)) a j = tree_Nest_L2 st n_ a ⟨op, own'⟩ want l L i (w64 ((st.length : Int) - a)) a a ∧
      junctionref3_Nest_L3 l (st.map (·.nest)) (st.map (·.op)) i op a x y own j = junctionref3_Nest_L3 l (st.map (·.nest)) (st.map (·.op)) i op a x y own' a := by
  intro m
  induction m with
  | zero => intro j own h; have : j = a := by omega
            subst this; exact ⟨own, rfl, rfl⟩
  | succ m ih =>
    intro j own h
    have hw : w64 ((st.length : Int) - a) = ((st.length - a : Nat) : Int) := by rw [w64_id (by omega)]; omega
    have hlt : st.length - a + j < st.length := by omega
    have hwant : ∃ wv, A2.get want (j : Int) = some wv ∧ (if (j : Int) = 1 then y else x) = wv := by
      have hj : j = 0 ∨ j = 1 := by omega
      rcases hj with rfl | rfl
      · exact ⟨want.e0, by simp [A2.get], by rw [hx (by omega)]; rfl⟩
      · exact ⟨want.e1, by simp [A2.get], by rw [hy (by omega)]; rfl⟩
    obtain ⟨wv, hw1, hw2⟩ := hwant
    obtain ⟨own', h1, h2⟩ := ih (j + 1) (up (st[st.length - a + j]) wv own) (by omega)
    refine ⟨own', ?_, ?_⟩
    · rw [← h1]
      conv => lhs; rw [tree_Nest_L2_eq]
      rw [if_pos (by omega), idx_nat, hw]
      have e : (List.drop (((st.length - a : Nat) : Int)).toNat st)[j]? = some (st[st.length - a + j]) := by
        rw [List.getElem?_drop, Int.toNat_natCast, List.getElem?_eq_getElem hlt]
      rw [e, some_bind, level_tree, some_bind, hw1, some_bind]
      simp only [tree_Nest_k3_eq]
      rw [w64_id (n := (j : Int) + 1) (by omega), show ((j + 1 : Nat) : Int) = (j : Int) + 1 by omega]
      unfold up
      split <;> rfl
    · rw [← h2]
      conv => lhs; rw [junctionref3_Nest_L3_eq]
      rw [if_pos (by omega)]
      have e0 : w64 (w64 (((st.map (·.nest)).length : Int) - a) + j) = ((st.length - a + j : Nat) : Int) := by
        rw [List.length_map, hw, w64_id (by omega)]; omega
      have key : ∀ asked, junctionref3_Nest_k4 l (st.map (·.nest)) (st.map (·.op)) i op a x y own j (w64 (w64 (((st.map (·.nest)).length : Int) - a) + j)) asked = junctionref3_Nest_L3 l (st.map (·.nest)) (st.map (·.op)) i op a x y (up (st[st.length - a + j]) asked own) ((j + 1 : Nat) : Int) := by
        intro asked
        rw [e0, junctionref3_Nest_k4_eq, idx_nat, idx_nat, List.getElem?_map, List.getElem?_map, List.getElem?_eq_getElem hlt]
        simp only [Option.map_some, some_bind]
        rw [level_ref, some_bind]
        simp only [junctionref3_Nest_k8_eq, junctionref3_Nest_k7_eq]
        rw [w64_id (n := (j : Int) + 1) (by omega), show ((j + 1 : Nat) : Int) = (j : Int) + 1 by omega]
        unfold up
        simp only
        by_cases c1 : lev (st[st.length - a + j]).op < asked
        · simp only [if_pos c1]
          split <;> rfl
        · simp only [if_neg c1]
          split <;> rfl
      rw [← hw2]
      split
      · exact key y
      · exact key x

/-- is the operation printed with brackets of its own, or as a prefix? -/
def opensB (op : Int) : Bool := decide (op = 20 ∨ op = 21 ∨ op = 22 ∨ op = 35 ∨ op = 36)

theorem tree_after (l : List NodeT) (st : List Tree_deepT) (n_ : NodeT) (want : A2 Int) (i own L lo : Int) (a : Nat) (hs : a ≤ st.length) (hb : st.length ≤ 4000000000000) :
    tree_Nest_L2 st n_ a ⟨n_.Op, own⟩ want l L i lo a a = tree_Nest_L1 (st.take (st.length - a) ++ [⟨n_.Op, if opensB n_.Op then w64 (own + 1) else own⟩]) l L (w64 (i + 1)) := by
  have hw : w64 ((st.length : Int) - a) = ((st.length - a : Nat) : Int) := by rw [w64_id (by omega)]; omega
  rw [tree_Nest_L2_eq, if_neg (by omega), hw, cut_pre (by omega) (by omega), Int.toNat_natCast, some_bind]
  have h5 : ∀ d, tree_Nest_k5 (st.take (st.length - a)) d l L i = tree_Nest_L1 (st.take (st.length - a) ++ [d]) l L (w64 (i + 1)) := by
    intro d
    rw [tree_Nest_k5_eq, app_ok (by simp; omega), some_bind]
  simp only [tree_Nest_k4_eq, h5]
  unfold opensB
  repeat' split
  all_goals first | rfl | (exfalso; simp_all; done) | (exfalso; simp_all; omega)

theorem ref_after (l : List NodeT) (st : List Tree_deepT) (op x y i own : Int) (a : Nat) (hs : a ≤ st.length) (hb : st.length ≤ 4000000000000) :
    junctionref3_Nest_L3 l (st.map (·.nest)) (st.map (·.op)) i op a x y own a = junctionref3_Nest_L1 l ((st.take (st.length - a) ++ [(⟨op, if opensB op then w64 (own + 1) else own⟩ : Tree_deepT)]).map (·.nest)) ((st.take (st.length - a) ++ [(⟨op, if opensB op then w64 (own + 1) else own⟩ : Tree_deepT)]).map (·.op)) (w64 (i + 1)) := by
  have hw : w64 ((st.length : Int) - a) = ((st.length - a : Nat) : Int) := by rw [w64_id (by omega)]; omega
  rw [junctionref3_Nest_L3_eq, if_neg (by omega)]
  have h6 : ∀ o, junctionref3_Nest_k6 l (st.map (·.nest)) (st.map (·.op)) i op a o = junctionref3_Nest_L1 l ((st.take (st.length - a) ++ [(⟨op, o⟩ : Tree_deepT)]).map (·.nest)) ((st.take (st.length - a) ++ [(⟨op, o⟩ : Tree_deepT)]).map (·.op)) (w64 (i + 1)) := by
    intro o
    rw [junctionref3_Nest_k6_eq, List.length_map, List.length_map, hw, cut_pre (by omega) (by simp), some_bind, app_ok (by simp; omega), some_bind, cut_pre (by omega) (by simp), some_bind, app_ok (by simp; omega), some_bind]
    simp [List.map_take]
  simp only [junctionref3_Nest_k5_eq, h6]
  unfold opensB
  repeat' split
  all_goals first | rfl | (exfalso; simp_all; done) | (exfalso; simp_all; omega)

theorem nest_loop (l : List NodeT) (hl : l.length ≤ 3000000000000) (hz : spanL l l.length 1 = 0) : ∀ (m i : Nat) (st : List Tree_deepT), i + m = l.length → 1 ≤ l.length → (st.length : Int) = hh l i → i ≤ l.length →
    ∃ v, tree_Nest_L1 st l l.length i = some v ∧ junctionref3_Nest_L1 l (st.map (·.nest)) (st.map (·.op)) i = some v := by
  obtain ⟨k1, k2, k3⟩ := span_zero l l.length 1 (by omega) hz
  intro m
  induction m with
  | zero =>
    intro i st h h1 hs _
    have e : i = l.length := by omega
    subst e
    have hpos : 0 < st.length := by have := k3 l.length h1 (Nat.le_refl _); omega
    rw [tree_Nest_L1_eq, if_neg (by omega), junctionref3_Nest_L1_eq, if_neg (by omega)]
    refine ⟨(st[0]).nest, ?_, ?_⟩
    · rw [show (0 : Int) = ((0 : Nat) : Int) from rfl, idx_nat, List.getElem?_eq_getElem hpos]; rfl
    · rw [show (0 : Int) = ((0 : Nat) : Int) from rfl, idx_nat, List.getElem?_map, List.getElem?_eq_getElem hpos]; rfl
  | succ m ih =>
    intro i st h h1 hs hi
    have hlt : i < l.length := by omega
    have ha0 := k1 i hlt
    have ha2 := ar_range (opAt l i)
    have hn := k3 (i + 1) (by omega) (by omega)
    have hhi : hh l (i + 1) = hh l i + 1 - ar (opAt l i) := rfl
    have hup : ∀ j, j ≤ l.length → hh l j ≤ j := by
      intro j
      induction j with
      | zero => intro _; simp [hh]
      | succ j ihj => intro hj; have := ihj (by omega); have := k1 j (by omega); simp only [hh]; omega
    have hub := hup i hi
    obtain ⟨a, hae⟩ : ∃ a : Nat, (a : Int) = ar (opAt l i) := ⟨(ar (opAt l i)).toNat, by omega⟩
    obtain ⟨want, hw0, hw1, hw2⟩ := asks_tree (opAt l i)
    obtain ⟨own', e1, e2⟩ := inner l st l[i] want (askd (opAt l i)).1 (askd (opAt l i)).2 i (opAt l i) a (by omega) (by omega) (by omega) (fun h => hw1 (by omega)) (fun h => hw2 (by omega)) l.length a 0 0 (by omega)
    have hop := get_op hlt
    have e3 := tree_after l st l[i] want i own' l.length (w64 ((st.length : Int) - a)) a (by omega) (by omega)
    have e4 := ref_after l st (opAt l i) (askd (opAt l i)).1 (askd (opAt l i)).2 i own' a (by omega) (by omega)
    rw [hop] at e3
    rw [w64_id (n := (i : Int) + 1) (by omega)] at e3 e4
    obtain ⟨v, v1, v2⟩ := ih (i + 1) (st.take (st.length - a) ++ [⟨opAt l i, if opensB (opAt l i) then w64 (own' + 1) else own'⟩]) (by omega) h1 (by simp; omega) (by omega)
    refine ⟨v, ?_, ?_⟩
    · rw [tree_Nest_L1_eq, if_pos (by omega), idx_nat, List.getElem?_eq_getElem hlt, some_bind, hop, arity_tree, some_bind, hw0, some_bind, ← hae]
      have hw : w64 ((st.length : Int) - a) = ((st.length - a : Nat) : Int) := by rw [w64_id (by omega)]; omega
      rw [cut_ok (by omega) (by omega) (by omega), some_bind]
      have e5 : ((List.drop (w64 ((st.length : Int) - a)).toNat st).length : Int) = a := by rw [hw]; simp; omega
      rw [e5]
      refine (e1.trans (e3.trans ?_))
      exact v1
    · rw [junctionref3_Nest_L1_eq, if_pos (by omega), idx_nat, List.getElem?_eq_getElem hlt, some_bind, hop, arity_ref, some_bind, asked_ref, some_bind, ← hae]
      refine (e2.trans (e4.trans ?_))
      exact v2

theorem nests (l : List NodeT) (hl : l.length ≤ 3000000000000) : ∃ v, tree_Nest l = some v ∧ junctionref3_Nest l = some v := by
  unfold tree_Nest junctionref3_Nest junctionref3_One
  by_cases h0 : l.length = 0
  · have : l = [] := List.eq_nil_of_length_eq_zero h0
    subst this
    exact ⟨-1, by decide, by rfl⟩
  · rw [w64_id (n := (l.length : Int) - 1) (by omega), tree_span l _ (by omega), some_bind, if_neg (show ¬ (l.length : Int) = 0 by omega), ref_span l _ (by omega)]
    simp only [some_bind]
    by_cases hz : span l ((l.length : Int) - 1) = 0
    · have hz' : spanL l l.length 1 = 0 := by
        unfold span at hz
        rw [if_neg (by omega)] at hz
        rwa [show ((l.length : Int) - 1).toNat + 1 = l.length by omega] at hz
      obtain ⟨v, v1, v2⟩ := nest_loop l hl hz' l.length 0 [] (by omega) (by omega) rfl (by omega)
      refine ⟨v, ?_, ?_⟩
      · rw [if_pos hz]; exact v1
      · simp only [hz, decide_true, if_true]
        unfold junctionref3_Nest_k2
        exact v2
    · refine ⟨-1, ?_, ?_⟩
      · rw [if_neg hz]
      · simp only [hz, decide_false]; rfl

theorem roomy_ok (e : List NodeT) (he : (e.length + 2) * 48 ≤ 140737488355328) : ∃ a b, junctionlaw3_roomy e = some (e ++ [a, b]) := by
  unfold junctionlaw3_roomy junctionlaw3_copyNodes
  rw [app_ok (by simp; omega)]
  simp only [some_bind, List.nil_append]
  rw [app_ok (by simpa using he)]
  exact ⟨_, _, rfl⟩

theorem nodes_same (l : List NodeT) (hl : l.length ≤ 1000000000000000) : ∀ (m j : Nat), j + m = l.length → junctionlaw3_nodes_L1 l l j = some true := by
  intro m
  induction m with
  | zero => intro j h; rw [junctionlaw3_nodes_L1, if_neg (by omega)]
  | succ m ih =>
    intro j h
    rw [junctionlaw3_nodes_L1, if_pos (by omega), idx_nat, List.getElem?_eq_getElem (by omega), some_bind]
    simp only [some_bind, decide_true, Bool.and_true, Bool.not_true, Bool.false_eq_true, if_false]
    rw [w64_id (by omega)]
    exact ih (j + 1) (by omega)

/-- THE STATEMENT: every Span and Nest. -/
theorem measures (e : List NodeT) (i : Int) (he : (e.length + 2) * 48 ≤ 140737488355328) : junctionlaw3_TreeMeasures e i = some true := by
  obtain ⟨a, b, hr⟩ := roomy_ok e he
  obtain ⟨v, v1, v2⟩ := nests e (by omega)
  unfold junctionlaw3_TreeMeasures
  have hc : cut (e ++ [a, b]) 0 (e.length : Int) = some e := by rw [cut_pre (by omega) (by simp; omega)]; simp
  rw [hr]
  simp only [some_bind, hc, tree_span e i (by omega), ref_span e i (by omega), v1, v2, if_true]
  unfold junctionlaw3_nodes
  rw [if_pos rfl]
  have := nodes_same (e ++ [a, b]) (by simp; omega) (e ++ [a, b]).length 0 (by omega)
  rw [show ((0 : Nat) : Int) = 0 from rfl] at this
  rw [this]
  rfl
end Go.Proofs.YtdcpfmjnkcodiaaDoor.W
