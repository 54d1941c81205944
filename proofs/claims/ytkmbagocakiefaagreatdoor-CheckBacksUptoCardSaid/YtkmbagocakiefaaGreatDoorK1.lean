/- Spans and aC: the parser's and the document's agree. Plain Lean. -/
import Derived.Test.YtkmbagocakiefaaGreatDoorP1
import Derived.Test.YtkmbagocakiefaaGreatDoorD1
namespace Go.Proofs.YtkmbagocakiefaaGreatDoor.Wb
open Go Go.Jv
def ar (n : Int) : Int := if 1 ≤ n ∧ n ≤ 10 then 0 else if 20 ≤ n ∧ n ≤ 22 then 1 else if (30 ≤ n ∧ n ≤ 36) ∨ (40 ≤ n ∧ n ≤ 45) ∨ n = 50 ∨ n = 51 then 2 else -1
theorem mX (n : Int) : -1 ≤ ar n ∧ ar n ≤ 2 := by unfold ar; repeat' split <;> omega
theorem Lm : ∀ k : Fin 52, jm ((k.val : Nat) : Int) = some (ar ((k.val : Nat) : Int)) := by decide
theorem BG (op : Int) : jm op = some (ar op) := by
 by_cases h : 0 ≤ op ∧ op < 52
 ·have := Lm ⟨op.toNat, by omega⟩
  simp only at this
  rwa [show ((op.toNat : Nat) : Int) = op by omega] at this
 ·unfold jm lC ar
  repeat' split
  all_goals first | rfl | (exfalso; omega)
theorem Dq (op : Int) : pB op = some (ar op) := by
 unfold pB pQ pP pO pN ar
 repeat' split
 all_goals first | rfl | (exfalso; omega)
def kI (l : List ae) : Nat → Int → Int
 | 0, _ => -1
 | j + 1, w => if ar (l.getD j default).Op < 0 then -1 else if w + (ar (l.getD j default).Op - 1) = 0 then j else kI l j (w + (ar (l.getD j default).Op - 1))
theorem Ip (l : List ae) : ∀ (j : Nat) (w : Int), j ≤ l.length → 0 < w → w + 2 * j ≤ 4000000000000000000 → gy l w ((j : Int) - 1) = some (kI l j w) := by
 intro j
 induction j with
 | zero => intro w _ _ _; rw [gy, if_neg (by omega)]; rfl
 | succ j ih =>
  intro w hj hw hb
  have ha := mX (l.getD j default).Op
  rw [gy, if_pos (by omega), show ((j + 1 : Nat) : Int) - 1 = (j : Int) by omega, kx, List.getElem?_eq_getElem (by omega), aa, BG, aa]
  have e : l[j] = l.getD j default := by simp [List.getD, List.getElem?_eq_getElem (show j < l.length by omega)]
  rw [e, bh (n := ar (l.getD j default).Op - 1) (by omega), bh (by omega), kI]
  split
  ·rfl
  ·split
   ·rfl
   ·rw [bh (by omega)]; exact ih _ (by omega) (by omega) (by omega)
theorem Ju (l : List ae) : ∀ (j : Nat) (w : Int), j ≤ l.length → 0 < w → w + 2 * j ≤ 4000000000000000000 → jh l w ((j : Int) - 1) = some (kI l j w) := by
 intro j
 induction j with
 | zero => intro w _ _ _; rw [jh, if_neg (by omega)]; rfl
 | succ j ih =>
  intro w hj hw hb
  have ha := mX (l.getD j default).Op
  rw [jh, if_pos (by omega), show ((j + 1 : Nat) : Int) - 1 = (j : Int) by omega, kx, List.getElem?_eq_getElem (by omega), aa, Dq, aa]
  have e : l[j] = l.getD j default := by simp [List.getD, List.getElem?_eq_getElem (show j < l.length by omega)]
  rw [e, bh (n := w - 1) (by omega), show w - 1 + ar (l.getD j default).Op = w + (ar (l.getD j default).Op - 1) by omega, bh (by omega), kI]
  split
  ·rfl
  ·split
   ·rfl
   ·rw [bh (by omega)]; exact ih _ (by omega) (by omega) (by omega)
def xJ (l : List ae) (i : Int) : Int := if i < 0 ∨ (l.length : Int) ≤ i then -1 else kI l (i.toNat + 1) 1
theorem Dr (l : List ae) (i : Int) (hl : l.length ≤ 1000000000000000) : qn l i = some (xJ l i) := by
 unfold qn xJ
 by_cases h : i < 0
 ·rw [if_pos h, if_pos (.inl h)]
 ·rw [if_neg h]
  by_cases h2 : (l.length : Int) ≤ i
  ·rw [if_pos h2, if_pos (.inr h2)]
  ·rw [if_neg h2, if_neg (by omega)]
   have := Ip l (i.toNat + 1) 1 (by omega) (by omega) (by omega)
   rw [show (((i.toNat + 1 : Nat) : Int) - 1) = i by omega] at this
   exact this
theorem F4 (l : List ae) (i : Int) (hl : l.length ≤ 1000000000000000) : ve l i = some (xJ l i) := by
 unfold ve xJ
 by_cases h : i < 0
 ·rw [if_pos h, if_pos (.inl h)]
 ·rw [if_neg h]
  by_cases h2 : (l.length : Int) ≤ i
  ·rw [if_pos h2, if_pos (.inr h2)]
  ·rw [if_neg h2, if_neg (by omega)]
   have := Ju l (i.toNat + 1) 1 (by omega) (by omega) (by omega)
   rw [show (((i.toNat + 1 : Nat) : Int) - 1) = i by omega] at this
   exact this
def lev (n : Int) : Int := if n = 51 then 1 else if n = 50 then 2 else if n = 21 then 3 else if 40 ≤ n ∧ n ≤ 45 then 4 else if n = 30 ∨ n = 31 then 5 else if 32 ≤ n ∧ n ≤ 34 then 6 else if n = 20 then 7 else 8
theorem BH (op : Int) : jd op = some (lev op) := by
 unfold jd mI lev
 repeat' split
 all_goals first | rfl | (exfalso; omega)
theorem Iq : ∀ k : Fin 52, pD ((k.val : Nat) : Int) = some (lev ((k.val : Nat) : Int)) := by decide
theorem Ir (op : Int) : pD op = some (lev op) := by
 by_cases h : 0 ≤ op ∧ op < 52
 ·have := Iq ⟨op.toNat, by omega⟩
  simp only at this
  rwa [show ((op.toNat : Nat) : Int) = op by omega] at this
 ·unfold pD lev
  repeat rw [if_neg (by omega)]
def rS (n : Int) : Int × Int := if n = 51 then (1, 2) else if n = 50 then (2, 3) else if n = 21 then (3, 3) else if 40 ≤ n ∧ n ≤ 45 then (5, 5) else if n = 30 ∨ n = 31 then (5, 6) else if 32 ≤ n ∧ n ≤ 34 then (6, 7) else if n = 20 then (7, 7) else (1, 1)
theorem Is : ∀ k : Fin 52, pC ((k.val : Nat) : Int) = some (rS ((k.val : Nat) : Int)) := by decide
theorem It (op : Int) : pC op = some (rS op) := by
 by_cases h : 0 ≤ op ∧ op < 52
 ·have := Is ⟨op.toNat, by omega⟩
  simp only at this
  rwa [show ((op.toNat : Nat) : Int) = op by omega] at this
 ·unfold pC rS
  repeat rw [if_neg (by omega)]
def Ln (op : Int) (w : A2 Int) : Bool := (decide (ar op < 1) || decide (w.e0 = (rS op).1)) && (decide (ar op ≠ 2) || decide (w.e1 = (rS op).2))
theorem Jw : ∀ k : Fin 52, (lc ((k.val : Nat) : Int)).any (Ln ((k.val : Nat) : Int)) = true := by decide
theorem Iu (op : Int) : ∃ w : A2 Int, lc op = some w ∧ (1 ≤ ar op → w.e0 = (rS op).1) ∧ (ar op = 2 → w.e1 = (rS op).2) := by
 by_cases h : 0 ≤ op ∧ op < 52
 ·have h1 := Jw ⟨op.toNat, by omega⟩
  simp only at h1
  rw [show ((op.toNat : Nat) : Int) = op by omega] at h1
  cases hw : lc op with
  | none => rw [hw] at h1; cases h1
  | some w =>
   rw [hw] at h1
   simp only [Option.any_some, Ln, Bool.and_eq_true, Bool.or_eq_true, decide_eq_true_eq] at h1
   exact ⟨w, rfl, fun h2 => h1.1.resolve_left (by omega), fun h2 => h1.2.resolve_left (by simp [h2])⟩
 ·have ha : ar op = -1 := by unfold ar; repeat rw [if_neg (by omega)]
  refine ⟨⟨lev op, w64 (lev op + 1)⟩, ?_, by omega, by omega⟩
  unfold lc og lb
  rw [BH]
  repeat' split
  all_goals first | rfl | (exfalso; omega)
end Go.Proofs.YtkmbagocakiefaaGreatDoor.Wb
namespace Go.Proofs.YtkmbagocakiefaaGreatDoor.Wb
open Go Go.Jv
def gv (l : List ae) (j : Nat) : Int := (l.getD j default).Op
def hh (l : List ae) : Nat → Int
 | 0 => 0
 | j + 1 => hh l j + 1 - ar (gv l j)
theorem ym (l : List ae) : ∀ (j : Nat) (w : Int), 0 < w → kI l j w = 0 → (∀ i, i < j → 0 ≤ ar (gv l i)) ∧ hh l j = w ∧ ∀ i, 1 ≤ i → i ≤ j → 0 < hh l i := by
 intro j
 induction j with
 | zero => intro w _ h; simp [kI] at h
 | succ j ih =>
  intro w hw h
  rw [kI] at h
  have ha := mX (l.getD j default).Op
  split at h
  ·omega
  ·rename_i h1
   split at h
   ·rename_i h2
    have hj : j = 0 := by omega
    subst hj
    refine ⟨fun i hi => ?_, ?_, fun i h3 h4 => ?_⟩
    ·have : i = 0 := by omega
     subst this; unfold gv; omega
    ·simp only [hh, gv]; omega
    ·have : i = 1 := by omega
     subst this; simp only [hh, gv]; omega
   ·rename_i h2
    obtain ⟨k1, k2, k3⟩ := ih _ (by omega) h
    refine ⟨fun i hi => ?_, ?_, fun i h3 h4 => ?_⟩
    ·by_cases e : i = j
     ·subst e; unfold gv; omega
     ·exact k1 i (by omega)
    ·simp only [hh, gv]; omega
    ·by_cases e : i = j + 1
     ·subst e; simp only [hh, gv]; omega
     ·exact k3 i h3 (by omega)
theorem FB {l : List ae} {j : Nat} (h : j < l.length) : (l[j]).Op = gv l j := by
 simp [gv, List.getD, List.getElem?_eq_getElem h]
def up (o : aP) (want own : Int) : Int := let v := if lev o.op < want then w64 (o.nest + 1) else o.nest; if v > own then v else own
theorem HW (l : List ae) (st : List aP) (n_ : ae) (want : A2 Int) (x y i op : Int) (a : Nat) (ha : a ≤ 2) (hs : a ≤ st.length) (hb : st.length ≤ 4000000000000) (hx : 1 ≤ a → want.e0 = x) (hy : a = 2 → want.e1 = y) (L : Int) :
  ∀ (m j : Nat) (own : Int), j + m = a → ∃ own', ix st n_ a ⟨op, own⟩ want l L i (w64 ((st.length : Int) - a)) a j = ix st n_ a ⟨op, own'⟩ want l L i (w64 ((st.length : Int) - a)) a a ∧
   jj l (st.map (·.nest)) (st.map (·.op)) i op a x y own j = jj l (st.map (·.nest)) (st.map (·.op)) i op a x y own' a := by
 intro m
 induction m with
 | zero => intro j own h; have : j = a := by omega
           subst this; exact ⟨own, rfl, rfl⟩
 | succ m ih =>
  intro j own h
  have hw : w64 ((st.length : Int) - a) = ((st.length - a : Nat) : Int) := by rw [bh (by omega)]; omega
  have hlt : st.length - a + j < st.length := by omega
  have hwant : ∃ wv, A2.get want (j : Int) = some wv ∧ (if (j : Int) = 1 then y else x) = wv := by
   have hj : j = 0 ∨ j = 1 := by omega
   rcases hj with rfl | rfl
   ·exact ⟨want.e0, by simp [A2.get], by rw [hx (by omega)]; rfl⟩
   ·exact ⟨want.e1, by simp [A2.get], by rw [hy (by omega)]; rfl⟩
  obtain ⟨wv, hw1, hw2⟩ := hwant
  obtain ⟨own', h1, h2⟩ := ih (j + 1) (up (st[st.length - a + j]) wv own) (by omega)
  refine ⟨own', ?_, ?_⟩
  ·rw [← h1]
   conv => lhs; rw [tJ]
   rw [if_pos (by omega), kx, hw]
   have e : (List.drop (((st.length - a : Nat) : Int)).toNat st)[j]? = some (st[st.length - a + j]) := by
    rw [List.getElem?_drop, Int.toNat_natCast, List.getElem?_eq_getElem hlt]
   rw [e, aa, BH, aa, hw1, aa]
   simp only [Cn]
   rw [bh (n := (j : Int) + 1) (by omega), show ((j + 1 : Nat) : Int) = (j : Int) + 1 by omega]
   unfold up
   split <;> rfl
  ·rw [← h2]
   conv => lhs; rw [wH]
   rw [if_pos (by omega)]
   have e0 : w64 (w64 (((st.map (·.nest)).length : Int) - a) + j) = ((st.length - a + j : Nat) : Int) := by
    rw [List.length_map, hw, bh (by omega)]; omega
   have key : ∀ asked, ou l (st.map (·.nest)) (st.map (·.op)) i op a x y own j (w64 (w64 (((st.map (·.nest)).length : Int) - a) + j)) asked = jj l (st.map (·.nest)) (st.map (·.op)) i op a x y (up (st[st.length - a + j]) asked own) ((j + 1 : Nat) : Int) := by
    intro asked
    rw [e0, Ee, kx, kx, List.getElem?_map, List.getElem?_map, List.getElem?_eq_getElem hlt]
    simp only [Option.map_some, aa]
    rw [Ir, aa]
    simp only [Eg, Ef]
    rw [bh (n := (j : Int) + 1) (by omega), show ((j + 1 : Nat) : Int) = (j : Int) + 1 by omega]
    unfold up
    simp only
    by_cases c1 : lev (st[st.length - a + j]).op < asked
    ·simp only [if_pos c1]
     split <;> rfl
    ·simp only [if_neg c1]
     split <;> rfl
   rw [← hw2]
   split
   ·exact key y
   ·exact key x
def uY (op : Int) : Bool := decide (op = 20 ∨ op = 21 ∨ op = 22 ∨ op = 35 ∨ op = 36)
theorem HX (l : List ae) (st : List aP) (n_ : ae) (want : A2 Int) (i own L lo : Int) (a : Nat) (hs : a ≤ st.length) (hb : st.length ≤ 4000000000000) :
  ix st n_ a ⟨n_.Op, own⟩ want l L i lo a a = gz (st.take (st.length - a) ++ [⟨n_.Op, if uY n_.Op then w64 (own + 1) else own⟩]) l L (w64 (i + 1)) := by
 have hw : w64 ((st.length : Int) - a) = ((st.length - a : Nat) : Int) := by rw [bh (by omega)]; omega
 rw [tJ, if_neg (by omega), hw, eY (by omega) (by omega), Int.toNat_natCast, aa]
 have h5 : ∀ d, ld (st.take (st.length - a)) d l L i = gz (st.take (st.length - a) ++ [d]) l L (w64 (i + 1)) := by
  intro d
  rw [Cp, bg (by simp; omega), aa]
 simp only [Co, h5]
 unfold uY
 repeat' split
 all_goals first | rfl | (exfalso; simp_all; done) | (exfalso; simp_all; omega)
theorem J1 (l : List ae) (st : List aP) (op x y i own : Int) (a : Nat) (hs : a ≤ st.length) (hb : st.length ≤ 4000000000000) :
  jj l (st.map (·.nest)) (st.map (·.op)) i op a x y own a = ji l ((st.take (st.length - a) ++ [(⟨op, if uY op then w64 (own + 1) else own⟩ : aP)]).map (·.nest)) ((st.take (st.length - a) ++ [(⟨op, if uY op then w64 (own + 1) else own⟩ : aP)]).map (·.op)) (w64 (i + 1)) := by
 have hw : w64 ((st.length : Int) - a) = ((st.length - a : Nat) : Int) := by rw [bh (by omega)]; omega
 rw [wH, if_neg (by omega)]
 have h6 : ∀ o, lJ l (st.map (·.nest)) (st.map (·.op)) i op a o = ji l ((st.take (st.length - a) ++ [(⟨op, o⟩ : aP)]).map (·.nest)) ((st.take (st.length - a) ++ [(⟨op, o⟩ : aP)]).map (·.op)) (w64 (i + 1)) := by
  intro o
  rw [Ei, List.length_map, List.length_map, hw, eY (by omega) (by simp), aa, bg (by simp; omega), aa, eY (by omega) (by simp), aa, bg (by simp; omega), aa]
  simp [List.map_take]
 simp only [Eh, h6]
 unfold uY
 repeat' split
 all_goals first | rfl | (exfalso; simp_all; done) | (exfalso; simp_all; omega)
theorem J2 (l : List ae) (hl : l.length ≤ 3000000000000) (hz : kI l l.length 1 = 0) : ∀ (m i : Nat) (st : List aP), i + m = l.length → 1 ≤ l.length → (st.length : Int) = hh l i → i ≤ l.length →
  ∃ v, gz st l l.length i = some v ∧ ji l (st.map (·.nest)) (st.map (·.op)) i = some v := by
 obtain ⟨k1, k2, k3⟩ := ym l l.length 1 (by omega) hz
 intro m
 induction m with
 | zero =>
  intro i st h h1 hs _
  have e : i = l.length := by omega
  subst e
  have hpos : 0 < st.length := by have := k3 l.length h1 (Nat.le_refl _); omega
  rw [tH, if_neg (by omega), wG, if_neg (by omega)]
  refine ⟨(st[0]).nest, ?_, ?_⟩
  ·rw [show (0 : Int) = ((0 : Nat) : Int) from rfl, kx, List.getElem?_eq_getElem hpos]; rfl
  ·rw [show (0 : Int) = ((0 : Nat) : Int) from rfl, kx, List.getElem?_map, List.getElem?_eq_getElem hpos]; rfl
 | succ m ih =>
  intro i st h h1 hs hi
  have hlt : i < l.length := by omega
  have ha0 := k1 i hlt
  have ha2 := mX (gv l i)
  have hn := k3 (i + 1) (by omega) (by omega)
  have hhi : hh l (i + 1) = hh l i + 1 - ar (gv l i) := rfl
  have hup : ∀ j, j ≤ l.length → hh l j ≤ j := by
   intro j
   induction j with
   | zero => intro _; simp [hh]
   | succ j ihj => intro hj; have := ihj (by omega); have := k1 j (by omega); simp only [hh]; omega
  have hub := hup i hi
  obtain ⟨a, hae⟩ : ∃ a : Nat, (a : Int) = ar (gv l i) := ⟨(ar (gv l i)).toNat, by omega⟩
  obtain ⟨want, hw0, hw1, hw2⟩ := Iu (gv l i)
  obtain ⟨own', e1, e2⟩ := HW l st l[i] want (rS (gv l i)).1 (rS (gv l i)).2 i (gv l i) a (by omega) (by omega) (by omega) (fun h => hw1 (by omega)) (fun h => hw2 (by omega)) l.length a 0 0 (by omega)
  have hop := FB hlt
  have e3 := HX l st l[i] want i own' l.length (w64 ((st.length : Int) - a)) a (by omega) (by omega)
  have e4 := J1 l st (gv l i) (rS (gv l i)).1 (rS (gv l i)).2 i own' a (by omega) (by omega)
  rw [hop] at e3
  rw [bh (n := (i : Int) + 1) (by omega)] at e3 e4
  obtain ⟨v, v1, v2⟩ := ih (i + 1) (st.take (st.length - a) ++ [⟨gv l i, if uY (gv l i) then w64 (own' + 1) else own'⟩]) (by omega) h1 (by simp; omega) (by omega)
  refine ⟨v, ?_, ?_⟩
  ·rw [tH, if_pos (by omega), kx, List.getElem?_eq_getElem hlt, aa, hop, BG, aa, hw0, aa, ← hae]
   have hw : w64 ((st.length : Int) - a) = ((st.length - a : Nat) : Int) := by rw [bh (by omega)]; omega
   rw [Im (by omega) (by omega) (by omega), aa]
   have e5 : ((List.drop (w64 ((st.length : Int) - a)).toNat st).length : Int) = a := by rw [hw]; simp; omega
   rw [e5]
   refine (e1.trans (e3.trans ?_))
   exact v1
  ·rw [wG, if_pos (by omega), kx, List.getElem?_eq_getElem hlt, aa, hop, Dq, aa, It, aa, ← hae]
   refine (e2.trans (e4.trans ?_))
   exact v2
theorem aC (l : List ae) (hl : l.length ≤ 3000000000000) : ∃ v, tK l = some v ∧ zq l = some v := by
 unfold tK zq FR
 by_cases h0 : l.length = 0
 ·have : l = [] := List.eq_nil_of_length_eq_zero h0
  subst this
  exact ⟨-1, by decide, by rfl⟩
 ·rw [bh (n := (l.length : Int) - 1) (by omega), Dr l _ (by omega), aa, if_neg (show ¬ (l.length : Int) = 0 by omega), F4 l _ (by omega)]
  simp only [aa]
  by_cases hz : xJ l ((l.length : Int) - 1) = 0
  ·have hz' : kI l l.length 1 = 0 := by
    unfold xJ at hz
    rw [if_neg (by omega)] at hz
    rwa [show ((l.length : Int) - 1).toNat + 1 = l.length by omega] at hz
   obtain ⟨v, v1, v2⟩ := J2 l hl hz' l.length 0 [] (by omega) (by omega) rfl (by omega)
   refine ⟨v, ?_, ?_⟩
   ·rw [if_pos hz]; exact v1
   ·simp only [hz, decide_true, if_true]
    unfold rv
    exact v2
  ·refine ⟨-1, ?_, ?_⟩
   ·rw [if_neg hz]
   ·simp only [hz, decide_false]; rfl
end Go.Proofs.YtkmbagocakiefaaGreatDoor.Wb
