/- Grid and SoundExpr: the checker's and the document's agree. -/
import Derived.Test.YtkmbagocakiefaaGreatDoorK1
import Derived.Test.YtkmbagocakiefaaGreatDoorP1
namespace Go.Proofs.YtkmbagocakiefaaGreatDoor.Wb
open Go Go.Jv
theorem mu (n lo hi : Int) : jV n lo hi = some (decide (lo ≤ n ∧ n ≤ hi)) := by
 unfold jV; by_cases h : lo ≤ n
 ·rw [if_pos h]; simp [h]
 ·rw [if_neg h]; simp [h]
theorem pV (n lo hi : Int) : dU n lo hi = some (decide (lo ≤ n ∧ n ≤ hi)) := mu n lo hi
theorem He (t : aI) (hc : t.Conflicts.length ≤ 1000000000000) : ∀ (k i : Nat) (a b : Int), i + k = t.Conflicts.length →
  (i = 0 → a = -1 ∧ b = -1) → (∀ h : 0 < i ∧ i ≤ t.Conflicts.length, a = (t.Conflicts[i - 1]'(by omega)).A ∧ b = (t.Conflicts[i - 1]'(by omega)).B) →
  E2 (iW t a b t.Conflicts t.Conflicts.length i) (lI t t.Groups.length i) := by
 intro k
 induction k with
 | zero => intro i a b h _ _; rw [ss, wE, if_neg (by omega), if_neg (by omega)]; exact .rfl'
 | succ k ih =>
  intro i a b h h0 h1
  have hi : i < t.Conflicts.length := by omega
  rw [ss, wE, if_pos (by omega), if_pos (by omega), ay hi]
  simp only [aa, mu, pV, yI, Ed, decide_eq_true_eq]
  have hn := ih (i + 1) (t.Conflicts[i]).A (t.Conflicts[i]).B (by omega) (by omega) (fun h => ⟨rfl, rfl⟩)
  rw [← au (by omega)] at hn
  refine .ite (fun _ => .rfl') fun c1 => .ite (fun _ => .rfl') fun c2 => .ite (fun _ => .rfl') fun c3 => .ite (fun c4 => .ite (fun c5 => ?_) fun _ => .rfl') fun _ => .rfl'
  by_cases hz : i = 0
  ·obtain ⟨rfl, rfl⟩ := h0 hz
   rw [if_neg (by omega), if_neg (by omega), if_neg (by omega)]; exact hn
  ·obtain ⟨rfl, rfl⟩ := h1 ⟨by omega, by omega⟩
   rw [if_pos (show (i : Int) > 0 by omega), bh (n := (i : Int) - 1) (by omega), show (i : Int) - 1 = ((i - 1 : Nat) : Int) by omega, ay (by omega), aa]
   exact .ite (fun _ => .rfl') fun _ => .ite (fun _ => .ite (fun _ => .rfl') fun _ => hn) fun _ => hn
theorem G8 (t : aI) (hg : t.Groups.length ≤ 1000000000000) (hc : t.Conflicts.length ≤ 1000000000000) : ∀ (k i : Nat), i + k = t.Groups.length →
  E2 (gx t t.Groups t.Groups.length i) (jg t t.Groups.length i) := by
 intro k
 induction k with
 | zero =>
  intro i h; rw [gx, jg, if_neg (by omega), if_neg (by omega)]
  exact He t hc t.Conflicts.length 0 _ _ (by omega) (fun _ => ⟨rfl, rfl⟩) (fun h => absurd h.1 (by omega))
 | succ k ih =>
  intro i h
  have hi : i < t.Groups.length := by omega
  rw [gx, jg, if_pos (by omega), if_pos (by omega), ay hi]
  simp only [aa, mu, pV, decide_eq_true_eq]
  have hn := ih (i + 1) (by omega)
  rw [← au (by omega)] at hn
  exact .ite (fun _ => .ite (fun _ => .ite (fun _ => .ite (fun _ => hn) fun _ => .rfl') fun _ => .rfl') fun _ => .rfl') fun _ => .rfl'
theorem N6 (t : aI) (hg : t.Groups.length ≤ 1000000000000) (hc : t.Conflicts.length ≤ 1000000000000) : E2 (yJ t) (zp t) := by
 unfold yJ zp
 exact .ite (fun _ => .rfl') fun _ => G8 t hg hc t.Groups.length 0 (by omega)
theorem CJ (op a : Int) (h : 20 ≤ op ∧ op ≤ 22) : ∃ r, hG op a 0 = some r ∧ gG op a 0 = some r := by
 have : op = 20 ∨ op = 21 ∨ op = 22 := by omega
 unfold hG kp gG ox
 rcases this with rfl | rfl | rfl <;> simp <;> split <;> simp
theorem CK (op a b : Int) (h : ar op = 2) : ∃ r, hG op a b = some r ∧ gG op a b = some r := by
 have : op = 30 ∨ op = 31 ∨ op = 32 ∨ op = 33 ∨ op = 34 ∨ op = 35 ∨ op = 36 ∨ op = 40 ∨ op = 41 ∨ op = 42 ∨ op = 43 ∨ op = 44 ∨ op = 45 ∨ op = 50 ∨ op = 51 := by
  unfold ar at h; repeat' split at h
  all_goals omega
 unfold hG kq gT kr gG oB oy oA oz
 rcases this with rfl | rfl | rfl | rfl | rfl | rfl | rfl | rfl | rfl | rfl | rfl | rfl | rfl | rfl | rfl <;> simp <;> (repeat' split) <;> simp_all
end Go.Proofs.YtkmbagocakiefaaGreatDoor.Wb
namespace Go.Proofs.YtkmbagocakiefaaGreatDoor.Wb
open Go Go.Jv
theorem EK (v n : Int) (hv : -2147483648 ≤ v ∧ v ≤ 2147483647) : lD v n = some (decide (0 ≤ v ∧ v < n)) := by
 unfold lD; rw [bh (by omega)]; by_cases h : 0 ≤ v
 ·rw [if_pos h]; simp [h]
 ·rw [if_neg h]; simp [h]
def rL (t : ab) (n : ae) : Int :=
 if n.Op = 1 then 1 else if n.Op = 2 then (if n.Val = 0 ∨ n.Val = 1 then 2 else 0) else if n.Op = 4 then (if n.Val = 0 then 1 else 0) else
 if n.Op = 7 then (if 0 ≤ n.Val ∧ n.Val < t.Vars.length then 1 else 0) else if n.Op = 8 then (if 0 ≤ n.Val ∧ n.Val < t.Timers.length then 1 else 0) else
 if n.Op = 9 then (if 0 ≤ n.Val ∧ n.Val < t.Counters.length then 1 else 0) else if n.Op = 5 ∨ n.Op = 6 then (if 0 ≤ n.Val ∧ n.Val < t.Tables.Groups.length then 2 else 0) else
 if n.Op = 10 then (if 0 ≤ n.Val ∧ n.Val < t.Dets.length then 2 else 0) else 0
theorem Jh (t : ab) (n : ae) (hv : -2147483648 ≤ n.Val ∧ n.Val ≤ 2147483647) : rG t n = some (rL t n) := by
 unfold rG ov ow zr rx rL
 rw [bh (by omega)]
 by_cases h1 : n.Op = 1
 ·simp [h1]
 by_cases h2 : n.Op = 2
 ·simp [h2]; repeat' split
  all_goals first | rfl | (exfalso; omega)
 by_cases h4 : n.Op = 4
 ·simp [h4]; split <;> simp [*]
 by_cases h5 : n.Op = 5
 ·simp [h5]; repeat' split
  all_goals first | rfl | (exfalso; omega)
 by_cases h6 : n.Op = 6
 ·simp [h6]; repeat' split
  all_goals first | rfl | (exfalso; omega)
 by_cases h7 : n.Op = 7
 ·simp [h7]; repeat' split
  all_goals first | rfl | (exfalso; omega)
 by_cases h8 : n.Op = 8
 ·simp [h8]; repeat' split
  all_goals first | rfl | (exfalso; omega)
 by_cases h9 : n.Op = 9
 ·simp [h9]; repeat' split
  all_goals first | rfl | (exfalso; omega)
 by_cases h10 : n.Op = 10
 ·simp [h10]; repeat' split
  all_goals first | rfl | (exfalso; omega)
 simp [*]
theorem H6 (typ : Int) (t : ab) (st : List Int) (e : List ae) (i : Nat) (hi : i < e.length) (hs : st.length ≤ 1000000000) (he : e.length ≤ 1000000000)
  (hv : -2147483648 ≤ (e[i]).Val ∧ (e[i]).Val ≤ 2147483647) (hn : (e[i]).Name = ⟨#[]⟩) (hl : (e[i]).At.Line = 0) (hc : (e[i]).At.Col = 0) (ha : ar (e[i]).Op = 0) :
  bN typ t st e e.length i = if rL t e[i] = 0 then some false else bN typ t (st ++ [rL t e[i]]) e e.length ((i + 1 : Nat) : Int) := by
 have ap : ∀ x, app 8 st [x] = some (st ++ [x]) := fun x => bg (by simp; omega)
 rw [ep, if_pos (by omega), ay hi, aa]
 simp only [hn, hl, hc, if_true, decide_true, Bool.and_true, Bool.true_and, Bool.not_true, Bool.false_eq_true, if_false, qS, qT, lV, ap, aa, au (show i < 4611686018427387904 by omega)]
 generalize e[i] = n at *
 unfold pq lE rL
 have h : n.Op = 1 ∨ n.Op = 2 ∨ n.Op = 3 ∨ n.Op = 4 ∨ n.Op = 5 ∨ n.Op = 6 ∨ n.Op = 7 ∨ n.Op = 8 ∨ n.Op = 9 ∨ n.Op = 10 := by
  unfold ar at ha; repeat' split at ha
  all_goals omega
 simp only [EK _ _ hv, aa]
 rcases h with h | h | h | h | h | h | h | h | h | h <;> simp [h]
 all_goals (repeat' split)
 all_goals first | rfl | (exfalso; omega) | simp_all <;> omega
theorem Ay (typ : Int) (t : ab) (st : List Int) (e : List ae) (i : Nat) (hi : i < e.length) (hs : st.length ≤ 1000000000) (he : e.length ≤ 1000000000)
  (hn : (e[i]).Name = ⟨#[]⟩) (hl : (e[i]).At.Line = 0) (hc : (e[i]).At.Col = 0) (ha : 20 ≤ (e[i]).Op) :
  bN typ t st e e.length i = if (e[i]).Val = 0 then pu st (e[i]).Op >>= fun p => if p.2 = true then bN typ t p.1 e e.length ((i + 1 : Nat) : Int) else some false else some false := by
 rw [ep, if_pos (by omega), ay hi, aa]
 simp only [hn, hl, hc, if_true, decide_true, Bool.and_true, Bool.true_and, Bool.not_true, Bool.false_eq_true, if_false, qU, lV, au (show i < 4611686018427387904 by omega)]
 generalize e[i] = n at *
 unfold pq lE
 simp only [show ¬ n.Op = 1 by omega, show ¬ n.Op = 2 by omega, show ¬ n.Op = 3 by omega, show ¬ n.Op = 4 by omega, show ¬ n.Op = 5 by omega, show ¬ n.Op = 6 by omega, show ¬ n.Op = 7 by omega, show ¬ n.Op = 8 by omega, show ¬ n.Op = 9 by omega, show ¬ n.Op = 10 by omega, if_false, aa]
 by_cases h0 : n.Val = 0
 ·simp [h0]
 ·simp [h0]
theorem ar0 {op : Int} (h : ar op = 0) : 1 ≤ op ∧ op ≤ 10 := by
 unfold ar at h
 repeat' split at h
 all_goals omega
theorem ar1 {op : Int} (h : ar op = 1) : 20 ≤ op ∧ op ≤ 22 := by
 unfold ar at h
 repeat' split at h
 all_goals omega
theorem ar2 {op : Int} (h : ar op = 2) : 30 ≤ op := by
 unfold ar at h
 repeat' split at h
 all_goals omega
theorem arp {op : Int} (h : 0 ≤ ar op) (h0 : ¬ ar op = 0) : 20 ≤ op := by
 unfold ar at h h0
 repeat' split at h
 all_goals omega
def Rg (x : Option Int) : Prop := ∃ r, x = some r ∧ 0 ≤ r ∧ r ≤ 2
theorem Rg.ite {c : Prop} [Decidable c] {a b : Option Int} (h : Rg a) (h' : Rg b) : Rg (if c then a else b) := by by_cases hc : c <;> simp [hc, h, h']
theorem Bm (op a b : Int) {r : Int} : hG op a b = some r → 0 ≤ r ∧ r ≤ 2 := by
 have : Rg (hG op a b) := by
  unfold hG kp kq gT kr
  repeat' refine Rg.ite ?_ ?_
  all_goals exact ⟨_, rfl, by omega, by omega⟩
 intro h
 obtain ⟨x, h1, h2⟩ := this
 rw [h1] at h
 obtain rfl := Option.some.inj h
 exact h2
theorem Dj (typ : Int) (t : ab) (st : List Int) (e : List ae) (i : Nat) (hi : i < e.length) (hs : st.length ≤ 1000000000) (he : e.length ≤ 1000000000)
  (hv : -2147483648 ≤ (e[i]).Val ∧ (e[i]).Val ≤ 2147483647) (ha : 0 ≤ ar (e[i]).Op) (hst : ar (e[i]).Op ≤ st.length) :
  ∃ r, (0 ≤ r ∧ r ≤ 2) ∧ bN typ t st e e.length i = (if r = 0 then some false else bN typ t (st.take (st.length - (ar (e[i]).Op).toNat) ++ [r]) e e.length ((i + 1 : Nat) : Int)) ∧
   eJ e t st i = (if r = 0 then some 0 else eJ e t (st.take (st.length - (ar (e[i]).Op).toNat) ++ [r]) ((i + 1 : Nat) : Int)) := by
 by_cases hn : (e[i]).Name = ⟨#[]⟩
 case neg =>
  refine ⟨0, by omega, ?_, ?_⟩
  ·rw [ep, if_pos (by omega), ay hi, aa, if_neg hn, if_pos rfl]
  ·rw [ik, if_pos (by omega), ay hi, aa, if_neg hn, if_pos rfl]
 by_cases hl : (e[i]).At.Line = 0
 case neg =>
  refine ⟨0, by omega, ?_, ?_⟩
  ·rw [ep, if_pos (by omega), ay hi, aa, if_pos hn, if_pos (by simp [hl]), if_pos rfl]
  ·rw [ik, if_pos (by omega), ay hi, aa, if_pos hn, if_neg hl, if_pos rfl]
 by_cases hc : (e[i]).At.Col = 0
 case neg =>
  refine ⟨0, by omega, ?_, ?_⟩
  ·rw [ep, if_pos (by omega), ay hi, aa, if_pos hn, if_pos (by simp [hc]), if_pos rfl]
  ·rw [ik, if_pos (by omega), ay hi, aa, if_pos hn, if_pos hl, if_neg hc, if_pos rfl]
 have href : eJ e t st i = (eI (e[i]).Op) >>= fun t39 => (if t39 = 0 then (rG t (e[i])) >>= fun t43 => (app 8 st [t43]) >>= fun t47 => ib e t t47 i t43 else (if (e[i]).Val = 0 then (eI (e[i]).Op) >>= fun t53 => (if t53 = 1 then (idx st (w64 ((st.length : Int) - 1))) >>= fun t60 => (gG (e[i]).Op t60 0) >>= fun t62 => (idx st (w64 ((st.length : Int) - 1))) >>= fun t67 => (some (st.set ((w64 ((st.length : Int) - 1)).toNat) t62)) >>= fun l6884 => ib e t l6884 i t62 else (idx st (w64 ((st.length : Int) - 2))) >>= fun t73 => (idx st (w64 ((st.length : Int) - 1))) >>= fun t78 => (gG (e[i]).Op t73 t78) >>= fun t80 => (idx st (w64 ((st.length : Int) - 2))) >>= fun t85 => (some (st.set ((w64 ((st.length : Int) - 2)).toNat) t80)) >>= fun l6888 => (cut l6888 0 (w64 ((st.length : Int) - 1))) >>= fun t89 => ib e t t89 i t80) else some 0)) := by
  rw [ik, if_pos (by omega), ay hi, aa, if_pos hn, if_pos hl, if_pos hc]
 simp only [Df, au (show i < 4611686018427387904 by omega)] at href
 have har := mX (e[i]).Op
 by_cases a0 : ar (e[i]).Op = 0
 ·have hop : ¬ (e[i]).Op ≥ 30 ∧ ¬ (e[i]).Op ≥ 20 := ⟨by have := ar0 a0; omega, by have := ar0 a0; omega⟩
  refine ⟨rL t e[i], ?_, ?_, ?_⟩
  ·unfold rL; repeat' split
   all_goals omega
  ·rw [H6 typ t st e i hi hs he hv hn hl hc a0, a0]; simp
  ·rw [href, eI, if_neg hop.1, if_neg hop.2, aa, if_pos rfl, Jh _ _ hv, aa, bg (by simp; omega), aa, a0]; simp
 by_cases hval : (e[i]).Val = 0
 case neg =>
  have hop : 20 ≤ (e[i]).Op := arp ha a0
  refine ⟨0, by omega, ?_, ?_⟩
  ·rw [Ay typ t st e i hi hs he hn hl hc hop, if_neg hval, if_pos rfl]
  ·rw [href, eI]
   by_cases h30 : (e[i]).Op ≥ 30
   ·rw [if_pos h30, aa, if_neg (by omega), if_neg hval, if_pos rfl]
   ·rw [if_neg h30, if_pos (by omega), aa, if_neg (by omega), if_neg hval, if_pos rfl]
 by_cases a1 : ar (e[i]).Op = 1
 ·have hop : 20 ≤ (e[i]).Op ∧ (e[i]).Op ≤ 22 := ar1 a1
  obtain ⟨r, r1, r2⟩ := CJ (e[i]).Op (st[st.length - 1]'(by omega)) hop
  have hw : w64 ((st.length : Int) - 1) = ((st.length - 1 : Nat) : Int) := by rw [bh (by omega)]; omega
  refine ⟨r, ?_, ?_, ?_⟩
  ·exact Bm _ _ _ r1
  ·rw [Ay typ t st e i hi hs he hn hl hc hop.1, if_pos hval, pu, if_pos (by omega), hw, ay (by omega), aa, mr, r1, aa, eY (by omega) (by omega), aa, bg (by simp; omega)]
   simp only [aa, a1]
   by_cases hr : r = 0
   ·simp [hr]
   ·simp [hr]
  ·rw [href, eI, if_neg (by omega), if_pos hop.1, aa, if_neg (by omega), if_pos hval, aa, if_pos rfl, hw, ay (by omega), aa, r2, aa, aa, aa, a1]
   congr 2
   rw [Int.toNat_natCast]
   apply List.ext_getElem (by simp; omega)
   intro j h1 h2
   simp only [List.getElem_set, List.getElem_append, List.length_take, List.getElem_take]
   simp at h1
   by_cases hj : st.length - 1 = j
   ·subst hj; simp
   ·rw [if_neg hj, dif_pos (by simp; omega)]
 ·have a2 : ar (e[i]).Op = 2 := by omega
  have hop : 30 ≤ (e[i]).Op := ar2 a2
  obtain ⟨r, r1, r2⟩ := CK (e[i]).Op (st[st.length - 2]'(by omega)) (st[st.length - 1]'(by omega)) a2
  have hw : w64 ((st.length : Int) - 1) = ((st.length - 1 : Nat) : Int) := by rw [bh (by omega)]; omega
  have hw2 : w64 ((st.length : Int) - 2) = ((st.length - 2 : Nat) : Int) := by rw [bh (by omega)]; omega
  refine ⟨r, ?_, ?_, ?_⟩
  ·exact Bm _ _ _ r1
  ·rw [Ay typ t st e i hi hs he hn hl hc (by omega), if_pos hval, pu, if_neg (by omega), hw, hw2, ay (by omega), aa, ay (by omega), aa, mr, r1, aa, eY (by omega) (by omega), aa, bg (by simp; omega)]
   simp only [aa, a2]
   by_cases hr : r = 0
   ·simp [hr]
   ·simp [hr]
  ·rw [href, eI, if_pos hop, aa, if_neg (by omega), if_pos hval, aa, if_neg (by omega), hw, hw2, ay (by omega), aa, ay (by omega), aa, r2, aa, aa, aa, eY (by omega) (by simp), aa, a2]
   congr 2
   rw [Int.toNat_natCast, Int.toNat_natCast]
   apply List.ext_getElem (by simp; omega)
   intro j h1 h2
   simp only [List.getElem_take, List.getElem_set, List.getElem_append, List.length_take]
   simp at h1
   by_cases hj : st.length - 2 = j
   ·subst hj; simp
   ·rw [if_neg hj, dif_pos (by simp; omega)]
theorem Ka (l : List ae) (k1 : ∀ i, i < l.length → 0 ≤ ar (gv l i)) : ∀ j, j ≤ l.length → hh l j ≤ j := by
 intro j
 induction j with
 | zero => intro _; simp [hh]
 | succ j ih => intro hj; have := ih (by omega); have := k1 j (by omega); simp only [hh]; omega
theorem Dk (typ : Int) (t : ab) (e : List ae) (hty : 1 ≤ typ ∧ typ ≤ 2) (he : e.length ≤ 1000000000) (h1 : 1 ≤ e.length) (hv : ∀ i (h : i < e.length), -2147483648 ≤ (e[i]).Val ∧ (e[i]).Val ≤ 2147483647) (hz : kI e e.length 1 = 0) :
  ∀ (k i : Nat) (st : List Int), i + k = e.length → (st.length : Int) = hh e i →
   ∃ got, eJ e t st i = some got ∧ bN typ t st e e.length i = some (decide (got = typ)) := by
 obtain ⟨k1, k2, k3⟩ := ym e e.length 1 (by omega) hz
 intro k
 induction k with
 | zero =>
  intro i st h hs
  have e0 : i = e.length := by omega
  subst e0
  have hpos : 0 < st.length := by have := k3 e.length h1 (Nat.le_refl _); omega
  rw [ep, if_neg (by omega), ik, if_neg (by omega)]
  rw [show (0 : Int) = ((0 : Nat) : Int) from rfl, ay hpos]
  exact ⟨st[0], rfl, rfl⟩
 | succ k ih =>
  intro i st h hs
  have hlt : i < e.length := by omega
  have ha0 := k1 i hlt
  have hub := Ka e k1 i (by omega)
  have hn := k3 (i + 1) (by omega) (by omega)
  have hhi : hh e (i + 1) = hh e i + 1 - ar (gv e i) := rfl
  rw [← FB hlt] at ha0 hhi
  have ha2 := mX (e[i]).Op
  obtain ⟨r, r0, r1, r2⟩ := Dj typ t st e i hlt (by omega) he (hv i hlt) ha0 (by omega)
  rw [r1, r2]
  by_cases hr : r = 0
  ·rw [if_pos hr, if_pos hr]; exact ⟨0, rfl, by rw [decide_eq_false (by omega)]⟩
  ·rw [if_neg hr, if_neg hr]
   exact ih (i + 1) _ (by omega) (by simp; omega)
theorem Ji (t : ab) (e : List ae) (he : e.length ≤ 1000000000) (h1 : 1 ≤ e.length) (hv : ∀ i (h : i < e.length), -2147483648 ≤ (e[i]).Val ∧ (e[i]).Val ≤ 2147483647) (hz : kI e e.length 1 = 0) :
  ∀ (k i : Nat) (st : List Int), i + k = e.length → (st.length : Int) = hh e i → (∀ x, x ∈ st → 0 ≤ x ∧ x ≤ 2) → ∀ got, eJ e t st i = some got → 0 ≤ got ∧ got ≤ 2 := by
 obtain ⟨k1, k2, k3⟩ := ym e e.length 1 (by omega) hz
 intro k
 induction k with
 | zero =>
  intro i st h hs hst got hg
  have e0 : i = e.length := by omega
  subst e0
  have hpos : 0 < st.length := by have := k3 e.length h1 (Nat.le_refl _); omega
  rw [ik, if_neg (by omega), show (0 : Int) = ((0 : Nat) : Int) from rfl, ay hpos] at hg
  obtain rfl : st[0] = got := Option.some.inj hg
  exact hst _ (List.getElem_mem _)
 | succ k ih =>
  intro i st h hs hst got hg
  have hlt : i < e.length := by omega
  have ha0 := k1 i hlt
  have hub := Ka e k1 i (by omega)
  have hn := k3 (i + 1) (by omega) (by omega)
  have hhi : hh e (i + 1) = hh e i + 1 - ar (gv e i) := rfl
  rw [← FB hlt] at ha0 hhi
  have ha2 := mX (e[i]).Op
  obtain ⟨r, r0, r1, r2⟩ := Dj 1 t st e i hlt (by omega) he (hv i hlt) ha0 (by omega)
  rw [r2] at hg
  by_cases hr : r = 0
  ·rw [if_pos hr] at hg; obtain rfl := Option.some.inj hg; omega
  ·rw [if_neg hr] at hg
   refine ih (i + 1) _ (by omega) (by simp; omega) (fun x hx => ?_) got hg
   rcases List.mem_append.mp hx with hx | hx
   ·exact hst x (List.mem_of_mem_take hx)
   ·rw [List.mem_singleton.mp hx]; omega
def okE (e : List ae) : Prop := e.length ≤ 2000000 ∧ ∀ i (h : i < e.length), -2147483648 ≤ (e[i]).Val ∧ (e[i]).Val ≤ 2147483647
theorem Kb (t : ab) (e : List ae) (typ : Int) (hk : okE e) : E2 (fl t e typ) (eN t e typ) := by
 obtain ⟨he', hv⟩ := hk
 have he : e.length ≤ 1000000000 := by omega
 unfold fl eN
 rw [mu, aa, mu, aa]
 obtain ⟨v, v1, v2⟩ := aC e (by omega)
 by_cases h0 : e.length = 0
 ·rw [if_pos (show (e.length : Int) < 1 by omega), if_neg (show ¬ decide (1 ≤ (e.length : Int) ∧ (e.length : Int) ≤ 256) = true by simp; omega)]
  exact ⟨false, by simp, rfl⟩
 rw [if_neg (show ¬ (e.length : Int) < 1 by omega)]
 by_cases h256 : e.length ≤ 256
 case neg =>
  rw [if_pos (show (e.length : Int) > 256 by omega), if_neg (show ¬ decide (1 ≤ (e.length : Int) ∧ (e.length : Int) ≤ 256) = true by simp; omega)]
  exact ⟨false, by simp, rfl⟩
 rw [if_neg (show ¬ (e.length : Int) > 256 by omega), if_pos (show decide (1 ≤ (e.length : Int) ∧ (e.length : Int) ≤ 256) = true by simp; omega), bh (n := (e.length : Int) - 1) (by omega), Dr e _ (by omega), F4 e _ (by omega), aa, aa, v1, v2]
 by_cases hz : xJ e ((e.length : Int) - 1) = 0
 case neg => rw [if_neg hz, if_neg hz]; exact ⟨false, by simp, rfl⟩
 rw [if_pos hz, if_pos hz, aa, aa]
 by_cases hv64 : v > 64
 ·rw [if_pos hv64, if_pos hv64]; exact ⟨false, by simp, rfl⟩
 rw [if_neg hv64, if_neg hv64]
 have hz' : kI e e.length 1 = 0 := by
  unfold xJ at hz
  rw [if_neg (by omega)] at hz
  rwa [show ((e.length : Int) - 1).toNat + 1 = e.length by omega] at hz
 unfold B0
 have hg : ∃ got, eJ e t [] 0 = some got ∧ (0 ≤ got ∧ got ≤ 2) ∧ (1 ≤ typ ∧ typ ≤ 2 → bN typ t [] e e.length 0 = some (decide (got = typ))) := by
  obtain ⟨got, g1, g2⟩ := Dk 1 t e (by omega) he (by omega) hv hz' e.length 0 [] (by omega) rfl
  refine ⟨got, g1, Ji t e he (by omega) hv hz' e.length 0 [] (by omega) rfl (by simp) got g1, fun ht => ?_⟩
  obtain ⟨got', g3, g4⟩ := Dk typ t e ht he (by omega) hv hz' e.length 0 [] (by omega) rfl
  rw [g1] at g3; obtain rfl := Option.some.inj g3; exact g4
 obtain ⟨got, g1, g2, g3⟩ := hg
 rw [g1, aa]
 by_cases ht : 1 ≤ typ ∧ typ ≤ 2
 ·rw [if_pos (by simpa using ht), g3 ht]
  by_cases hg0 : got = 0
  ·rw [if_pos hg0, decide_eq_false (by omega)]; exact .rfl'
  ·rw [if_neg hg0]; exact .rfl'
 ·rw [if_neg (by simpa using ht)]
  by_cases hg0 : got = 0
  ·rw [if_pos hg0]; exact .rfl'
  ·rw [if_neg hg0, decide_eq_false (by omega)]; exact .rfl'
end Go.Proofs.YtkmbagocakiefaaGreatDoor.Wb
namespace Go.Proofs.YtkmbagocakiefaaGreatDoor.Wb
open Go Go.Jv
def sx (t : ab) (e : List ae) (typ : Int) : Bool := (fl t e typ).getD false
theorem AM {t : ab} {e : List ae} {typ : Int} (h : okE e) : fl t e typ = some (sx t e typ) := by
 obtain ⟨v, h1, _⟩ := Kb t e typ h; rw [sx, h1]; rfl
theorem IT {t : ab} {e : List ae} {typ : Int} (h : okE e) : eN t e typ = some (sx t e typ) := by
 obtain ⟨v, h1, h2⟩ := Kb t e typ h; rw [sx, h1, h2]; rfl
def fU (t : ab) (k : Int) : Int :=
 if k = 1 then t.Vars.length else if k = 2 ∨ k = 3 ∨ k = 4 then t.Timers.length else if k = 5 ∨ k = 10 then t.Counters.length else if k = 6 then t.Dets.length else if k = 7 ∨ k = 8 ∨ k = 9 then 1 else 0
def eP (k : Int) : Int := if k = 1 then 1 else if k = 7 then 2 else 0
def okS (t : ab) (s : ac) : Bool :=
 decide (s.Name = ⟨#[]⟩) && decide (s.At.Line = 0) && decide (s.At.Col = 0) && decide (0 ≤ s.Ix) && decide (s.Ix < fU t s.Kind) && (if eP s.Kind = 0 then decide (s.Expr.length = 0) else sx t s.Expr (eP s.Kind))
theorem HO (t : ab) (s : ac) (h : okE s.Expr) : ms t s = some (okS t s) := by
 unfold ms jA lG lH
 simp only [AM h, aa]
 unfold okS
 by_cases hn : s.Name = ⟨#[]⟩
 case neg => simp [hn]
 by_cases hl : s.At.Line = 0
 case neg => simp [hn, hl]
 by_cases hc : s.At.Col = 0
 case neg => simp [hn, hl, hc]
 by_cases hx : s.Ix < 0
 ·simp [hn, hl, hc, hx]; omega
 have hx' : 0 ≤ s.Ix := by omega
 have hz : decide (s.Ix < 1) = decide (s.Ix = 0) := by by_cases h0 : s.Ix = 0 <;> simp [h0]; omega
 by_cases h1 : s.Kind = 1
 ·by_cases hm : s.Ix < t.Vars.length <;> simp [hn, hl, hc, hx, hx', h1, fU, eP, hm]
 by_cases h7 : s.Kind = 7
 ·by_cases hm : s.Ix = 0 <;> simp [hn, hl, hc, hx, hx', h7, fU, eP, hm, hz]
 by_cases he : s.Expr.length = 0
 case neg => simp [hn, hl, hc, hx, hx', h1, h7, eP]; simp [show ¬ s.Expr = [] from fun h => he (by rw [h]; rfl)]
 have he' : s.Expr = [] := List.eq_nil_of_length_eq_zero he
 by_cases h2 : s.Kind = 2
 ·simp [hn, hl, hc, hx, hx', h2, fU, eP, he']
 by_cases h3 : s.Kind = 3
 ·simp [hn, hl, hc, hx, hx', h3, fU, eP, he']
 by_cases h4 : s.Kind = 4
 ·simp [hn, hl, hc, hx, hx', h4, fU, eP, he']
 by_cases h5 : s.Kind = 5
 ·simp [hn, hl, hc, hx, hx', h5, fU, eP, he']
 by_cases h10 : s.Kind = 10
 ·simp [hn, hl, hc, hx, hx', h10, fU, eP, he']
 by_cases h6 : s.Kind = 6
 ·simp [hn, hl, hc, hx, hx', h6, fU, eP, he']
 by_cases h8 : s.Kind = 8
 ·simp [hn, hl, hc, hx, hx', h8, fU, eP, he', hz]
 by_cases h9 : s.Kind = 9
 ·simp [hn, hl, hc, hx, hx', h9, fU, eP, he', hz]
 simp [*, fU, eP]
def ctl (o : List Bool) (k : Int) : Option (List Bool) :=
 if k = 7 then (if o.length = 16 then none else some (o ++ [false])) else
 if k = 8 then (if o.length = 0 ∨ o.getD (o.length - 1) false = true then none else some (o.set (o.length - 1) true)) else
 if k = 9 then (if o.length = 0 then none else some (o.take (o.length - 1))) else some o
theorem C7 (t : ab) (o : List Bool) (l : List ac) (i : Nat) (hi : i < l.length) (hl : l.length ≤ 1000000000) (ho : o.length ≤ 16) (h : okE (l[i]).Expr) :
  ef t o l l.length i = if okS t l[i] = true then (match ctl o (l[i]).Kind with | none => some false | some o' => ef t o' l l.length ((i + 1 : Nat) : Int)) else some false := by
 rw [qV, if_pos (by omega), ay hi, aa, HO t _ h, aa]
 simp only [zT, au (show i < 4611686018427387904 by omega)]
 generalize l[i] = s at *
 by_cases hs : okS t s = true
 case neg => simp [hs]
 simp only [hs, Bool.not_true, Bool.false_eq_true, if_false, if_true]
 unfold ctl
 by_cases h7 : s.Kind = 7
 ·simp only [h7, if_true]
  by_cases h16 : o.length = 16
  ·simp [h16]
  ·rw [if_neg (by omega), if_neg h16, bg (by simp; omega), aa]
 by_cases h8 : s.Kind = 8
 ·simp only [h8, if_true]
  by_cases h0 : o.length = 0
  ·simp [h0]
  ·rw [if_neg (by omega), bh (n := (o.length : Int) - 1) (by omega), show (o.length : Int) - 1 = ((o.length - 1 : Nat) : Int) by omega, ay (by omega)]
   simp only [aa, Int.toNat_natCast, h0, false_or]
   have : o.getD (o.length - 1) false = o[o.length - 1]'(by omega) := by simp [List.getD, List.getElem?_eq_getElem (show o.length - 1 < o.length by omega)]
   rw [this]
   by_cases hb : o[o.length - 1]'(by omega) = true <;> simp [hb, show ¬ o = [] from fun h => h0 (by rw [h]; rfl)]
 by_cases h9 : s.Kind = 9
 ·simp only [h9, if_true]
  by_cases h0 : o.length = 0
  ·simp [h0]
  ·rw [if_neg (show ¬ (9 : Int) = 7 by omega), if_neg (show ¬ (9 : Int) = 8 by omega), if_neg (by omega), bh (n := (o.length : Int) - 1) (by omega), show (o.length : Int) - 1 = ((o.length - 1 : Nat) : Int) by omega, eY (by omega) (by omega), aa]
   simp [h0]
 simp [h7, h8, h9]
theorem JW (t : ab) (o : List Bool) (l : List ac) (i : Nat) (hi : i < l.length) (hl : l.length ≤ 1000000000) (ho : o.length ≤ 16) (h : okE (l[i]).Expr) :
  dL l t o i = if okS t l[i] = true then (match ctl o (l[i]).Kind with | none => some false | some o' => dL l t o' ((i + 1 : Nat) : Int)) else some false := by
 rw [qq, if_pos (by omega), ay hi, aa]
 simp only [yP, yQ]
 generalize l[i] = s at *
 have key : ∀ (th : Int) (ty : Int) (o' : List Bool), fU t s.Kind = th → eP s.Kind = ty → s.Name = ⟨#[]⟩ → s.At.Line = 0 → s.At.Col = 0 →
   dp l t o' i s th ty =
   if okS t s = true then dL l t o' ((i + 1 : Nat) : Int) else some false := by
  intro th ty o' h1 h2 hn hl hc
  rw [yR]
  simp only [yS, IT h, aa, au (show i < 4611686018427387904 by omega)]
  unfold okS
  rw [h1, h2]
  simp only [hn, hl, hc, decide_true, Bool.true_and]
  by_cases a : s.Ix < 0
  ·rw [if_pos a, if_neg (by simp; omega)]
  rw [if_neg a]
  by_cases b : s.Ix ≥ th
  ·rw [if_pos b, if_neg (by simp; omega)]
  rw [if_neg b]
  have a' : 0 ≤ s.Ix := by omega
  have b' : s.Ix < th := by omega
  by_cases c : ty = 0
  ·simp only [c, if_true, a', b', decide_true, Bool.true_and]
   by_cases d : s.Expr.length = 0
   ·rw [if_neg (by omega), if_pos (by simpa using d)]
   ·rw [if_pos (by omega), if_neg (by simpa using d)]
  ·simp only [c, if_false, a', b', decide_true, Bool.true_and]
 by_cases hn : s.Name = ⟨#[]⟩
 case neg => simp [hn, okS]
 by_cases hl : s.At.Line = 0
 case neg => simp [hn, hl, okS]
 by_cases hc : s.At.Col = 0
 case neg => simp [hn, hl, hc, okS]
 rw [if_pos hn, if_pos hl, if_pos hc]
 unfold ctl
 by_cases h1 : s.Kind = 1
 ·rw [if_pos h1, key _ 1 o (by simp [fU, h1]) (by simp [eP, h1]) hn hl hc]; simp [h1]
 by_cases h2 : s.Kind = 2
 ·rw [if_neg h1, if_pos h2, key _ 0 o (by simp [fU, h2]) (by simp [eP, h2]) hn hl hc]; simp [h2]
 by_cases h3 : s.Kind = 3
 ·rw [if_neg h1, if_neg h2, if_pos h3, key _ 0 o (by simp [fU, h3]) (by simp [eP, h3]) hn hl hc]; simp [h3]
 by_cases h4 : s.Kind = 4
 ·rw [if_neg h1, if_neg h2, if_neg h3, if_pos h4, key _ 0 o (by simp [fU, h4]) (by simp [eP, h4]) hn hl hc]; simp [h4]
 by_cases h5 : s.Kind = 5
 ·rw [if_neg h1, if_neg h2, if_neg h3, if_neg h4, if_pos h5, key _ 0 o (by simp [fU, h5]) (by simp [eP, h5]) hn hl hc]; simp [h5]
 by_cases h10 : s.Kind = 10
 ·rw [if_neg h1, if_neg h2, if_neg h3, if_neg h4, if_neg h5, if_pos h10, key _ 0 o (by simp [fU, h10]) (by simp [eP, h10]) hn hl hc]; simp [h10]
 by_cases h6 : s.Kind = 6
 ·rw [if_neg h1, if_neg h2, if_neg h3, if_neg h4, if_neg h5, if_neg h10, if_pos h6, key _ 0 o (by simp [fU, h6]) (by simp [eP, h6]) hn hl hc]; simp [h6]
 rw [if_neg h1, if_neg h2, if_neg h3, if_neg h4, if_neg h5, if_neg h10, if_neg h6]
 by_cases h7 : s.Kind = 7
 ·rw [if_pos h7, bg (by simp; omega), aa]
  by_cases h16 : o.length = 16
  ·rw [if_pos (by simp; omega)]; simp [h7, h16]
  ·rw [if_neg (by simp; omega), key _ 2 _ (by simp [fU, h7]) (by simp [eP, h7]) hn hl hc]; simp [h7, h16]
 by_cases h8 : s.Kind = 8
 ·rw [if_neg h7, if_pos h8]
  by_cases h0 : o.length = 0
  ·rw [if_pos (by omega)]; simp [h8, h0]
  ·rw [if_neg (by omega), bh (n := (o.length : Int) - 1) (by omega), show (o.length : Int) - 1 = ((o.length - 1 : Nat) : Int) by omega, ay (by omega), aa, aa, aa, Int.toNat_natCast, key _ 0 _ (by simp [fU, h8]) (by simp [eP, h8]) hn hl hc]
   have : o.getD (o.length - 1) false = o[o.length - 1]'(by omega) := by simp [List.getD, List.getElem?_eq_getElem (show o.length - 1 < o.length by omega)]
   rw [this]
   by_cases hb : o[o.length - 1]'(by omega) = true <;> simp [hb, h8, h0]
 by_cases h9 : s.Kind = 9
 ·rw [if_neg h7, if_neg h8, if_pos h9]
  by_cases h0 : o.length = 0
  ·rw [if_pos (by omega)]; simp [h9, h0]
  ·rw [if_neg (by omega), bh (n := (o.length : Int) - 1) (by omega), show (o.length : Int) - 1 = ((o.length - 1 : Nat) : Int) by omega, eY (by omega) (by omega), aa, Int.toNat_natCast, key _ 0 _ (by simp [fU, h9]) (by simp [eP, h9]) hn hl hc]
   simp [h9, h0]
 have : ¬ s.Ix < 0 → ¬ s.Ix < fU t s.Kind := by simp [fU, *]
 rw [if_neg h7, if_neg h8, if_neg h9, if_neg]
 unfold okS; simp; intros; omega
theorem IU {o o' : List Bool} {k : Int} (h : ctl o k = some o') (ho : o.length ≤ 16) : o'.length ≤ 16 := by
 unfold ctl at h
 repeat' split at h
 all_goals first | (cases h; done) | (obtain rfl := Option.some.inj h; simp; omega) | (obtain rfl := Option.some.inj h; simpa using ho)
def okL (l : List ac) : Prop := l.length ≤ 2000000 ∧ ∀ i (h : i < l.length), okE (l[i]).Expr
theorem HQ (t : ab) (l : List ac) (hl : okL l) : ∀ (k i : Nat) (o : List Bool), i + k = l.length → o.length ≤ 16 → E2 (ef t o l l.length i) (dL l t o i) := by
 intro k
 induction k with
 | zero =>
  intro i o h ho
  rw [qV, if_neg (by omega), qq, if_neg (by omega)]
  exact ⟨_, rfl, rfl⟩
 | succ k ih =>
  intro i o h ho
  have hi : i < l.length := by omega
  rw [C7 t o l i hi (by have := hl.1; omega) ho (hl.2 i hi), JW t o l i hi (by have := hl.1; omega) ho (hl.2 i hi)]
  by_cases hs : okS t l[i] = true
  ·rw [if_pos hs, if_pos hs]
   cases hc : ctl o (l[i]).Kind with
   | none => exact ⟨_, rfl, rfl⟩
   | some o' => exact ih (i + 1) o' (by omega) (IU hc ho)
  ·rw [if_neg hs, if_neg hs]; exact ⟨_, rfl, rfl⟩
theorem Ev (t : ab) (l : List ac) (hl : okL l) : E2 (jn t l) (eO t l) := HQ t l hl l.length 0 [] (by omega) (by simp)
end Go.Proofs.YtkmbagocakiefaaGreatDoor.Wb
