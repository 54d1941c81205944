/- Plain lemmas about what walks print: sums that do not leave their kind, elements, parts. -/
import Derived.Test.YtkmbagocakiefaaGreatDoorM2
namespace Go.Jv
theorem Ll (n : Int) : w64 n = (n + 9223372036854775808) % 18446744073709551616 - 9223372036854775808 := by
 unfold w64; rw [IntKind.wrap_i64]
theorem bh {n : Int} (h : -9223372036854775808 ≤ n ∧ n ≤ 9223372036854775807) : w64 n = n := by rw [Ll]; omega
theorem kx {α : Type} (l : List α) (j : Nat) : idx l (j : Int) = l[j]? := by simp [idx]
theorem eX {α : Type} {l : List α} {i : Int} (h0 : 0 ≤ i) (h : i < l.length) : idx l i = some (l[i.toNat]'(by omega)) := by
 rw [idx, if_pos h0, List.getElem?_eq_getElem (by omega)]
theorem bg {α : Type} {B : Nat} {l new : List α} (h : (l.length + new.length) * B ≤ 140737488355328) : app B l new = some (l ++ new) := by rw [app, if_pos h]
theorem Im {α : Type} {l : List α} {lo hi : Int} (h0 : 0 ≤ lo) (h1 : lo ≤ hi) (h2 : hi ≤ l.length) : cut l lo hi = some ((l.drop lo.toNat).take (hi.toNat - lo.toNat)) := by rw [cut, if_pos ⟨h0, h1, h2⟩]
theorem eY {α : Type} {l : List α} {hi : Int} (h1 : 0 ≤ hi) (h2 : hi ≤ l.length) : cut l 0 hi = some (l.take hi.toNat) := by rw [Im (by omega) h1 h2]; simp
theorem aa {α β : Type} (a : α) (f : α → Option β) : (some a >>= f) = f a := rfl
end Go.Jv
namespace Go.Jv
def E2 {α : Type} (a b : Option α) : Prop := ∃ v, a = some v ∧ b = some v
theorem E2.rfl' {α : Type} {v : α} : E2 (some v) (some v) := ⟨v, rfl, rfl⟩
theorem E2.of {α : Type} {a b : Option α} {v w : α} (h : v = w) (ha : a = some v) (hb : b = some w) : E2 a b := ⟨v, ha, h ▸ hb⟩
theorem E2.ite {α : Type} {c : Prop} [Decidable c] {a b a' b' : Option α} (h : c → E2 a b) (h' : ¬ c → E2 a' b') : E2 (if c then a else a') (if c then b else b') := by
 by_cases hc : c
 ·simp only [if_pos hc]; exact h hc
 ·simp only [if_neg hc]; exact h' hc
theorem E2.bind {α β : Type} {a b : Option α} {f g : α → Option β} (h : E2 a b) (hk : ∀ v, a = some v → E2 (f v) (g v)) : E2 (a >>= f) (b >>= g) := by
 obtain ⟨v, h1, h2⟩ := h; rw [h1, h2]; exact hk v h1
theorem ay {α : Type} {l : List α} {i : Nat} (h : i < l.length) : idx l (i : Int) = some (l[i]) := by rw [kx, List.getElem?_eq_getElem h]
theorem au {i : Nat} (h : i < 4611686018427387904) : w64 ((i : Int) + 1) = ((i + 1 : Nat) : Int) := by rw [bh (by omega)]; omega
end Go.Jv
