/- Plain lemmas about what walks print: sums that do not leave their kind, elements, parts. -/
import Derived.Test.YtdcpfmjnkcodiaaDoorJwE
namespace Go.Jv

theorem w64_eq (n : Int) : w64 n = (n + 9223372036854775808) % 18446744073709551616 - 9223372036854775808 := by
  unfold w64; rw [IntKind.wrap_i64]
theorem w64_id {n : Int} (h : -9223372036854775808 ≤ n ∧ n ≤ 9223372036854775807) : w64 n = n := by rw [w64_eq]; omega
theorem idx_nat {α : Type} (l : List α) (j : Nat) : idx l (j : Int) = l[j]? := by simp [idx]
theorem idx_lt {α : Type} {l : List α} {i : Int} (h0 : 0 ≤ i) (h : i < l.length) : idx l i = some (l[i.toNat]'(by omega)) := by
  rw [idx, if_pos h0, List.getElem?_eq_getElem (by omega)]
theorem app_ok {α : Type} {B : Nat} {l new : List α} (h : (l.length + new.length) * B ≤ 140737488355328) : app B l new = some (l ++ new) := by rw [app, if_pos h]
theorem cut_ok {α : Type} {l : List α} {lo hi : Int} (h0 : 0 ≤ lo) (h1 : lo ≤ hi) (h2 : hi ≤ l.length) : cut l lo hi = some ((l.drop lo.toNat).take (hi.toNat - lo.toNat)) := by rw [cut, if_pos ⟨h0, h1, h2⟩]
theorem cut_pre {α : Type} {l : List α} {hi : Int} (h1 : 0 ≤ hi) (h2 : hi ≤ l.length) : cut l 0 hi = some (l.take hi.toNat) := by rw [cut_ok (by omega) h1 h2]; simp
theorem some_bind {α β : Type} (a : α) (f : α → Option β) : (some a >>= f) = f a := rfl
end Go.Jv
