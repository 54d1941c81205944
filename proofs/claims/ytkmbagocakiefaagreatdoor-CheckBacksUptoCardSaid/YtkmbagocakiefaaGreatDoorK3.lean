/- Kinds of words: the lexer's and the document's agree on what is a name. -/
import Derived.Test.YtkmbagocakiefaaGreatDoorK2
namespace Go.Proofs.YtkmbagocakiefaaGreatDoor.Wb
open Go Go.Jv
def Tt {α : Type} (x : Option α) : Prop := ∃ v, x = some v
theorem Tt.some {α : Type} (v : α) : Tt (some v) := ⟨v, rfl⟩
theorem Tt.ite {α : Type} {c : Prop} [Decidable c] {a b : Option α} (h : c → Tt a) (h' : ¬ c → Tt b) : Tt (if c then a else b) := by
 by_cases hc : c
 ·rw [if_pos hc]; exact h hc
 ·rw [if_neg hc]; exact h' hc
theorem Tt.bind {α β : Type} {a : Option α} {f : α → Option β} (h : Tt a) (hk : ∀ v, a = Option.some v → Tt (f v)) : Tt (a >>= f) := by
 obtain ⟨v, h1⟩ := h; rw [h1]; exact hk v h1
theorem iH {s : ByteArray} {i : Nat} (h : i < s.size) : fp s (i : Int) = some ((s[i]).toNat : Int) := by
 rw [fp, if_pos (by omega), Int.toNat_natCast, getElem?_pos s i h]; rfl
theorem rA {s : ByteArray} {lo hi : Int} (h0 : 0 ≤ lo) (h1 : lo ≤ hi) (h2 : hi ≤ s.size) : rK s lo hi = some (s.extract lo.toNat hi.toNat) := by rw [rK, if_pos ⟨h0, h1, h2⟩]
theorem xQ (c : Int) : Tt (nA c) := by unfold nA; exact .ite (fun _ => .some _) fun _ => .some _
theorem Dx (c : Int) : Tt (pw c) := xQ c
theorem IB (c : Int) : qo c = ly c := rfl
theorem Dy (c : Int) : Tt (ly c) := by
 unfold ly; exact .ite (fun _ => .ite (fun _ => .some _) fun _ => .ite (fun _ => .some _) fun _ => .some _) fun _ => .ite (fun _ => .some _) fun _ => .some _
theorem JA (c : Int) : AZ c = ql c := rfl
theorem JB (c : Int) : Tt (ql c) := by
 unfold ql
 exact .bind (Dy c) fun _ _ => .ite (fun _ => .some _) fun _ => .bind (xQ c) fun _ _ => .ite (fun _ => .some _) fun _ => .some _
theorem BM (s : ByteArray) (base : Int) (hs : s.size ≤ 1000000000000) : ∀ (k i : Nat) (u : Bool) (v : Int), i + k = s.size → Tt (iJ s base u v i) := by
 intro k
 induction k with
 | zero => intro i u v h; rw [sw, if_neg (by omega)]; exact .some _
 | succ k ih =>
  intro i u v h
  have n5 : ∀ u v, Tt (kj s base u v i) := fun u v => by rw [AT, au (by omega)]; exact ih (i + 1) u v (by omega)
  have n2 : ∀ u v d, Tt (dz s base u v i d) := fun u v d => by rw [AS]; exact .ite (fun _ => .some _) fun _ => n5 _ _
  have n4 : ∀ u v d c, Tt (ki s base u v i d c) := fun u v d c => by
   rw [AR]
   refine .ite (fun _ => .ite (fun _ => .ite (fun h0 => .ite (fun _ => ?_) fun _ => n2 _ _ _) fun _ => n2 _ _ _) fun _ => n2 _ _ _) fun _ => n2 _ _ _
   rw [bh (n := (i : Int) - 1) (by omega), show (i : Int) - 1 = ((i - 1 : Nat) : Int) by omega, iH (by omega), aa]
   exact .ite (fun _ => n2 _ _ _) fun _ => n5 _ _
  have n3 : ∀ u v d c, Tt (kh s base u v i d c) := fun u v d c => by
   rw [AQ]
   exact .ite (fun _ => .ite (fun _ => n2 _ _ _) fun _ => n4 _ _ _ _) fun _ => n4 _ _ _ _
  rw [sw, if_pos (by omega), iH (by omega), aa]
  exact .bind (xQ _) fun _ _ => .ite (fun _ => n2 _ _ _) fun _ => .ite (fun _ => .ite (fun _ => n2 _ _ _) fun _ => n3 _ _ _ _) fun _ => n3 _ _ _ _
theorem vB (s : ByteArray) (base : Int) (u : Bool) (hs : s.size ≤ 1000000000000) : Tt (lz s base u) := BM s base hs s.size 0 u 0 (by omega)
theorem Gc (s : ByteArray) (c : UInt8) : -1 ≤ firstIdx s c ∧ firstIdx s c < s.size := by
 unfold firstIdx
 split
 ·rename_i i h
  have := List.mem_of_find?_eq_some h
  rw [List.mem_range] at this; omega
 ·omega
theorem P0 (s u : ByteArray) (hu : u.size = 1) (hs : s.size ≤ 1000000000000) : ∃ a b c, mq s u = some (a, b, c) ∧ a.size ≤ s.size ∧ b.size ≤ s.size := by
 have hidx : ∃ r, vX s u = some r ∧ (r < 0 ∨ r + 1 ≤ s.size) := by
  unfold vX
  rw [if_neg (by omega)]
  by_cases he : u = s
  ·rw [if_pos he]; exact ⟨0, rfl, by subst he; omega⟩
  ·rw [if_neg he, if_pos (by omega), show (0 : Int) = ((0 : Nat) : Int) from rfl, iH (by omega), aa]
   unfold sB la Ce
   simp only [aa]
   refine ⟨_, rfl, ?_⟩
   have := Gc s ((((u[0]'(by omega)).toNat : Int)).toNat.toUInt8)
   omega
 obtain ⟨r, h1, h2⟩ := hidx
 unfold mq FP
 rw [h1, aa]
 by_cases hr : r ≥ 0
 ·rw [if_pos hr, rA (by omega) hr (by omega), aa, hu, bh (by omega), rA (by omega) (by omega) (by omega), aa, aa]
  exact ⟨_, _, _, rfl, by simp; omega, by simp⟩
 ·rw [if_neg hr, aa]
  exact ⟨_, _, _, rfl, Nat.le_refl _, Nat.zero_le _⟩
theorem zD : ∀ (k i : Nat) (s : ByteArray) (v : Int) (any : Bool), i + k = 3 → s.size ≤ 1000000000000 → Tt (gN s v any ⟨#[104]⟩ 3600 ⟨#[109]⟩ 60 ⟨#[115]⟩ 1 i) := by
 intro k
 induction k with
 | zero => intro i s v any h hs; rw [qm, if_neg (by omega)]; exact .ite (fun _ => .some _) fun _ => .some _
 | succ k ih =>
  intro i s v any h hs
  have n4 : ∀ s v any, s.size ≤ 1000000000000 → Tt (jb s v any ⟨#[104]⟩ 3600 ⟨#[109]⟩ 60 ⟨#[115]⟩ 1 i) := fun s v any hs => by
   rw [yM, au (by omega)]; exact ih (i + 1) s v any (by omega) hs
  have n3 : ∀ v u rest ok n, rest.size ≤ 1000000000000 → Tt (ja v u rest ok n ⟨#[104]⟩ 3600 ⟨#[109]⟩ 60 ⟨#[115]⟩ 1 i) := fun v u rest ok n hs => by
   rw [yL]; exact .ite (fun _ => .some _) fun _ => n4 _ _ _ hs
  have n2 : ∀ s v any u hd rest ok, s.size ≤ 1000000000000 → hd.size ≤ 1000000000000 → rest.size ≤ 1000000000000 → Tt (iZ s v any u hd rest ok ⟨#[104]⟩ 3600 ⟨#[109]⟩ 60 ⟨#[115]⟩ 1 i) := fun s v any u hd rest ok h1 h2 h3 => by
   rw [yK]; exact .ite (fun _ => n4 _ _ _ h1) fun _ => .bind (vB _ _ _ h2) fun _ _ => .ite (fun _ => n3 _ _ _ _ _ h3) fun _ => n3 _ _ _ _ _ h3
  rw [qm, if_pos (by omega)]
  have hi : i = 0 ∨ i = 1 ∨ i = 2 := by omega
  have hg : ∃ u : bk, A3.get (⟨(⟨⟨#[104]⟩, 3600⟩ : bk), (⟨⟨#[109]⟩, 60⟩ : bk), (⟨⟨#[115]⟩, 1⟩ : bk)⟩ : (A3 bk)) i = some u ∧ u.unit.size = 1 := by
   rcases hi with rfl | rfl | rfl
   ·exact ⟨_, rfl, rfl⟩
   ·exact ⟨_, rfl, rfl⟩
   ·exact ⟨_, rfl, rfl⟩
  obtain ⟨u, hu, hu1⟩ := hg
  obtain ⟨a, b, c, hc, ha, hb⟩ := P0 s u.unit hu1 hs
  rw [hu, aa, hc, aa]
  exact .ite (fun _ => n2 _ _ _ _ _ _ _ hs (by show a.size ≤ _; omega) (by show b.size ≤ _; omega)) fun _ => n2 _ _ _ _ _ _ _ hs (by show a.size ≤ _; omega) (by show b.size ≤ _; omega)
theorem Hl (s : ByteArray) (hs : s.size ≤ 1000000000000) : Tt (rp s) := by
 have k3 : ∀ v ok, Tt (fP v ok) := fun v ok => by unfold fP; exact .ite (fun _ => .some _) fun _ => .ite (fun _ => .some _) fun _ => .some _
 have k2 : ∀ hex is, hex.size ≤ 1000000000000 → Tt (kl s hex is) := fun hex is hh => by
  unfold kl
  exact .ite (fun _ => .bind (vB _ _ _ hh) fun _ _ => .ite (fun _ => k3 _ _) fun _ => k3 _ _) fun _ => .bind (zD 3 0 s 0 false rfl hs) fun _ _ => .ite (fun _ => k3 _ _) fun _ => k3 _ _
 have hp : ∃ a b, jq s ⟨#[48, 120]⟩ = some (a, b) ∧ a.size ≤ s.size := by
  unfold jq sA sy
  by_cases h2 : (s.size : Int) ≥ ((⟨#[48, 120]⟩ : ByteArray).size : Int)
  ·rw [if_pos h2, rA (by omega) (by omega) h2, aa, aa]
   by_cases hq : decide (s.extract (0 : Int).toNat ((⟨#[48, 120]⟩ : ByteArray).size : Int).toNat = ⟨#[48, 120]⟩) = true
   ·rw [if_pos hq, rA (by omega) (by omega) (by omega), aa, aa]
    exact ⟨_, _, rfl, by simp⟩
   ·rw [if_neg hq, aa]; exact ⟨_, _, rfl, by simp⟩
  ·rw [if_neg h2, aa, if_neg (by simp), aa]; exact ⟨_, _, rfl, by simp⟩
 obtain ⟨a, b, hab, ha⟩ := hp
 have k1 : ∀ v ok, Tt (kn s v ok) := fun v ok => by
  unfold kn
  refine .ite (fun _ => ?_) fun _ => k3 _ _
  rw [hab, aa]
  exact .ite (fun _ => k2 _ _ (by show a.size ≤ _; omega)) fun _ => k2 _ _ (by show a.size ≤ _; omega)
 unfold rp
 exact .bind (vB _ _ _ hs) fun _ _ => .ite (fun _ => k1 _ _) fun _ => k1 _ _
theorem IC (c base : Int) : Tt (sM c base) := by
 unfold sM mt
 exact .bind (Dx c) fun _ _ => .ite (fun _ => .some _) fun _ => .ite (fun _ => .ite (fun _ => .ite (fun _ => .some _) fun _ => .ite (fun _ => .ite (fun _ => .ite (fun _ => .some _) fun _ => .some _) fun _ => .some _) fun _ => .some _) fun _ => .ite (fun _ => .ite (fun _ => .ite (fun _ => .some _) fun _ => .some _) fun _ => .some _) fun _ => .some _) fun _ => .ite (fun _ => .ite (fun _ => .ite (fun _ => .some _) fun _ => .some _) fun _ => .some _) fun _ => .some _
theorem BN (s : ByteArray) (base : Int) (g : Bool) (hs : s.size ≤ 1000000000000) : ∀ (k i : Nat) (v : Int), i + k = s.size → Tt (jC s base g v i) := by
 intro k
 induction k with
 | zero => intro i v h; rw [tO, if_neg (by omega)]; exact .some _
 | succ k ih =>
  intro i v h
  have n2 : ∀ v, Tt (jD s base g v i) := fun v => by rw [Cs, au (by omega)]; exact ih (i + 1) v (by omega)
  rw [tO, if_pos (by omega), iH (by omega), aa, aa]
  refine .ite (fun _ => .ite (fun _ => .some _) fun _ => .ite (fun _ => .some _) fun h0 => .ite (fun _ => .some _) fun _ => ?_) fun _ => .bind (IC _ _) fun _ _ => .ite (fun _ => .some _) fun _ => .ite (fun _ => n2 _) fun _ => n2 _
  rw [bh (n := (i : Int) - 1) (by omega), show (i : Int) - 1 = ((i - 1 : Nat) : Int) by omega, iH (by omega), aa]
  exact .ite (fun _ => .some _) fun _ => n2 _
theorem vC (s : ByteArray) (base : Int) (g : Bool) (hs : s.size ≤ 1000000000000) : Tt (nC s base g) := BN s base g hs s.size 0 0 (by omega)
theorem zG (s : ByteArray) (hs : s.size ≤ 1000000000000) : ∀ (k q : Nat) (v : Int) (i : Nat), q + k = 3 → i ≤ s.size → Tt (ij s ⟨#[104, 109, 115]⟩ (⟨3600, 60, 1⟩ : (A3 Int)) v i q) := by
 intro k
 induction k with
 | zero => intro q v i h hi; rw [qX, if_neg (by omega)]; exact .ite (fun _ => .some _) fun _ => .some _
 | succ k ih =>
  intro q v i h hi
  have n5 : ∀ v (i : Nat), i ≤ s.size → Tt (ga s ⟨#[104, 109, 115]⟩ (⟨3600, 60, 1⟩ : (A3 Int)) v i q) := fun v i hi => by
   rw [zY, au (by omega)]; exact ih (q + 1) v i (by omega) hi
  have n4 : ∀ v (j : Nat), j < s.size → Tt (jG s ⟨#[104, 109, 115]⟩ (⟨3600, 60, 1⟩ : (A3 Int)) v q j) := fun v j hj => by
   rw [zX, au (by omega)]; exact n5 v (j + 1) (by omega)
  have hq : q = 0 ∨ q = 1 ∨ q = 2 := by omega
  have hw : ∃ w, A3.get (⟨3600, 60, 1⟩ : (A3 Int)) (q : Int) = some w := by rcases hq with rfl | rfl | rfl <;> exact ⟨_, rfl⟩
  obtain ⟨w, hw⟩ := hw
  have n3 : ∀ v (j : Nat), j ≤ s.size → Tt (jF s ⟨#[104, 109, 115]⟩ (⟨3600, 60, 1⟩ : (A3 Int)) v i q j) := fun v j hj => by
   rw [zW]
   refine .ite (fun hji => .ite (fun hjs => ?_) fun _ => n5 _ _ hi) fun _ => n5 _ _ hi
   rw [iH (by omega), aa, iH (by show q < 3; omega), aa]
   refine .ite (fun _ => ?_) fun _ => n5 _ _ hi
   rw [rA (by omega) (by omega) (by omega), aa]
   refine .bind (vC _ _ _ (by simp; omega)) fun _ _ => ?_
   rw [hw, aa]
   exact .ite (fun _ => n4 _ _ (by omega)) fun _ => n4 _ _ (by omega)
  have n2 : ∀ m (j : Nat), j + m = s.size → Tt (jE s ⟨#[104, 109, 115]⟩ (⟨3600, 60, 1⟩ : (A3 Int)) v i q j) := by
   intro m
   induction m with
   | zero => intro j hj; rw [qY, if_neg (by omega)]; exact n3 _ _ (by omega)
   | succ m ihm =>
    intro j hj
    rw [qY, if_pos (by omega), iH (by omega), aa]
    refine .bind (Dx _) fun _ _ => .ite (fun _ => ?_) fun _ => n3 _ _ (by omega)
    rw [au (by omega)]; exact ihm (j + 1) (by omega)
  rw [qX, if_pos (by omega)]
  exact n2 (s.size - i) i (by omega)
theorem Hm (s : ByteArray) (hs : s.size ≤ 1000000000000) : Tt (qp s) := by
 have k3 : ∀ v ok, Tt (jH v ok) := fun v ok => by unfold jH; exact .ite (fun _ => .some _) fun _ => .ite (fun _ => .some _) fun _ => .some _
 have k2 : ∀ v ok, Tt (fA s v ok) := fun v ok => by
  unfold fA
  exact .ite (fun _ => .bind (zG s hs 3 0 0 0 rfl (by omega)) fun _ _ => .ite (fun _ => k3 _ _) fun _ => k3 _ _) fun _ => k3 _ _
 have k1 : ∀ v ok, Tt (le s v ok) := fun v ok => by
  unfold le
  refine .ite (fun _ => .ite (fun h2 => ?_) fun _ => k2 _ _) fun _ => k2 _ _
  rw [show (0 : Int) = ((0 : Nat) : Int) from rfl, iH (by omega), aa]
  refine .ite (fun _ => ?_) fun _ => k2 _ _
  rw [show (1 : Int) = ((1 : Nat) : Int) from rfl, iH (by omega), aa]
  refine .ite (fun _ => ?_) fun _ => k2 _ _
  rw [rA (by omega) (by omega) (by omega), aa]
  exact .bind (vC _ _ _ (by simp; omega)) fun _ _ => .ite (fun _ => k2 _ _) fun _ => k2 _ _
 unfold qp
 exact .bind (vC _ _ _ hs) fun _ _ => .ite (fun _ => k1 _ _) fun _ => k1 _ _
def vD (s : ByteArray) : Prop := s ∈ bY ∨ s ∈ bI
theorem JC : jx = bY := rfl
theorem JD : jy = bI := rfl
theorem tk : bY.length = 41 := rfl
theorem tl : bI.length = 18 := rfl
theorem Hn (s : ByteArray) : ∀ (k i : Nat), i + k = 18 → (s ∈ bI.drop i → ∃ r, gh s i = some r ∧ 10 ≤ r) ∧ (¬ s ∈ bI.drop i → gh s i = some 0) := by
 intro k
 induction k with
 | zero => intro i h; rw [gh, if_neg (by omega), List.drop_eq_nil_of_le (by rw [tl]; omega)]; exact ⟨fun h => absurd h (by simp), fun _ => rfl⟩
 | succ k ih =>
  intro i h
  have hi : i < bI.length := by rw [tl]; omega
  rw [gh, if_pos (by omega), ay hi, aa, List.drop_eq_getElem_cons hi]
  by_cases he : bI[i] = s
  ·rw [if_pos he]; exact ⟨fun _ => ⟨_, rfl, by rw [bh (by omega)]; omega⟩, fun hn => absurd (he ▸ List.mem_cons_self) hn⟩
  ·rw [if_neg he, au (by omega)]
   obtain ⟨h1, h2⟩ := ih (i + 1) (by omega)
   exact ⟨fun hm => h1 ((List.mem_cons.mp hm).resolve_left (fun e => he e.symm)), fun hn => h2 fun hm => hn (List.mem_cons_of_mem _ hm)⟩
theorem Ho (s : ByteArray) : ∀ (k i : Nat), i + k = 41 → (s ∈ bY.drop i ∨ s ∈ bI → ∃ r, gi s i = some r ∧ 10 ≤ r) ∧ (¬ (s ∈ bY.drop i ∨ s ∈ bI) → gi s i = some 0) := by
 intro k
 induction k with
 | zero =>
  intro i h; rw [gi, if_neg (by omega), List.drop_eq_nil_of_le (by rw [tk]; omega)]
  have := Hn s 18 0 rfl
  simpa using this
 | succ k ih =>
  intro i h
  have hi : i < bY.length := by rw [tk]; omega
  rw [gi, if_pos (by omega), ay hi, aa, List.drop_eq_getElem_cons hi]
  by_cases he : bY[i] = s
  ·rw [if_pos he]; exact ⟨fun _ => ⟨_, rfl, by rw [bh (by omega)]; omega⟩, fun hn => absurd (.inl (he ▸ List.mem_cons_self)) hn⟩
  ·rw [if_neg he, au (by omega)]
   obtain ⟨h1, h2⟩ := ih (i + 1) (by omega)
   refine ⟨fun hm => h1 (hm.imp_left fun hm => (List.mem_cons.mp hm).resolve_left (fun e => he e.symm)), fun hn => h2 fun hm => hn (hm.imp_left (List.mem_cons_of_mem _))⟩
theorem JE (s : ByteArray) : (vD s → ∃ r, su s = some r ∧ 10 ≤ r) ∧ (¬ vD s → su s = some 0) := by
 have := Ho s 41 0 rfl
 simpa [vD, su] using this
def yZ (w : ByteArray) : Option Int :=
 if w = (⟨#[]⟩ : ByteArray) then some (-1) else (tM w 0) >>= fun t33 => (if t33 = (w.size : Int) then (fp w 0) >>= fun t39 => (qo t39) >>= fun t40 => (if t40 = true then (if (w.size : Int) > 32 then some (-1) else some 1) else (qp w) >>= fun t46 => (if t46.2 = 0 then some 2 else some (-1))) else some (-1))
theorem ID (s : ByteArray) : ∀ (k i : Nat), i + k = 18 → (s ∈ bI.drop i → ∃ r, fB s i = some r ∧ 10 ≤ r) ∧ (¬ s ∈ bI.drop i → fB s i = yZ s) := by
 intro k
 induction k with
 | zero => intro i h; rw [fB, if_neg (by omega), List.drop_eq_nil_of_le (by rw [tl]; omega)]; exact ⟨fun h => absurd h (by simp), fun _ => rfl⟩
 | succ k ih =>
  intro i h
  have hi : i < bI.length := by rw [tl]; omega
  rw [fB, if_pos (by omega), JD, ay hi, aa, List.drop_eq_getElem_cons hi]
  by_cases he : bI[i] = s
  ·rw [if_pos he]; exact ⟨fun _ => ⟨_, rfl, by rw [bh (by omega)]; omega⟩, fun hn => absurd (he ▸ List.mem_cons_self) hn⟩
  ·rw [if_neg he, au (by omega)]
   obtain ⟨h1, h2⟩ := ih (i + 1) (by omega)
   exact ⟨fun hm => h1 ((List.mem_cons.mp hm).resolve_left (fun e => he e.symm)), fun hn => h2 fun hm => hn (List.mem_cons_of_mem _ hm)⟩
theorem IE (s : ByteArray) : ∀ (k i : Nat), i + k = 41 → (s ∈ bY.drop i ∨ s ∈ bI → ∃ r, fC s i = some r ∧ 10 ≤ r) ∧ (¬ (s ∈ bY.drop i ∨ s ∈ bI) → fC s i = yZ s) := by
 intro k
 induction k with
 | zero =>
  intro i h; rw [fC, if_neg (by omega), List.drop_eq_nil_of_le (by rw [tk]; omega)]
  have := ID s 18 0 rfl
  simpa using this
 | succ k ih =>
  intro i h
  have hi : i < bY.length := by rw [tk]; omega
  rw [fC, if_pos (by omega), JC, ay hi, aa, List.drop_eq_getElem_cons hi]
  by_cases he : bY[i] = s
  ·rw [if_pos he]; exact ⟨fun _ => ⟨_, rfl, by rw [bh (by omega)]; omega⟩, fun hn => absurd (.inl (he ▸ List.mem_cons_self)) hn⟩
  ·rw [if_neg he, au (by omega)]
   obtain ⟨h1, h2⟩ := ih (i + 1) (by omega)
   refine ⟨fun hm => h1 (hm.imp_left fun hm => (List.mem_cons.mp hm).resolve_left (fun e => he e.symm)), fun hn => h2 fun hm => hn (hm.imp_left (List.mem_cons_of_mem _))⟩
theorem JF (s : ByteArray) : (vD s → ∃ r, jL s = some r ∧ 10 ≤ r) ∧ (¬ vD s → jL s = yZ s) := by
 have := IE s 41 0 rfl
 simpa [vD, jL] using this
theorem P1 (s : ByteArray) (hs : s.size ≤ 1000000000000) : ∀ (k i : Nat), i + k = s.size → E2 (iY s i) (gF s i) := by
 intro k
 induction k with
 | zero => intro i h; rw [iY, gF, if_neg (by omega), if_neg (by omega)]; exact .rfl'
 | succ k ih =>
  intro i h
  rw [iY, gF, if_pos (by omega), if_pos (by omega), iH (by omega), aa, aa, JA]
  obtain ⟨v, hv⟩ := JB ((s[i]'(by omega)).toNat : Int)
  rw [hv, aa, aa, au (by omega)]
  exact .ite (fun _ => ih (i + 1) (by omega)) fun _ => .rfl'
theorem Hp (s : ByteArray) (hs : s.size ≤ 1000000000000) : ∃ a b, gY s = some a ∧ jL s = some b ∧ (a = 1 ↔ b = 1) := by
 obtain ⟨l1, l2⟩ := JE s
 obtain ⟨r1, r2⟩ := JF s
 unfold gY
 by_cases ht : vD s
 ·obtain ⟨a, ha, ha'⟩ := l1 ht
  obtain ⟨b, hb, hb'⟩ := r1 ht
  rw [ha, aa, if_neg (by omega)]
  exact ⟨a, b, rfl, hb, by omega⟩
 ·rw [l2 ht, r2 ht, aa, if_pos rfl, yZ]
  by_cases h0 : s = ⟨#[]⟩
  ·rw [if_pos h0, if_pos h0]; exact ⟨_, _, rfl, rfl, Iff.rfl⟩
  ·have hp : 0 < s.size := by
    rcases Nat.eq_zero_or_pos s.size with h | h
    ·exact absurd (ByteArray.size_eq_zero_iff.mp h) h0
    ·exact h
   obtain ⟨v, hv⟩ := Dy ((s[0]'hp).toNat : Int)
   obtain ⟨q, hq1, hq2⟩ := P1 s hs s.size 0 (by omega)
   obtain ⟨n1, hn1⟩ := Hl s hs
   obtain ⟨n2, hn2⟩ := Hm s hs
   have hq1' : De s = some q := hq1
   have hq2' : tM s 0 = some q := hq2
   have hsx : fp s 0 = some ((s[0]'hp).toNat : Int) := iH hp
   rw [if_neg h0, if_neg h0, hsx, aa, aa, hv, aa, hq1', hq2', aa, aa, IB, hv, aa, ko, hn1, hn2, aa, aa]
   have e1 : ∀ x : Option Int, x = some 2 ∨ x = some (-1) → ∃ a, x = some a ∧ a ≠ 1 := fun x hx => by rcases hx with h | h <;> exact ⟨_, h, by omega⟩
   obtain ⟨a, ha, ha'⟩ := e1 (if n1.2 = 0 then some 2 else some (-1)) (by split <;> simp)
   obtain ⟨b, hb, hb'⟩ := e1 (if n2.2 = 0 then some 2 else some (-1)) (by split <;> simp)
   rw [ha, hb]
   have go : ∀ x y : Int, (x = 1 ↔ y = 1) → ∃ a b, some x = some a ∧ some y = some b ∧ (a = 1 ↔ b = 1) := fun x y h => ⟨x, y, rfl, rfl, h⟩
   by_cases hlv : v = true
   ·by_cases h32 : (s.size : Int) ≤ 32
    ·by_cases hqs : q = s.size
     ·rw [if_pos hlv, if_pos hlv, if_pos h32, if_pos hqs, if_pos hqs, if_neg (by omega)]; exact go _ _ Iff.rfl
     ·rw [if_pos hlv, if_pos hlv, if_pos h32, if_neg hqs, if_neg hqs]; exact go _ _ (by omega)
    ·by_cases hqs : q = s.size
     ·rw [if_pos hlv, if_pos hlv, if_neg h32, if_pos hqs, if_pos (by omega)]; exact go _ _ (by omega)
     ·rw [if_pos hlv, if_pos hlv, if_neg h32, if_neg hqs]; exact go _ _ (by omega)
   ·by_cases hqs : q = s.size
    ·rw [if_neg hlv, if_neg hlv, if_pos hqs]; exact go _ _ (by omega)
    ·rw [if_neg hlv, if_neg hqs]; exact go _ _ (by omega)
end Go.Proofs.YtkmbagocakiefaaGreatDoor.Wb
namespace Go.Proofs.YtkmbagocakiefaaGreatDoor.Wb
open Go Go.Jv
theorem kO {α β γ : Type} (xs : List α) (f : α → β) (F : List β → Int → γ) (B : Nat) (hstep : ∀ acc (i : Nat) (h : i < xs.length), acc.length + 1 ≤ B → F acc (i : Int) = F (acc ++ [f xs[i]]) ((i + 1 : Nat) : Int)) :
  ∀ (k i : Nat) (acc : List β), i + k = xs.length → acc.length + k ≤ B → F acc (i : Int) = F (acc ++ (xs.drop i).map f) (xs.length : Int) := by
 intro k
 induction k with
 | zero => intro i acc h _; have : i = xs.length := by omega
           subst this; simp
 | succ k ih =>
  intro i acc h hb
  have hi : i < xs.length := by omega
  rw [hstep acc i hi (by omega), ih (i + 1) _ (by omega) (by simp; omega), List.drop_eq_getElem_cons hi, List.map_cons, List.append_assoc, List.singleton_append]
theorem nu {α β : Type} {f : α → β} {l : List α} : (l.drop 0).map f = l.map f := by simp
def kG (t : ab) : List ByteArray := t.Timers ++ t.Counters ++ t.Tables.Groups.map (·.Name) ++ t.Dets.map (·.Name) ++ t.Vars.map (·.Name) ++ t.Stages.map (·.Name)
def uA (t : ab) : List ByteArray := t.Tables.Groups.map (·.Name) ++ t.Dets.map (·.Name) ++ t.Timers ++ t.Counters ++ t.Vars.map (·.Name) ++ t.Stages.map (·.Name)
theorem vw (t : ab) : (kG t).Perm (uA t) := by
 unfold kG uA
 refine List.Perm.append_right _ (List.Perm.append_right _ ?_)
 have := @List.perm_append_comm _ (t.Timers ++ t.Counters) (t.Tables.Groups.map (·.Name) ++ t.Dets.map (·.Name))
 simpa only [List.append_assoc] using this
structure okN (t : ab) : Prop where
 g : t.Tables.Groups.length ≤ 2000000
 c : t.Tables.Conflicts.length ≤ 2000000
 d : t.Dets.length ≤ 2000000
 ti : t.Timers.length ≤ 2000000
 co : t.Counters.length ≤ 2000000
 v : t.Vars.length ≤ 2000000
 s : t.Stages.length ≤ 2000000
theorem EL (t : ab) (h : okN t) : vW t = some (kG t) := by
 obtain ⟨hg, hc, hd, hti, hco, hv, hs⟩ := h
 unfold vW
 rw [bg (by simp; omega), aa, bg (by simp; omega), aa, List.nil_append]
 rw [show (0 : Int) = ((0 : Nat) : Int) from rfl]
 rw [kO t.Tables.Groups (·.Name) (fun acc i => gf t acc t.Tables.Groups t.Tables.Groups.length i) 100000000 (fun acc i hi hb => by
  show gf _ _ _ _ _ = _
  rw [gf, if_pos (by omega), ay hi, aa, bg (by simp; omega), aa, au (by omega)]) t.Tables.Groups.length 0 _ (by omega) (by simp; omega), nu]
 rw [gf, if_neg (by omega), show (0 : Int) = ((0 : Nat) : Int) from rfl]
 rw [kO t.Dets (·.Name) (fun acc i => ge t acc t.Dets t.Dets.length i) 100000000 (fun acc i hi hb => by
  show ge _ _ _ _ _ = _
  rw [ge, if_pos (by omega), ay hi, aa, bg (by simp; omega), aa, au (by omega)]) t.Dets.length 0 _ (by omega) (by simp; omega), nu]
 rw [ge, if_neg (by omega), show (0 : Int) = ((0 : Nat) : Int) from rfl]
 rw [kO t.Vars (·.Name) (fun acc i => gd t acc t.Vars t.Vars.length i) 100000000 (fun acc i hi hb => by
  show gd _ _ _ _ _ = _
  rw [gd, if_pos (by omega), ay hi, aa, bg (by simp; omega), aa, au (by omega)]) t.Vars.length 0 _ (by omega) (by simp; omega), nu]
 rw [gd, if_neg (by omega), show (0 : Int) = ((0 : Nat) : Int) from rfl]
 rw [kO t.Stages (·.Name) (fun acc i => gb acc t.Stages t.Stages.length i t) 100000000 (fun acc i hi hb => by
  show gb _ _ _ _ _ = _
  rw [gb, if_pos (by omega), ay hi, aa, bg (by simp; omega), aa, au (by omega)]) t.Stages.length 0 _ (by omega) (by simp; omega), nu]
 rw [gb, if_neg (by omega)]
 rfl
theorem H8 (t : ab) (h : okN t) : tR t = some (uA t) := by
 obtain ⟨hg, hc, hd, hti, hco, hv, hs⟩ := h
 unfold tR
 rw [show (0 : Int) = ((0 : Nat) : Int) from rfl]
 rw [kO t.Tables.Groups (·.Name) (fun acc i => fG t acc i) 100000000 (fun acc i hi hb => by
  show fG _ _ _ = _
  rw [fG, if_pos (by omega), ay hi, aa, bg (by simp; omega), aa, au (by omega)]) t.Tables.Groups.length 0 _ (by omega) (by simp; omega), nu]
 rw [fG, if_neg (by omega), show (0 : Int) = ((0 : Nat) : Int) from rfl]
 rw [kO t.Dets (·.Name) (fun acc i => fF t acc i) 100000000 (fun acc i hi hb => by
  show fF _ _ _ = _
  rw [fF, if_pos (by omega), ay hi, aa, bg (by simp; omega), aa, au (by omega)]) t.Dets.length 0 _ (by omega) (by simp; omega), nu]
 rw [fF, if_neg (by omega), bg (by simp; omega), aa, bg (by simp; omega), aa, show (0 : Int) = ((0 : Nat) : Int) from rfl]
 rw [kO t.Vars (·.Name) (fun acc i => fE t acc i) 100000000 (fun acc i hi hb => by
  show fE _ _ _ = _
  rw [fE, if_pos (by omega), ay hi, aa, bg (by simp; omega), aa, au (by omega)]) t.Vars.length 0 _ (by omega) (by simp; omega), nu]
 rw [fE, if_neg (by omega), show (0 : Int) = ((0 : Nat) : Int) from rfl]
 rw [kO t.Stages (·.Name) (fun acc i => fD t acc i) 100000000 (fun acc i hi hb => by
  show fD _ _ _ = _
  rw [fD, if_pos (by omega), ay hi, aa, bg (by simp; omega), aa, au (by omega)]) t.Stages.length 0 _ (by omega) (by simp; omega), nu]
 rw [fD, if_neg (by omega)]
 rfl
def kP (s : ByteArray) : Bool := decide (gY s = some 1)
theorem Bo {s : ByteArray} (hs : s.size ≤ 1000000000000) : ∃ a, gY s = some a ∧ (a = 1 ↔ kP s = true) := by
 obtain ⟨a, b, h1, h2, h3⟩ := Hp s hs
 exact ⟨a, h1, by simp [kP, h1]⟩
theorem Jj {s : ByteArray} (hs : s.size ≤ 1000000000000) : ∃ a, jL s = some a ∧ (a = 1 ↔ kP s = true) := by
 obtain ⟨a, b, h1, h2, h3⟩ := Hp s hs
 exact ⟨b, h2, by simp [kP, h1, ← h3]⟩
theorem CE {ν : Type} (k : ByteArray) (l : List (ByteArray × ν)) : (pj l k).isSome = true ↔ k ∈ l.map (·.1) := by
 have : ∀ (l : List (ByteArray × ν)) i, (mA k l i).isSome = true ↔ k ∈ l.map (·.1) := by
  intro l
  induction l with
  | nil => intro i; simp [mA]
  | cons p l ih =>
   intro i
   obtain ⟨q, v⟩ := p
   rw [mA]
   by_cases h : k = q
   ·simp [h]
   ·simp only [if_neg h, List.map_cons, List.mem_cons, h, false_or]; exact ih _
 rw [pj, Option.isSome_map]; exact this l 0
theorem Jk {ν : Type} (k : ByteArray) (v : ν) (l : List (ByteArray × ν)) (h : ¬ k ∈ l.map (·.1)) : (yk l k v).map (·.1) = l.map (·.1) ++ [k] := by
 have : mA k l 0 = none := by
  cases hm : mA k l 0 with
  | none => rfl
  | some p => exact absurd ((CE k l).mp (by rw [pj, hm]; rfl)) h
 rw [yk, this]; simp
noncomputable instance Ro (x : ByteArray) (l : List ByteArray) : Decidable (x ∈ l) := Classical.propDecidable _
noncomputable def unl : List ByteArray → List ByteArray → Bool
 | _, [] => true
 | pre, x :: l => kP x && !decide (x ∈ pre) && unl (pre ++ [x]) l
theorem OY {p : Prop} [Decidable p] {b : Bool} (h : p ↔ b = true) : decide p = b := by cases b <;> simp_all
theorem H9 (t : ab) (l : List ByteArray) (hl : l.length ≤ 100000000) (hs : ∀ x, x ∈ l → x.size ≤ 1000000000000) (hn : t.Name.size ≤ 1000000000000) :
  ∀ (k i : Nat) (seen : List (ByteArray × Int)), i + k = l.length → seen.map (·.1) = l.take i → lA t seen l l.length i = some (unl (l.take i) (l.drop i) && kP t.Name) := by
 intro k
 induction k with
 | zero =>
  intro i seen h _
  obtain ⟨a, h1, h2⟩ := Bo hn
  rw [wA, if_neg (by omega), List.drop_eq_nil_of_le (by omega), h1, aa, unl, Bool.true_and]
  rw [OY h2]
 | succ k ih =>
  intro i seen h he
  have hi : i < l.length := by omega
  obtain ⟨a, h1, h2⟩ := Bo (hs _ (List.getElem_mem hi))
  rw [wA, if_pos (by omega), ay hi, aa, List.drop_eq_getElem_cons hi, unl, wB, wB]
  by_cases hm : (pj seen l[i]).isSome = true
  ·have hm' := (CE _ _).mp hm
   rw [he] at hm'
   rw [if_pos hm, if_pos rfl]
   simp [hm']
  ·have hm' : ¬ l[i] ∈ seen.map (·.1) := fun h => hm ((CE _ _).mpr h)
   have e2 := Jk l[i] (i : Int) seen hm'
   rw [he] at hm'
   rw [if_neg hm, if_neg (by simp), h1, aa]
   by_cases ha : a = 1
   ·rw [if_pos ha, au (by omega), ih (i + 1) _ (by omega) (by rw [e2, he, List.take_succ_eq_append_getElem hi])]
    rw [List.take_succ_eq_append_getElem hi]
    simp [h2.mp ha, hm']
   ·rw [if_neg ha, Bool.eq_false_iff.mpr (fun hx => ha (h2.mpr hx))]
    simp
theorem A7 (l : List ByteArray) (hl : l.length ≤ 100000000) (hs : ∀ x, x ∈ l → x.size ≤ 1000000000000) :
  ∀ (k i : Nat), i + k = l.length → iz l i = some (unl (l.take i) (l.drop i)) := by
 intro k
 induction k with
 | zero => intro i h; rw [tP, if_neg (by omega), List.drop_eq_nil_of_le (by omega), unl]
 | succ k ih =>
  intro i h
  have hi : i < l.length := by omega
  obtain ⟨a, h1, h2⟩ := Jj (hs _ (List.getElem_mem hi))
  have HW : ∀ (m j : Nat), j + m = i → lf l i j = if l[i] ∈ (l.take i).drop j then some false else iz l ((i + 1 : Nat) : Int) := by
   intro m
   induction m with
   | zero => intro j hj; rw [tQ, if_neg (by omega), List.drop_eq_nil_of_le (by simp; omega), if_neg (by simp), au (by omega)]
   | succ m ihm =>
    intro j hj
    have hj' : j < (l.take i).length := by simp; omega
    rw [tQ, if_pos (by omega), ay hi, aa, ay (by omega), aa, List.drop_eq_getElem_cons hj', List.getElem_take]
    by_cases he : l[i] = l[j]
    ·rw [if_pos he, if_pos (by rw [he]; exact List.mem_cons_self)]
    ·rw [if_neg he, au (by omega), ihm (j + 1) (by omega)]
     simp only [List.mem_cons, he, false_or]
  rw [tP, if_pos (by omega), ay hi, aa, h1, aa, List.drop_eq_getElem_cons hi, unl]
  by_cases ha : a = 1
  ·rw [if_pos ha, show (0 : Int) = ((0 : Nat) : Int) from rfl, HW i 0 (by omega), List.drop_zero, h2.mp ha, Bool.true_and]
   by_cases hm : l[i] ∈ l.take i
   ·rw [if_pos hm]; simp [hm]
   ·rw [if_neg hm, ih (i + 1) (by omega), List.take_succ_eq_append_getElem hi]; simp [hm]
  ·rw [if_neg ha, Bool.eq_false_iff.mpr (fun hx => ha (h2.mpr hx))]
   simp
theorem GA : ∀ (l pre : List ByteArray), unl pre l = true ↔ (∀ x, x ∈ l → kP x = true ∧ ¬ x ∈ pre) ∧ l.Nodup := by
 intro l
 induction l with
 | nil => intro pre; simp [unl]
 | cons x l ih =>
  intro pre
  simp only [unl, Bool.and_eq_true, ih, Bool.not_eq_true', decide_eq_false_iff_not, List.nodup_cons, List.mem_cons, List.mem_append, List.mem_singleton, not_or]
  constructor
  ·rintro ⟨⟨h1, h2⟩, h3, h4⟩
   exact ⟨fun y hy => by rcases hy with rfl | hy; exact ⟨h1, h2⟩; exact ⟨(h3 y hy).1, (h3 y hy).2.1⟩, fun hx => (h3 x hx).2.2.1 rfl, h4⟩
  ·rintro ⟨h1, h2, h3⟩
   exact ⟨h1 x (.inl rfl), fun y hy => ⟨(h1 y (.inr hy)).1, (h1 y (.inr hy)).2, fun e => h2 (e ▸ hy), List.not_mem_nil⟩, h3⟩
theorem Jl {l l' : List ByteArray} (h : l.Perm l') : unl [] l = unl [] l' := by
 rw [Bool.eq_iff_iff, GA, GA, h.nodup_iff]
 simp only [h.mem_iff]
def okW (t : ab) : Prop := t.Name.size ≤ 1000000000000 ∧ ∀ x, x ∈ kG t → x.size ≤ 1000000000000
theorem Dl (t : ab) (h : okN t) : (kG t).length ≤ 100000000 := by
 obtain ⟨hg, hc, hd, hti, hco, hv, hs⟩ := h
 simp [kG]; omega
theorem G4 (t : ab) (h : okN t) (hw : okW t) : zn t = some (unl [] (kG t) && kP t.Name) := by
 unfold zn
 rw [EL t h, aa]
 exact H9 t (kG t) (Dl t h) hw.2 hw.1 (kG t).length 0 [] (by omega) rfl
theorem EM (t : ab) (h : okN t) (hw : okW t) : nD (uA t) = some (unl [] (kG t)) := by
 rw [Jl (vw t)]
 exact A7 (uA t) (by rw [← (vw t).length_eq]; exact Dl t h) (fun x hx => hw.2 x ((vw t).mem_iff.mpr hx)) (uA t).length 0 (by omega)
theorem Ha (t : ab) (hw : okW t) : nD [t.Name] = some (kP t.Name) := by
 have := A7 [t.Name] (by simp) (fun x hx => by rw [List.mem_singleton.mp hx]; exact hw.1) 1 0 rfl
 simpa [unl, nD] using this
end Go.Proofs.YtkmbagocakiefaaGreatDoor.Wb
namespace Go.Proofs.YtkmbagocakiefaaGreatDoor.Wb
open Go Go.Jv
def lst (t : ab) (l : List ac) : Bool := (eO t l).getD false
theorem CR {t : ab} {l : List ac} (h : okL l) : eO t l = some (lst t l) := by
 obtain ⟨v, _, h2⟩ := Ev t l h; rw [lst, h2]; rfl
theorem tp {t : ab} {l : List ac} (h : okL l) : jn t l = some (lst t l) := by
 obtain ⟨v, h1, h2⟩ := Ev t l h; rw [lst, h2, h1]; rfl
structure okG (s : ah) : Prop where
 e : okL s.Enter
 d : okL s.During
 l : okL s.Leave
 n : s.Nexts.length ≤ 2000000
 w : ∀ i (h : i < s.Nexts.length), okE (s.Nexts[i]).When
def okP (t : ab) : Prop := ∀ i (h : i < t.Stages.length), okG (t.Stages[i])
def mc (t : ab) (i : Int) (x : aw) : Bool := decide (0 ≤ x.To) && decide (x.To < t.Stages.length) && decide (x.To ≠ i) && sx t x.When 2
def BP (t : ab) (s : ah) : Bool := if (t.Tables.Groups.length : Int) < 64 then decide (qx .u64 s.Green (t.Tables.Groups.length : Int) = some 0) else true
def after (t : ab) (i : Nat) (s : ah) : Bool := if i = 0 then true else decide ((t.Stages.getD (i - 1) default).Id < s.Id)
def vG (t : ab) (i : Nat) (s : ah) : Bool :=
 decide (0 ≤ s.Id ∧ s.Id ≤ 255) && after t i s && BP t s && lst t s.Enter && lst t s.During && lst t s.Leave && s.Nexts.all (mc t i)
theorem Gf (t : ab) (i : Int) (ht : t.Stages.length ≤ 2000000) (l : List aw) (hl : l.length ≤ 2000000) (hw : ∀ i (h : i < l.length), okE (l[i]).When) :
  ∀ (k j : Nat), j + k = l.length → et t i l l.length j = some ((l.drop j).all (mc t i)) := by
 intro k
 induction k with
 | zero => intro j h; rw [et, if_neg (by omega), List.drop_eq_nil_of_le (by omega)]; rfl
 | succ k ih =>
  intro j h
  have hj : j < l.length := by omega
  rw [et, if_pos (by omega), ay hj, aa, mu, aa, List.drop_eq_getElem_cons hj, List.all_cons, mc, bh (n := (t.Stages.length : Int) - 1) (by omega), AM (hw j hj), aa, au (by omega), ih (j + 1) (by omega)]
  by_cases h1 : 0 ≤ (l[j]).To
  case neg => rw [if_neg (by simp; omega)]; simp [h1]
  by_cases h2 : (l[j]).To < t.Stages.length
  case neg => rw [if_neg (by simp; omega)]; simp [h2]
  rw [if_pos (by simp; omega)]
  by_cases h3 : (l[j]).To = i
  ·rw [if_pos h3]; simp [h3]
  rw [if_neg h3]
  cases sx t (l[j]).When 2 <;> simp [h1, h2, h3]
theorem Ff (k : IntKind) (a : Int) (n : Nat) : ∃ v, qx k a (n : Int) = some v := by rw [qx, if_neg (by omega)]; exact ⟨_, rfl⟩
theorem Af (t : ab) (h : okN t) (hp : okP t) (i : Nat) (hi : i < t.Stages.length) : oi t i = some (vG t i t.Stages[i]) := by
 have hg := hp i hi
 have hs := h.s
 unfold oi
 rw [ay hi, aa, mu, aa]
 generalize hse : t.Stages[i] = s at *
 have k2 : je t i s = some (lst t s.Enter && lst t s.During && lst t s.Leave && s.Nexts.all (mc t i)) := by
  unfold je
  rw [tp hg.e, aa]
  cases lst t s.Enter
  ·simp
  rw [if_neg (by simp), tp hg.d, aa]
  cases lst t s.During
  ·simp
  rw [if_neg (by simp), tp hg.l, aa]
  cases lst t s.Leave
  ·simp
  rw [if_neg (by simp)]
  have := Gf t i hs s.Nexts hg.n hg.w s.Nexts.length 0 (by omega)
  rw [show ((0 : Nat) : Int) = 0 from rfl] at this
  rw [this]; simp
 have k1 : jf t i s = some (BP t s && (lst t s.Enter && lst t s.During && lst t s.Leave && s.Nexts.all (mc t i))) := by
  unfold jf BP
  by_cases h64 : (t.Tables.Groups.length : Int) < 64
  ·obtain ⟨v, hv⟩ := Ff .u64 s.Green t.Tables.Groups.length
   rw [if_pos h64, if_pos h64, hv, aa, k2]
   by_cases hv0 : v = 0 <;> simp [hv0]
  ·rw [if_neg h64, if_neg h64, k2]; simp
 unfold vG
 by_cases hid : 0 ≤ s.Id ∧ s.Id ≤ 255
 case neg => rw [if_neg (by simpa using hid)]; simp [hid]
 rw [if_pos (by simpa using hid)]
 by_cases h0 : i = 0
 ·rw [if_neg (by omega), k1, after, if_pos h0]; simp [hid, Bool.and_assoc]
 ·rw [if_pos (by omega), bh (by omega), show (i : Int) - 1 = ((i - 1 : Nat) : Int) by omega, ay (by omega), aa, after, if_neg h0]
  have e : t.Stages.getD (i - 1) default = t.Stages[i - 1]'(by omega) := by simp [List.getD, List.getElem?_eq_getElem (show i - 1 < t.Stages.length by omega)]
  rw [e]
  by_cases hlt : s.Id ≤ (t.Stages[i - 1]'(by omega)).Id
  ·rw [if_pos hlt]; simp [show ¬ (t.Stages[i - 1]'(by omega)).Id < s.Id by omega]
  ·rw [if_neg hlt, k1]; simp [hid, show (t.Stages[i - 1]'(by omega)).Id < s.Id by omega, Bool.and_assoc]
def cL : List ac → Int
 | [] => 0
 | s :: l => s.Expr.length + cL l
def jt : List aw → Int
 | [] => 0
 | s :: l => s.When.length + jt l
theorem hJ : ∀ (l : List ac), (∀ i (h : i < l.length), okE (l[i]).Expr) → 0 ≤ cL l ∧ cL l ≤ l.length * 2000000
 | [], _ => by simp [cL]
 | s :: l, h => by
  have h0 := (h 0 (by simp)).1
  have := hJ l fun i hi => h (i + 1) (by simpa using hi)
  simp only [List.getElem_cons_zero] at h0
  simp only [cL, List.length_cons]; omega
theorem DA : ∀ (l : List aw), (∀ i (h : i < l.length), okE (l[i]).When) → 0 ≤ jt l ∧ jt l ≤ l.length * 2000000
 | [], _ => by simp [jt]
 | s :: l, h => by
  have h0 := (h 0 (by simp)).1
  have := DA l fun i hi => h (i + 1) (by simpa using hi)
  simp only [List.getElem_cons_zero] at h0
  simp only [jt, List.length_cons]; omega
theorem xT (l : List ac) (hl : okL l) : jZ l = some (cL l) := by
 have h1 := hl.1
 have go : ∀ (k j : Nat) (n : Int), j + k = l.length → 0 ≤ n → n + k * 2000000 ≤ 9000000000000000000 → ic l n j = some (n + cL (l.drop j)) := by
  intro k
  induction k with
  | zero => intro j n h _ _; rw [ic, if_neg (by omega), List.drop_eq_nil_of_le (by omega)]; simp [cL]
  | succ k ih =>
   intro j n h hn hb
   have hj : j < l.length := by omega
   have he := (hl.2 j hj).1
   rw [ic, if_pos (by omega), ay hj, aa, au (by omega), bh (by omega), ih (j + 1) _ (by omega) (by omega) (by omega), List.drop_eq_getElem_cons hj, cL, Int.add_assoc]
 have := go l.length 0 0 (by omega) (by omega) (by omega)
 simpa [jZ] using this
def nS (s : ah) : Int := s.Enter.length + s.During.length + s.Leave.length
def nT (s : ah) : Int := cL s.Enter + cL s.During + cL s.Leave + jt s.Nexts
theorem Gg (s : ah) (h : okG s) : zo s = some (nT s) := by
 obtain ⟨he, hd, hl, hn, hw⟩ := h
 have in2 : ∀ (A : A3 (List ac)) (q : Nat), q < 3 → ∀ (l : List ac), okL l → ∀ (k j : Nat) (n : Int), j + k = l.length → 0 ≤ n → n + k * 2000000 ≤ 9000000000000000000 →
   jc s n A q l l.length j = lB s (n + cL (l.drop j)) A ((q + 1 : Nat) : Int) := by
  intro A q hq l hl k
  have h1 := hl.1
  induction k with
  | zero => intro j n h _ _; rw [wC, if_neg (by omega), List.drop_eq_nil_of_le (by omega), au (by omega)]; simp [cL]
  | succ k ih =>
   intro j n h hn hb
   have hj : j < l.length := by omega
   have he := (hl.2 j hj).1
   rw [wC, if_pos (by omega), ay hj, aa, au (by omega), bh (by omega), ih (j + 1) _ (by omega) (by omega) (by omega), List.drop_eq_getElem_cons hj, cL, Int.add_assoc]
 have in3 : ∀ (k j : Nat) (n : Int), j + k = s.Nexts.length → 0 ≤ n → n + k * 2000000 ≤ 9000000000000000000 → gZ n s.Nexts s.Nexts.length j = some (n + jt (s.Nexts.drop j)) := by
  intro k
  induction k with
  | zero => intro j n h _ _; rw [gZ, if_neg (by omega), List.drop_eq_nil_of_le (by omega)]; simp [jt]
  | succ k ih =>
   intro j n h hn hb
   have hj : j < s.Nexts.length := by omega
   have he := (hw j hj).1
   rw [gZ, if_pos (by omega), ay hj, aa, au (by omega), bh (by omega), ih (j + 1) _ (by omega) (by omega) (by omega), List.drop_eq_getElem_cons hj, jt, Int.add_assoc]
 have e1 := hJ s.Enter he.2
 have e2 := hJ s.During hd.2
 have e3 := hJ s.Leave hl.2
 have l1 := he.1
 have l2 := hd.1
 have l3 := hl.1
 unfold zo
 have s0 := in2 ⟨s.Enter, s.During, s.Leave⟩ 0 (by omega) s.Enter he s.Enter.length 0 0 (by omega) (by omega) (by omega)
 have s1 := in2 ⟨s.Enter, s.During, s.Leave⟩ 1 (by omega) s.During hd s.During.length 0 (0 + cL s.Enter) (by omega) (by omega) (by omega)
 have s2 := in2 ⟨s.Enter, s.During, s.Leave⟩ 2 (by omega) s.Leave hl s.Leave.length 0 (0 + cL s.Enter + cL s.During) (by omega) (by omega) (by omega)
 have s3 := in3 s.Nexts.length 0 (0 + cL s.Enter + cL s.During + cL s.Leave) (by omega) (by omega) (by omega)
 simp only [List.drop_zero, show ((0 : Nat) : Int) = 0 from rfl, show ((0 + 1 : Nat) : Int) = 1 from rfl, show ((1 + 1 : Nat) : Int) = 2 from rfl, show ((2 + 1 : Nat) : Int) = 3 from rfl, show ((1 : Nat) : Int) = 1 from rfl, show ((2 : Nat) : Int) = 2 from rfl] at s0 s1 s2 s3
 rw [mH, if_pos (by omega)]
 show jc _ _ _ _ _ _ _ = _
 rw [s0, mH, if_pos (by omega)]
 show jc _ _ _ _ _ _ _ = _
 rw [s1, mH, if_pos (by omega)]
 show jc _ _ _ _ _ _ _ = _
 rw [s2, mH, if_neg (by omega), s3, nT, Int.zero_add]
theorem Kf {s : ah} (h : okG s) : 0 ≤ nT s ∧ nT s ≤ 16000000000000 ∧ 0 ≤ nS s ∧ nS s ≤ 6000000 := by
 obtain ⟨he, hd, hl, hn, hw⟩ := h
 have e1 := hJ s.Enter he.2
 have e2 := hJ s.During hd.2
 have e3 := hJ s.Leave hl.2
 have e4 := DA s.Nexts hw
 have l1 := he.1
 have l2 := hd.1
 have l3 := hl.1
 unfold nT nS
 omega
theorem DB (t : ab) (h : okN t) (hp : okP t) (i : Nat) (hi : i < t.Stages.length) (a b c : Int) (ha : 0 ≤ a ∧ a ≤ 1000000000000) (hb : 0 ≤ b ∧ b ≤ 1000000000000) (hc : 0 ≤ c ∧ c ≤ 1000000000000000000) :
  dA t a b c i = if vG t i t.Stages[i] = true then dA t (a + nS t.Stages[i]) (b + t.Stages[i].Nexts.length) (c + nT t.Stages[i]) ((i + 1 : Nat) : Int) else some false := by
 have hg := hp i hi
 have hs := h.s
 have hn := hg.n
 rw [oC, if_pos (by omega), ay hi, aa, pV, aa]
 generalize hse : t.Stages[i] = s at *
 have k4 : ∀ (a b : Int) (k j : Nat) (c : Int), j + k = s.Nexts.length → 0 ≤ c → c + k * 2000000 ≤ 9000000000000000000 → li t a b c i s j =
   if (s.Nexts.drop j).all (mc t i) = true then dA t a b (c + jt (s.Nexts.drop j)) ((i + 1 : Nat) : Int) else some false := by
  intro a b k
  induction k with
  | zero => intro j c h _ _; rw [tS, if_neg (by omega), List.drop_eq_nil_of_le (by omega), au (by omega)]; simp [jt]
  | succ k ih =>
   intro j c h hc hb
   have hj : j < s.Nexts.length := by omega
   have he := (hg.w j hj).1
   rw [tS, if_pos (by omega), ay hj, aa, IT (hg.w j hj), aa, au (by omega), bh (by omega), ih (j + 1) _ (by omega) (by omega) (by omega), List.drop_eq_getElem_cons hj, jt, Int.add_assoc, List.all_cons, mc]
   by_cases h1 : (s.Nexts[j]).To < 0
   ·rw [if_pos h1]; simp [show ¬ 0 ≤ (s.Nexts[j]).To by omega]
   rw [if_neg h1]
   by_cases h2 : (s.Nexts[j]).To ≥ t.Stages.length
   ·rw [if_pos h2]; simp [show ¬ (s.Nexts[j]).To < t.Stages.length by omega]
   rw [if_neg h2]
   by_cases h3 : (s.Nexts[j]).To = i
   ·rw [if_pos h3]; simp [h3]
   rw [if_neg h3]
   cases sx t (s.Nexts[j]).When 2 <;> simp [h3, show 0 ≤ (s.Nexts[j]).To by omega, show (s.Nexts[j]).To < t.Stages.length by omega]
 have e1 := hJ s.Enter hg.e.2
 have e2 := hJ s.During hg.d.2
 have e3 := hJ s.Leave hg.l.2
 have l1 := hg.e.1
 have l2 := hg.d.1
 have l3 := hg.l.1
 have l4 := hg.n
 have k3 : lh t a b c i s = if (lst t s.Enter && lst t s.During && lst t s.Leave && s.Nexts.all (mc t i)) = true then dA t (a + nS s) (b + s.Nexts.length) (c + nT s) ((i + 1 : Nat) : Int) else some false := by
  rw [Cv, CR hg.e, aa]
  cases lst t s.Enter
  ·simp
  rw [if_pos rfl, CR hg.d, aa]
  cases lst t s.During
  ·simp
  rw [if_pos rfl, CR hg.l, aa]
  cases lst t s.Leave
  ·simp
  rw [if_pos rfl, xT _ hg.e, xT _ hg.d, xT _ hg.l, aa, aa, aa]
  rw [bh (n := a + s.Enter.length) (by omega), bh (n := a + s.Enter.length + s.During.length) (by omega), bh (n := a + s.Enter.length + s.During.length + s.Leave.length) (by omega), bh (n := b + s.Nexts.length) (by omega),
   bh (n := c + cL s.Enter) (by omega), bh (n := c + cL s.Enter + cL s.During) (by omega), bh (n := c + cL s.Enter + cL s.During + cL s.Leave) (by omega), show (0 : Int) = ((0 : Nat) : Int) from rfl]
  rw [k4 _ _ s.Nexts.length 0 _ (by omega) (by omega) (by omega), List.drop_zero]
  rw [show a + s.Enter.length + s.During.length + s.Leave.length = a + nS s by unfold nS; omega, show c + cL s.Enter + cL s.During + cL s.Leave + jt s.Nexts = c + nT s by unfold nT; omega]
  simp
 have k2 : lg t a b c i s = if (BP t s && (lst t s.Enter && lst t s.During && lst t s.Leave && s.Nexts.all (mc t i))) = true then dA t (a + nS s) (b + s.Nexts.length) (c + nT s) ((i + 1 : Nat) : Int) else some false := by
  rw [Cu, BP]
  by_cases h64 : (t.Tables.Groups.length : Int) < 64
  ·obtain ⟨v, hv⟩ := Ff .u64 s.Green t.Tables.Groups.length
   rw [if_pos h64, if_pos h64, hv, aa, k3]
   by_cases hv0 : v = 0 <;> simp [hv0]
  ·rw [if_neg h64, if_neg h64, k3]; simp
 unfold vG
 by_cases hid : 0 ≤ s.Id ∧ s.Id ≤ 255
 case neg => rw [if_neg (by simpa using hid)]; simp [hid]
 rw [if_pos (by simpa using hid)]
 by_cases h0 : i = 0
 ·rw [if_neg (by omega), k2, after, if_pos h0]; simp [hid, Bool.and_assoc]
 ·rw [if_pos (by omega), bh (by omega), show (i : Int) - 1 = ((i - 1 : Nat) : Int) by omega, ay (by omega), aa, after, if_neg h0]
  have e : t.Stages.getD (i - 1) default = t.Stages[i - 1]'(by omega) := by simp [List.getD, List.getElem?_eq_getElem (show i - 1 < t.Stages.length by omega)]
  rw [e]
  by_cases hlt : s.Id ≤ (t.Stages[i - 1]'(by omega)).Id
  ·rw [if_pos hlt]; simp [show ¬ (t.Stages[i - 1]'(by omega)).Id < s.Id by omega]
  ·rw [if_neg hlt, k2]; simp [hid, show (t.Stages[i - 1]'(by omega)).Id < s.Id by omega, Bool.and_assoc]
theorem P2 (t : ab) (h : okN t) (hp : okP t) (h256 : t.Stages.length ≤ 256) : ∀ (k i : Nat) (a b c : Int), i + k = t.Stages.length → 0 ≤ a ∧ a ≤ i * 6000000 → 0 ≤ b ∧ b ≤ i * 6000000 → 0 ≤ c ∧ c ≤ i * 16000000000000 →
  (4096 < a ∨ 4096 < b ∨ 16384 < c) → dA t a b c i = some false := by
 intro k
 induction k with
 | zero =>
  intro i a b c hi ha hb hc ho
  rw [oC, if_neg (by omega)]
  by_cases h1 : a ≤ 4096
  ·rw [if_pos h1]
   by_cases h2 : b ≤ 4096
   ·rw [if_pos h2, decide_eq_false (by omega)]
   ·rw [if_neg h2]
  ·rw [if_neg h1]
 | succ k ih =>
  intro i a b c hi ha hb hc ho
  have hi' : i < t.Stages.length := by omega
  have hg := hp i hi'
  have l4 := hg.n
  have := Kf hg
  rw [DB t h hp i hi' a b c (by omega) (by omega) (by omega)]
  by_cases hs : vG t i t.Stages[i] = true
  ·rw [if_pos hs, ih (i + 1) _ _ _ (by omega) (by omega) (by omega) (by omega) (by omega)]
  ·rw [if_neg hs]
theorem Gh (t : ab) (h : okN t) (hp : okP t) (h256 : t.Stages.length ≤ 256) : ∀ (k i : Nat) (a b c : Int), i + k = t.Stages.length → 0 ≤ a ∧ a ≤ i * 6000000 → 0 ≤ b ∧ b ≤ i * 6000000 → 0 ≤ c ∧ c ≤ i * 16000000000000 →
  a ≤ 4096 → b ≤ 4096 → c ≤ 16384 → E2 (dK t a b c t.Stages t.Stages.length i) (dA t a b c i) := by
 intro k
 induction k with
 | zero =>
  intro i a b c hi ha hb hc h1 h2 h3
  rw [oC, if_neg (by omega), dK, if_neg (by omega), if_pos h1, if_pos h2, decide_eq_true h3]
  exact .rfl'
 | succ k ih =>
  intro i a b c hi ha hb hc h1 h2 h3
  have hi' : i < t.Stages.length := by omega
  have hg := hp i hi'
  have l1 := hg.e.1
  have l2 := hg.d.1
  have l3 := hg.l.1
  have l4 := hg.n
  have hnt := Kf hg
  have hr := DB t h hp i hi' a b c (by omega) (by omega) (by omega)
  have ho := P2 t h hp h256 k (i + 1) (a + nS t.Stages[i]) (b + t.Stages[i].Nexts.length) (c + nT t.Stages[i]) (by omega) (by omega) (by omega) (by omega)
  have hi2 := ih (i + 1) (a + nS t.Stages[i]) (b + t.Stages[i].Nexts.length) (c + nT t.Stages[i]) (by omega) (by omega) (by omega) (by omega)
  rw [dK, if_pos (by omega), ay hi', aa, Gg _ hg, aa, Af t h hp i hi', aa]
  rw [bh (n := (t.Stages[i].Enter.length : Int) + t.Stages[i].During.length) (by omega), bh (n := (t.Stages[i].Enter.length : Int) + t.Stages[i].During.length + t.Stages[i].Leave.length) (by omega)]
  rw [show (t.Stages[i].Enter.length : Int) + t.Stages[i].During.length + t.Stages[i].Leave.length = nS t.Stages[i] from rfl]
  rw [bh (n := a + nS t.Stages[i]) (by omega), bh (n := b + t.Stages[i].Nexts.length) (by omega), bh (n := c + nT t.Stages[i]) (by omega), au (by omega), hr]
  have no : ∀ x : Option Bool, (x = some false) → E2 (some false) (if vG t i t.Stages[i] = true then x else some false) := fun x hx => by rw [hx]; split <;> exact .rfl'
  by_cases q1 : a + nS t.Stages[i] > 4096
  ·rw [if_pos q1]; exact no _ (ho (by omega))
  rw [if_neg q1]
  by_cases q2 : b + t.Stages[i].Nexts.length > 4096
  ·rw [if_pos q2]; exact no _ (ho (by omega))
  rw [if_neg q2]
  by_cases q3 : c + nT t.Stages[i] > 16384
  ·rw [if_pos q3]; exact no _ (ho (by omega))
  rw [if_neg q3]
  by_cases hs : vG t i t.Stages[i] = true
  ·rw [if_pos hs, if_neg (by simp [hs])]; exact hi2 (by omega) (by omega) (by omega)
  ·rw [if_neg hs, if_pos (by simp [hs])]; exact .rfl'
theorem Lq (t : ab) (h : okN t) (hp : okP t) (hw : okW t) : E2 (rE t) (vZ t) := by
 unfold rE vZ
 have hgc := h.c
 have hgg := h.g
 have hss := h.s
 have hdd := h.d
 refine .bind (N6 t.Tables (by omega) (by omega)) fun v _ => .ite (fun _ => .ite (fun _ => .rfl') fun _ => .ite (fun _ => .rfl') fun _ => .ite (fun _ => .rfl') fun _ => .ite (fun _ => .rfl') fun _ => ?_) fun _ => .rfl'
 rw [mu, pV, aa, aa]
 refine .ite (fun h256 => ?_) fun _ => .rfl'
 simp at h256
 rw [mu, aa, bh (n := (t.Stages.length : Int) - 1) (by omega), G4 t h hw, aa]
 -- the detectors
 have dets : ∀ (k i : Nat), i + k = t.Dets.length → (∃ q, fz t t.Dets t.Dets.length i = (if q = true then dK t 0 0 0 t.Stages t.Stages.length 0 else some false) ∧
   ie t i = (if q = true then (if kP t.Name = true then if unl [] (kG t) = true then qr t else some false else some false) else some false)) := by
  intro k
  induction k with
  | zero =>
   intro i hi
   refine ⟨true, ?_, ?_⟩
   ·rw [fz, if_neg (by omega), if_pos rfl]
   ·rw [ie, if_neg (by omega), if_pos rfl, Ha t hw, aa, H8 t h, aa, EM t h hw, aa]
    simp only [bind, Option.bind_some]
    congr 2
    cases qr t <;> rfl
  | succ k ih =>
   intro i hi
   have hi' : i < t.Dets.length := by omega
   obtain ⟨q, q1, q2⟩ := ih (i + 1) (by omega)
   rw [fz, ie, if_pos (by omega), if_pos (by omega)]
   simp only [ay hi', aa, mu, pV, au (show i < 4611686018427387904 by omega), q1, q2, decide_eq_true_eq]
   refine ⟨decide (0 ≤ t.Dets[i].Delay ∧ t.Dets[i].Delay ≤ 3600) && (decide (0 ≤ t.Dets[i].Hold ∧ t.Dets[i].Hold ≤ 3600) && q), ?_, ?_⟩
   ·by_cases c1 : 0 ≤ t.Dets[i].Delay ∧ t.Dets[i].Delay ≤ 3600 <;> by_cases c2 : 0 ≤ t.Dets[i].Hold ∧ t.Dets[i].Hold ≤ 3600 <;> simp [c1, c2]
   ·by_cases c1 : 0 ≤ t.Dets[i].Delay ∧ t.Dets[i].Delay ≤ 3600 <;> by_cases c2 : 0 ≤ t.Dets[i].Hold ∧ t.Dets[i].Hold ≤ 3600 <;> simp [c1, c2]
 obtain ⟨q, q1, q2⟩ := dets t.Dets.length 0 (by omega)
 rw [show ((0 : Nat) : Int) = 0 from rfl] at q1 q2
 obtain ⟨v2, v2a, v2b⟩ : E2 (dK t 0 0 0 t.Stages t.Stages.length 0) (qr t) := Gh t h hp (by omega) t.Stages.length 0 0 0 0 (by omega) (by omega) (by omega) (by omega) (by omega) (by omega) (by omega)
 by_cases hst : 0 ≤ t.Start ∧ t.Start < t.Stages.length
 ·rw [if_pos (by simp; omega), if_neg (show ¬ t.Start < 0 by omega), if_neg (show ¬ t.Start ≥ (t.Stages.length : Int) by omega), q2]
  simp only [q1]
  rw [v2a, v2b]
  cases kP t.Name <;> cases unl [] (kG t) <;> cases q <;> exact .of rfl rfl rfl
 ·rw [if_neg (by simp; omega)]
  by_cases h0 : t.Start < 0
  ·rw [if_pos h0]; exact .rfl'
  ·rw [if_neg h0, if_pos (by omega)]; exact .rfl'
end Go.Proofs.YtkmbagocakiefaaGreatDoor.Wb
