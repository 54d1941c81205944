/- Statement lists and stages: the checker's and the document's agree. -/
import Derived.Test.YtdcpfmjnkcodiaaDoorE1
namespace Go.Proofs.YtdcpfmjnkcodiaaDoor.We
open Go Go.Jv
def sx (t : TypedT) (e : List NodeT) (typ : Int) : Bool := (c_SoundExpr t e typ).getD false
theorem sx_check {t : TypedT} {e : List NodeT} {typ : Int} (h : okE e) : c_SoundExpr t e typ = some (sx t e typ) := by
 obtain ⟨v, h1, _⟩ := exprs t e typ h; rw [sx, h1]; rfl
theorem sx_ref {t : TypedT} {e : List NodeT} {typ : Int} (h : okE e) : r5_SoundExpr t e typ = some (sx t e typ) := by
 obtain ⟨v, h1, h2⟩ := exprs t e typ h; rw [sx, h1, h2]; rfl
def many (t : TypedT) (k : Int) : Int :=
 if k = 1 then t.Vars.length else if k = 2 ∨ k = 3 ∨ k = 4 then t.Timers.length else if k = 5 ∨ k = 10 then t.Counters.length else if k = 6 then t.Dets.length else if k = 7 ∨ k = 8 ∨ k = 9 then 1 else 0
def wantT (k : Int) : Int := if k = 1 then 1 else if k = 7 then 2 else 0
def okS (t : TypedT) (s : StmtT) : Bool :=
 decide (s.Name = ⟨#[]⟩) && decide (s.At.Line = 0) && decide (s.At.Col = 0) && decide (0 ≤ s.Ix) && decide (s.Ix < many t s.Kind) && (if wantT s.Kind = 0 then decide (s.Expr.length = 0) else sx t s.Expr (wantT s.Kind))
theorem stmt_check (t : TypedT) (s : StmtT) (h : okE s.Expr) : c_soundStmt t s = some (okS t s, t) := by
 unfold c_soundStmt c_soundStmt_k1 c_soundStmt_k2 c_soundStmt_k3
 simp only [sx_check h, some_bind]
 unfold okS
 by_cases hn : s.Name = ⟨#[]⟩
 case neg => simp [hn]
 by_cases hl : s.At.Line = 0
 case neg => simp [hn, hl]
 by_cases hc : s.At.Col = 0
 case neg => simp [hn, hl, hc]
 by_cases hx : s.Ix < 0
 ·simp [hn, hl, hc, hx]; omega
 have hx' : 0 ≤ s.Ix := by omega
 have hz : decide (s.Ix < 1) = decide (s.Ix = 0) := by by_cases h0 : s.Ix = 0 <;> simp [h0]; omega
 by_cases h1 : s.Kind = 1
 ·by_cases hm : s.Ix < t.Vars.length <;> simp [hn, hl, hc, hx, hx', h1, many, wantT, hm]
 by_cases h7 : s.Kind = 7
 ·by_cases hm : s.Ix = 0 <;> simp [hn, hl, hc, hx, hx', h7, many, wantT, hm, hz]
 by_cases he : s.Expr.length = 0
 case neg => simp [hn, hl, hc, hx, hx', h1, h7, wantT]; simp [show ¬ s.Expr = [] from fun h => he (by rw [h]; rfl)]
 have he' : s.Expr = [] := List.eq_nil_of_length_eq_zero he
 by_cases h2 : s.Kind = 2
 ·simp [hn, hl, hc, hx, hx', h2, many, wantT, he']
 by_cases h3 : s.Kind = 3
 ·simp [hn, hl, hc, hx, hx', h3, many, wantT, he']
 by_cases h4 : s.Kind = 4
 ·simp [hn, hl, hc, hx, hx', h4, many, wantT, he']
 by_cases h5 : s.Kind = 5
 ·simp [hn, hl, hc, hx, hx', h5, many, wantT, he']
 by_cases h10 : s.Kind = 10
 ·simp [hn, hl, hc, hx, hx', h10, many, wantT, he']
 by_cases h6 : s.Kind = 6
 ·simp [hn, hl, hc, hx, hx', h6, many, wantT, he']
 by_cases h8 : s.Kind = 8
 ·simp [hn, hl, hc, hx, hx', h8, many, wantT, he', hz]
 by_cases h9 : s.Kind = 9
 ·simp [hn, hl, hc, hx, hx', h9, many, wantT, he', hz]
 simp [*, many, wantT]
def ctl (o : List Bool) (k : Int) : Option (List Bool) :=
 if k = 7 then (if o.length = 16 then none else some (o ++ [false])) else
 if k = 8 then (if o.length = 0 ∨ o.getD (o.length - 1) false = true then none else some (o.set (o.length - 1) true)) else
 if k = 9 then (if o.length = 0 then none else some (o.take (o.length - 1))) else some o
theorem list_check (t : TypedT) (o : List Bool) (l : List StmtT) (i : Nat) (hi : i < l.length) (hl : l.length ≤ 1000000000) (ho : o.length ≤ 16) (h : okE (l[i]).Expr) :
  c_soundList_L1 t o l l.length i = if okS t l[i] = true then (match ctl o (l[i]).Kind with | none => some (false, t) | some o' => c_soundList_L1 t o' l l.length ((i + 1 : Nat) : Int)) else some (false, t) := by
 rw [c_soundList_L1_eq, if_pos (by omega), idx_at hi, some_bind, stmt_check t _ h, some_bind]
 simp only [c_soundList_k2_eq, w64_succ (show i < 4611686018427387904 by omega)]
 generalize l[i] = s at *
 by_cases hs : okS t s = true
 case neg => simp [hs]
 simp only [hs, Bool.not_true, Bool.false_eq_true, if_false, if_true]
 unfold ctl
 by_cases h7 : s.Kind = 7
 ·simp only [h7, if_true]
  by_cases h16 : o.length = 16
  ·simp [h16]
  ·rw [if_neg (by omega), if_neg h16, app_ok (by simp; omega), some_bind]
 by_cases h8 : s.Kind = 8
 ·simp only [h8, if_true]
  by_cases h0 : o.length = 0
  ·simp [h0]
  ·rw [if_neg (by omega), w64_id (n := (o.length : Int) - 1) (by omega), show (o.length : Int) - 1 = ((o.length - 1 : Nat) : Int) by omega, idx_at (by omega)]
   simp only [some_bind, Int.toNat_natCast, h0, false_or]
   have : o.getD (o.length - 1) false = o[o.length - 1]'(by omega) := by simp [List.getD, List.getElem?_eq_getElem (show o.length - 1 < o.length by omega)]
   rw [this]
   by_cases hb : o[o.length - 1]'(by omega) = true <;> simp [hb, show ¬ o = [] from fun h => h0 (by rw [h]; rfl)]
 by_cases h9 : s.Kind = 9
 ·simp only [h9, if_true]
  by_cases h0 : o.length = 0
  ·simp [h0]
  ·rw [if_neg (show ¬ (9 : Int) = 7 by omega), if_neg (show ¬ (9 : Int) = 8 by omega), if_neg (by omega), w64_id (n := (o.length : Int) - 1) (by omega), show (o.length : Int) - 1 = ((o.length - 1 : Nat) : Int) by omega, cut_pre (by omega) (by omega), some_bind]
   simp [h0]
 simp [h7, h8, h9]
theorem list_ref (t : TypedT) (o : List Bool) (l : List StmtT) (i : Nat) (hi : i < l.length) (hl : l.length ≤ 1000000000) (ho : o.length ≤ 16) (h : okE (l[i]).Expr) :
  r5_SoundList_L1 l t o i = if okS t l[i] = true then (match ctl o (l[i]).Kind with | none => some false | some o' => r5_SoundList_L1 l t o' ((i + 1 : Nat) : Int)) else some false := by
 rw [r5_SoundList_L1_eq, if_pos (by omega), idx_at hi, some_bind]
 simp only [r5_SoundList_k3_eq, r5_SoundList_k4_eq]
 generalize l[i] = s at *
 have key : ∀ (th : Int) (ty : Int) (o' : List Bool), many t s.Kind = th → wantT s.Kind = ty → s.Name = ⟨#[]⟩ → s.At.Line = 0 → s.At.Col = 0 →
   r5_SoundList_k2 l t o' i s th ty =
   if okS t s = true then r5_SoundList_L1 l t o' ((i + 1 : Nat) : Int) else some false := by
  intro th ty o' h1 h2 hn hl hc
  rw [r5_SoundList_k2_eq]
  simp only [r5_SoundList_k5_eq, sx_ref h, some_bind, w64_succ (show i < 4611686018427387904 by omega)]
  unfold okS
  rw [h1, h2]
  simp only [hn, hl, hc, decide_true, Bool.true_and]
  by_cases a : s.Ix < 0
  ·rw [if_pos a, if_neg (by simp; omega)]
  rw [if_neg a]
  by_cases b : s.Ix ≥ th
  ·rw [if_pos b, if_neg (by simp; omega)]
  rw [if_neg b]
  have a' : 0 ≤ s.Ix := by omega
  have b' : s.Ix < th := by omega
  by_cases c : ty = 0
  ·simp only [c, if_true, a', b', decide_true, Bool.true_and]
   by_cases d : s.Expr.length = 0
   ·rw [if_neg (by omega), if_pos (by simpa using d)]
   ·rw [if_pos (by omega), if_neg (by simpa using d)]
  ·simp only [c, if_false, a', b', decide_true, Bool.true_and]
 by_cases hn : s.Name = ⟨#[]⟩
 case neg => simp [hn, okS]
 by_cases hl : s.At.Line = 0
 case neg => simp [hn, hl, okS]
 by_cases hc : s.At.Col = 0
 case neg => simp [hn, hl, hc, okS]
 rw [if_pos hn, if_pos hl, if_pos hc]
 unfold ctl
 by_cases h1 : s.Kind = 1
 ·rw [if_pos h1, key _ 1 o (by simp [many, h1]) (by simp [wantT, h1]) hn hl hc]; simp [h1]
 by_cases h2 : s.Kind = 2
 ·rw [if_neg h1, if_pos h2, key _ 0 o (by simp [many, h2]) (by simp [wantT, h2]) hn hl hc]; simp [h2]
 by_cases h3 : s.Kind = 3
 ·rw [if_neg h1, if_neg h2, if_pos h3, key _ 0 o (by simp [many, h3]) (by simp [wantT, h3]) hn hl hc]; simp [h3]
 by_cases h4 : s.Kind = 4
 ·rw [if_neg h1, if_neg h2, if_neg h3, if_pos h4, key _ 0 o (by simp [many, h4]) (by simp [wantT, h4]) hn hl hc]; simp [h4]
 by_cases h5 : s.Kind = 5
 ·rw [if_neg h1, if_neg h2, if_neg h3, if_neg h4, if_pos h5, key _ 0 o (by simp [many, h5]) (by simp [wantT, h5]) hn hl hc]; simp [h5]
 by_cases h10 : s.Kind = 10
 ·rw [if_neg h1, if_neg h2, if_neg h3, if_neg h4, if_neg h5, if_pos h10, key _ 0 o (by simp [many, h10]) (by simp [wantT, h10]) hn hl hc]; simp [h10]
 by_cases h6 : s.Kind = 6
 ·rw [if_neg h1, if_neg h2, if_neg h3, if_neg h4, if_neg h5, if_neg h10, if_pos h6, key _ 0 o (by simp [many, h6]) (by simp [wantT, h6]) hn hl hc]; simp [h6]
 rw [if_neg h1, if_neg h2, if_neg h3, if_neg h4, if_neg h5, if_neg h10, if_neg h6]
 by_cases h7 : s.Kind = 7
 ·rw [if_pos h7, app_ok (by simp; omega), some_bind]
  by_cases h16 : o.length = 16
  ·rw [if_pos (by simp; omega)]; simp [h7, h16]
  ·rw [if_neg (by simp; omega), key _ 2 _ (by simp [many, h7]) (by simp [wantT, h7]) hn hl hc]; simp [h7, h16]
 by_cases h8 : s.Kind = 8
 ·rw [if_neg h7, if_pos h8]
  by_cases h0 : o.length = 0
  ·rw [if_pos (by omega)]; simp [h8, h0]
  ·rw [if_neg (by omega), w64_id (n := (o.length : Int) - 1) (by omega), show (o.length : Int) - 1 = ((o.length - 1 : Nat) : Int) by omega, idx_at (by omega), some_bind, some_bind, some_bind, Int.toNat_natCast, key _ 0 _ (by simp [many, h8]) (by simp [wantT, h8]) hn hl hc]
   have : o.getD (o.length - 1) false = o[o.length - 1]'(by omega) := by simp [List.getD, List.getElem?_eq_getElem (show o.length - 1 < o.length by omega)]
   rw [this]
   by_cases hb : o[o.length - 1]'(by omega) = true <;> simp [hb, h8, h0]
 by_cases h9 : s.Kind = 9
 ·rw [if_neg h7, if_neg h8, if_pos h9]
  by_cases h0 : o.length = 0
  ·rw [if_pos (by omega)]; simp [h9, h0]
  ·rw [if_neg (by omega), w64_id (n := (o.length : Int) - 1) (by omega), show (o.length : Int) - 1 = ((o.length - 1 : Nat) : Int) by omega, cut_pre (by omega) (by omega), some_bind, Int.toNat_natCast, key _ 0 _ (by simp [many, h9]) (by simp [wantT, h9]) hn hl hc]
   simp [h9, h0]
 have : ¬ s.Ix < 0 → ¬ s.Ix < many t s.Kind := by simp [many, *]
 rw [if_neg h7, if_neg h8, if_neg h9, if_neg]
 unfold okS; simp; intros; omega
theorem ctl_le {o o' : List Bool} {k : Int} (h : ctl o k = some o') (ho : o.length ≤ 16) : o'.length ≤ 16 := by
 unfold ctl at h
 repeat' split at h
 all_goals first | (cases h; done) | (obtain rfl := Option.some.inj h; simp; omega) | (obtain rfl := Option.some.inj h; simpa using ho)
def okL (l : List StmtT) : Prop := l.length ≤ 2000000 ∧ ∀ i (h : i < l.length), okE (l[i]).Expr
def E2p {α β : Type} (t : β) (a : Option (α × β)) (b : Option α) : Prop := ∃ v, a = some (v, t) ∧ b = some v
theorem lists_loop (t : TypedT) (l : List StmtT) (hl : okL l) : ∀ (k i : Nat) (o : List Bool), i + k = l.length → o.length ≤ 16 → E2p t (c_soundList_L1 t o l l.length i) (r5_SoundList_L1 l t o i) := by
 intro k
 induction k with
 | zero =>
  intro i o h ho
  rw [c_soundList_L1_eq, if_neg (by omega), r5_SoundList_L1_eq, if_neg (by omega)]
  exact ⟨_, rfl, rfl⟩
 | succ k ih =>
  intro i o h ho
  have hi : i < l.length := by omega
  rw [list_check t o l i hi (by have := hl.1; omega) ho (hl.2 i hi), list_ref t o l i hi (by have := hl.1; omega) ho (hl.2 i hi)]
  by_cases hs : okS t l[i] = true
  ·rw [if_pos hs, if_pos hs]
   cases hc : ctl o (l[i]).Kind with
   | none => exact ⟨_, rfl, rfl⟩
   | some o' => exact ih (i + 1) o' (by omega) (ctl_le hc ho)
  ·rw [if_neg hs, if_neg hs]; exact ⟨_, rfl, rfl⟩
theorem lists (t : TypedT) (l : List StmtT) (hl : okL l) : E2p t (c_soundList t l) (r5_SoundList t l) := lists_loop t l hl l.length 0 [] (by omega) (by simp)
end Go.Proofs.YtdcpfmjnkcodiaaDoor.We
namespace Go.Proofs.YtdcpfmjnkcodiaaDoor.We
open Go Go.Jv
def Tt {α : Type} (x : Option α) : Prop := ∃ v, x = some v
theorem Tt.some {α : Type} (v : α) : Tt (some v) := ⟨v, rfl⟩
theorem Tt.ite {α : Type} {c : Prop} [Decidable c] {a b : Option α} (h : c → Tt a) (h' : ¬ c → Tt b) : Tt (if c then a else b) := by
 by_cases hc : c
 ·rw [if_pos hc]; exact h hc
 ·rw [if_neg hc]; exact h' hc
theorem Tt.bind {α β : Type} {a : Option α} {f : α → Option β} (h : Tt a) (hk : ∀ v, a = Option.some v → Tt (f v)) : Tt (a >>= f) := by
 obtain ⟨v, h1⟩ := h; rw [h1]; exact hk v h1
theorem sidx_at {s : ByteArray} {i : Nat} (h : i < s.size) : sidx s (i : Int) = some ((s[i]).toNat : Int) := by
 rw [sidx, if_pos (by omega), Int.toNat_natCast, getElem?_pos s i h]; rfl
theorem scut_at {s : ByteArray} {lo hi : Int} (h0 : 0 ≤ lo) (h1 : lo ≤ hi) (h2 : hi ≤ s.size) : scut s lo hi = some (s.extract lo.toNat hi.toNat) := by rw [scut, if_pos ⟨h0, h1, h2⟩]
theorem digit_lex (c : Int) : Tt (lex_digit c) := by unfold lex_digit; exact .ite (fun _ => .some _) fun _ => .some _
theorem digit_ref (c : Int) : Tt (r2_digit c) := digit_lex c
theorem letter_eq (c : Int) : r2_letter c = lex_letter c := rfl
theorem letter_tt (c : Int) : Tt (lex_letter c) := by
 unfold lex_letter; exact .ite (fun _ => .ite (fun _ => .some _) fun _ => .ite (fun _ => .some _) fun _ => .some _) fun _ => .ite (fun _ => .some _) fun _ => .some _
theorem inner_eq (c : Int) : r2_inRun c = lex_inner c := rfl
theorem inner_tt (c : Int) : Tt (lex_inner c) := by
 unfold lex_inner
 exact .bind (letter_tt c) fun _ _ => .ite (fun _ => .some _) fun _ => .bind (digit_lex c) fun _ _ => .ite (fun _ => .some _) fun _ => .some _
theorem digits_lex_loop (s : ByteArray) (base : Int) (hs : s.size ≤ 1000000000000) : ∀ (k i : Nat) (u : Bool) (v : Int), i + k = s.size → Tt (lex_digits_L1 s base u v i) := by
 intro k
 induction k with
 | zero => intro i u v h; rw [lex_digits_L1_eq, if_neg (by omega)]; exact .some _
 | succ k ih =>
  intro i u v h
  have n5 : ∀ u v, Tt (lex_digits_k5 s base u v i) := fun u v => by rw [lex_digits_k5_eq, w64_succ (by omega)]; exact ih (i + 1) u v (by omega)
  have n2 : ∀ u v d, Tt (lex_digits_k2 s base u v i d) := fun u v d => by rw [lex_digits_k2_eq]; exact .ite (fun _ => .some _) fun _ => n5 _ _
  have n4 : ∀ u v d c, Tt (lex_digits_k4 s base u v i d c) := fun u v d c => by
   rw [lex_digits_k4_eq]
   refine .ite (fun _ => .ite (fun _ => .ite (fun h0 => .ite (fun _ => ?_) fun _ => n2 _ _ _) fun _ => n2 _ _ _) fun _ => n2 _ _ _) fun _ => n2 _ _ _
   rw [w64_id (n := (i : Int) - 1) (by omega), show (i : Int) - 1 = ((i - 1 : Nat) : Int) by omega, sidx_at (by omega), some_bind]
   exact .ite (fun _ => n2 _ _ _) fun _ => n5 _ _
  have n3 : ∀ u v d c, Tt (lex_digits_k3 s base u v i d c) := fun u v d c => by
   rw [lex_digits_k3_eq]
   exact .ite (fun _ => .ite (fun _ => n2 _ _ _) fun _ => n4 _ _ _ _) fun _ => n4 _ _ _ _
  rw [lex_digits_L1_eq, if_pos (by omega), sidx_at (by omega), some_bind]
  exact .bind (digit_lex _) fun _ _ => .ite (fun _ => n2 _ _ _) fun _ => .ite (fun _ => .ite (fun _ => n2 _ _ _) fun _ => n3 _ _ _ _) fun _ => n3 _ _ _ _
theorem digits_lex (s : ByteArray) (base : Int) (u : Bool) (hs : s.size ≤ 1000000000000) : Tt (lex_digits s base u) := digits_lex_loop s base hs s.size 0 u 0 (by omega)
theorem firstIdx_lt (s : ByteArray) (c : UInt8) : -1 ≤ firstIdx s c ∧ firstIdx s c < s.size := by
 unfold firstIdx
 split
 ·rename_i i h
  have := List.mem_of_find?_eq_some h
  rw [List.mem_range] at this; omega
 ·omega
theorem cut1 (s u : ByteArray) (hu : u.size = 1) (hs : s.size ≤ 1000000000000) : ∃ a b c, strings_Cut s u = some (a, b, c) ∧ a.size ≤ s.size ∧ b.size ≤ s.size := by
 have hidx : ∃ r, sl_Index s u = some r ∧ (r < 0 ∨ r + 1 ≤ s.size) := by
  unfold sl_Index
  rw [if_neg (by omega)]
  by_cases he : u = s
  ·rw [if_pos he]; exact ⟨0, rfl, by subst he; omega⟩
  ·rw [if_neg he, if_pos (by omega), show (0 : Int) = ((0 : Nat) : Int) from rfl, sidx_at (by omega), some_bind]
   unfold sl_IndexByte ba_IndexByteString indexByteS
   simp only [some_bind]
   refine ⟨_, rfl, ?_⟩
   have := firstIdx_lt s ((((u[0]'(by omega)).toNat : Int)).toNat.toUInt8)
   omega
 obtain ⟨r, h1, h2⟩ := hidx
 unfold strings_Cut sl_Cut
 rw [h1, some_bind]
 by_cases hr : r ≥ 0
 ·rw [if_pos hr, scut_at (by omega) hr (by omega), some_bind, hu, w64_id (by omega), scut_at (by omega) (by omega) (by omega), some_bind, some_bind]
  exact ⟨_, _, _, rfl, by simp; omega, by simp⟩
 ·rw [if_neg hr, some_bind]
  exact ⟨_, _, _, rfl, Nat.le_refl _, Nat.zero_le _⟩
theorem duration_lex_loop : ∀ (k i : Nat) (s : ByteArray) (v : Int) (any : Bool), i + k = 3 → s.size ≤ 1000000000000 → Tt (lex_duration_L1 s v any ⟨#[104]⟩ 3600 ⟨#[109]⟩ 60 ⟨#[115]⟩ 1 i) := by
 intro k
 induction k with
 | zero => intro i s v any h hs; rw [lex_duration_L1_eq, if_neg (by omega)]; exact .ite (fun _ => .some _) fun _ => .some _
 | succ k ih =>
  intro i s v any h hs
  have n4 : ∀ s v any, s.size ≤ 1000000000000 → Tt (lex_duration_k4 s v any ⟨#[104]⟩ 3600 ⟨#[109]⟩ 60 ⟨#[115]⟩ 1 i) := fun s v any hs => by
   rw [lex_duration_k4_eq, w64_succ (by omega)]; exact ih (i + 1) s v any (by omega) hs
  have n3 : ∀ v u rest ok n, rest.size ≤ 1000000000000 → Tt (lex_duration_k3 v u rest ok n ⟨#[104]⟩ 3600 ⟨#[109]⟩ 60 ⟨#[115]⟩ 1 i) := fun v u rest ok n hs => by
   rw [lex_duration_k3_eq]; exact .ite (fun _ => .some _) fun _ => n4 _ _ _ hs
  have n2 : ∀ s v any u hd rest ok, s.size ≤ 1000000000000 → hd.size ≤ 1000000000000 → rest.size ≤ 1000000000000 → Tt (lex_duration_k2 s v any u hd rest ok ⟨#[104]⟩ 3600 ⟨#[109]⟩ 60 ⟨#[115]⟩ 1 i) := fun s v any u hd rest ok h1 h2 h3 => by
   rw [lex_duration_k2_eq]; exact .ite (fun _ => n4 _ _ _ h1) fun _ => .bind (digits_lex _ _ _ h2) fun _ _ => .ite (fun _ => n3 _ _ _ _ _ h3) fun _ => n3 _ _ _ _ _ h3
  rw [lex_duration_L1_eq, if_pos (by omega)]
  have hi : i = 0 ∨ i = 1 ∨ i = 2 := by omega
  have hg : ∃ u : Anon_unit_worthT, A3.get (⟨(⟨⟨#[104]⟩, 3600⟩ : Anon_unit_worthT), (⟨⟨#[109]⟩, 60⟩ : Anon_unit_worthT), (⟨⟨#[115]⟩, 1⟩ : Anon_unit_worthT)⟩ : (A3 Anon_unit_worthT)) i = some u ∧ u.unit.size = 1 := by
   rcases hi with rfl | rfl | rfl
   ·exact ⟨_, rfl, rfl⟩
   ·exact ⟨_, rfl, rfl⟩
   ·exact ⟨_, rfl, rfl⟩
  obtain ⟨u, hu, hu1⟩ := hg
  obtain ⟨a, b, c, hc, ha, hb⟩ := cut1 s u.unit hu1 hs
  rw [hu, some_bind, hc, some_bind]
  exact .ite (fun _ => n2 _ _ _ _ _ _ _ hs (by show a.size ≤ _; omega) (by show b.size ≤ _; omega)) fun _ => n2 _ _ _ _ _ _ _ hs (by show a.size ≤ _; omega) (by show b.size ≤ _; omega)
theorem number_lex (s : ByteArray) (hs : s.size ≤ 1000000000000) : Tt (lex_Number s) := by
 have k3 : ∀ v ok, Tt (lex_Number_k3 v ok) := fun v ok => by unfold lex_Number_k3; exact .ite (fun _ => .some _) fun _ => .ite (fun _ => .some _) fun _ => .some _
 have k2 : ∀ hex is, hex.size ≤ 1000000000000 → Tt (lex_Number_k2 s hex is) := fun hex is hh => by
  unfold lex_Number_k2
  exact .ite (fun _ => .bind (digits_lex _ _ _ hh) fun _ _ => .ite (fun _ => k3 _ _) fun _ => k3 _ _) fun _ => .bind (duration_lex_loop 3 0 s 0 false rfl hs) fun _ _ => .ite (fun _ => k3 _ _) fun _ => k3 _ _
 have hp : ∃ a b, strings_CutPrefix s ⟨#[48, 120]⟩ = some (a, b) ∧ a.size ≤ s.size := by
  unfold strings_CutPrefix sl_CutPrefix sl_HasPrefix
  by_cases h2 : (s.size : Int) ≥ ((⟨#[48, 120]⟩ : ByteArray).size : Int)
  ·rw [if_pos h2, scut_at (by omega) (by omega) h2, some_bind, some_bind]
   by_cases hq : decide (s.extract (0 : Int).toNat ((⟨#[48, 120]⟩ : ByteArray).size : Int).toNat = ⟨#[48, 120]⟩) = true
   ·rw [if_pos hq, scut_at (by omega) (by omega) (by omega), some_bind, some_bind]
    exact ⟨_, _, rfl, by simp⟩
   ·rw [if_neg hq, some_bind]; exact ⟨_, _, rfl, by simp⟩
  ·rw [if_neg h2, some_bind, if_neg (by simp), some_bind]; exact ⟨_, _, rfl, by simp⟩
 obtain ⟨a, b, hab, ha⟩ := hp
 have k1 : ∀ v ok, Tt (lex_Number_k1 s v ok) := fun v ok => by
  unfold lex_Number_k1
  refine .ite (fun _ => ?_) fun _ => k3 _ _
  rw [hab, some_bind]
  exact .ite (fun _ => k2 _ _ (by show a.size ≤ _; omega)) fun _ => k2 _ _ (by show a.size ≤ _; omega)
 unfold lex_Number
 exact .bind (digits_lex _ _ _ hs) fun _ _ => .ite (fun _ => k1 _ _) fun _ => k1 _ _
theorem value_ref (c base : Int) : Tt (r2_value c base) := by
 unfold r2_value r2_value_k1
 exact .bind (digit_ref c) fun _ _ => .ite (fun _ => .some _) fun _ => .ite (fun _ => .ite (fun _ => .ite (fun _ => .some _) fun _ => .ite (fun _ => .ite (fun _ => .ite (fun _ => .some _) fun _ => .some _) fun _ => .some _) fun _ => .some _) fun _ => .ite (fun _ => .ite (fun _ => .ite (fun _ => .some _) fun _ => .some _) fun _ => .some _) fun _ => .some _) fun _ => .ite (fun _ => .ite (fun _ => .ite (fun _ => .some _) fun _ => .some _) fun _ => .some _) fun _ => .some _
theorem digits_ref_loop (s : ByteArray) (base : Int) (g : Bool) (hs : s.size ≤ 1000000000000) : ∀ (k i : Nat) (v : Int), i + k = s.size → Tt (r2_digits_L1 s base g v i) := by
 intro k
 induction k with
 | zero => intro i v h; rw [r2_digits_L1_eq, if_neg (by omega)]; exact .some _
 | succ k ih =>
  intro i v h
  have n2 : ∀ v, Tt (r2_digits_k2 s base g v i) := fun v => by rw [r2_digits_k2_eq, w64_succ (by omega)]; exact ih (i + 1) v (by omega)
  rw [r2_digits_L1_eq, if_pos (by omega), sidx_at (by omega), some_bind, some_bind]
  refine .ite (fun _ => .ite (fun _ => .some _) fun _ => .ite (fun _ => .some _) fun h0 => .ite (fun _ => .some _) fun _ => ?_) fun _ => .bind (value_ref _ _) fun _ _ => .ite (fun _ => .some _) fun _ => .ite (fun _ => n2 _) fun _ => n2 _
  rw [w64_id (n := (i : Int) - 1) (by omega), show (i : Int) - 1 = ((i - 1 : Nat) : Int) by omega, sidx_at (by omega), some_bind]
  exact .ite (fun _ => .some _) fun _ => n2 _
theorem digits_ref (s : ByteArray) (base : Int) (g : Bool) (hs : s.size ≤ 1000000000000) : Tt (r2_digits s base g) := digits_ref_loop s base g hs s.size 0 0 (by omega)
theorem duration_ref_loop (s : ByteArray) (hs : s.size ≤ 1000000000000) : ∀ (k q : Nat) (v : Int) (i : Nat), q + k = 3 → i ≤ s.size → Tt (r2_duration_L1 s ⟨#[104, 109, 115]⟩ (⟨3600, 60, 1⟩ : (A3 Int)) v i q) := by
 intro k
 induction k with
 | zero => intro q v i h hi; rw [r2_duration_L1_eq, if_neg (by omega)]; exact .ite (fun _ => .some _) fun _ => .some _
 | succ k ih =>
  intro q v i h hi
  have n5 : ∀ v (i : Nat), i ≤ s.size → Tt (r2_duration_k5 s ⟨#[104, 109, 115]⟩ (⟨3600, 60, 1⟩ : (A3 Int)) v i q) := fun v i hi => by
   rw [r2_duration_k5_eq, w64_succ (by omega)]; exact ih (q + 1) v i (by omega) hi
  have n4 : ∀ v (j : Nat), j < s.size → Tt (r2_duration_k4 s ⟨#[104, 109, 115]⟩ (⟨3600, 60, 1⟩ : (A3 Int)) v q j) := fun v j hj => by
   rw [r2_duration_k4_eq, w64_succ (by omega)]; exact n5 v (j + 1) (by omega)
  have hq : q = 0 ∨ q = 1 ∨ q = 2 := by omega
  have hw : ∃ w, A3.get (⟨3600, 60, 1⟩ : (A3 Int)) (q : Int) = some w := by rcases hq with rfl | rfl | rfl <;> exact ⟨_, rfl⟩
  obtain ⟨w, hw⟩ := hw
  have n3 : ∀ v (j : Nat), j ≤ s.size → Tt (r2_duration_k3 s ⟨#[104, 109, 115]⟩ (⟨3600, 60, 1⟩ : (A3 Int)) v i q j) := fun v j hj => by
   rw [r2_duration_k3_eq]
   refine .ite (fun hji => .ite (fun hjs => ?_) fun _ => n5 _ _ hi) fun _ => n5 _ _ hi
   rw [sidx_at (by omega), some_bind, sidx_at (by show q < 3; omega), some_bind]
   refine .ite (fun _ => ?_) fun _ => n5 _ _ hi
   rw [scut_at (by omega) (by omega) (by omega), some_bind]
   refine .bind (digits_ref _ _ _ (by simp; omega)) fun _ _ => ?_
   rw [hw, some_bind]
   exact .ite (fun _ => n4 _ _ (by omega)) fun _ => n4 _ _ (by omega)
  have n2 : ∀ m (j : Nat), j + m = s.size → Tt (r2_duration_L2 s ⟨#[104, 109, 115]⟩ (⟨3600, 60, 1⟩ : (A3 Int)) v i q j) := by
   intro m
   induction m with
   | zero => intro j hj; rw [r2_duration_L2_eq, if_neg (by omega)]; exact n3 _ _ (by omega)
   | succ m ihm =>
    intro j hj
    rw [r2_duration_L2_eq, if_pos (by omega), sidx_at (by omega), some_bind]
    refine .bind (digit_ref _) fun _ _ => .ite (fun _ => ?_) fun _ => n3 _ _ (by omega)
    rw [w64_succ (by omega)]; exact ihm (j + 1) (by omega)
  rw [r2_duration_L1_eq, if_pos (by omega)]
  exact n2 (s.size - i) i (by omega)
theorem number_ref (s : ByteArray) (hs : s.size ≤ 1000000000000) : Tt (r2_Number s) := by
 have k3 : ∀ v ok, Tt (r2_Number_k3 v ok) := fun v ok => by unfold r2_Number_k3; exact .ite (fun _ => .some _) fun _ => .ite (fun _ => .some _) fun _ => .some _
 have k2 : ∀ v ok, Tt (r2_Number_k2 s v ok) := fun v ok => by
  unfold r2_Number_k2
  exact .ite (fun _ => .bind (duration_ref_loop s hs 3 0 0 0 rfl (by omega)) fun _ _ => .ite (fun _ => k3 _ _) fun _ => k3 _ _) fun _ => k3 _ _
 have k1 : ∀ v ok, Tt (r2_Number_k1 s v ok) := fun v ok => by
  unfold r2_Number_k1
  refine .ite (fun _ => .ite (fun h2 => ?_) fun _ => k2 _ _) fun _ => k2 _ _
  rw [show (0 : Int) = ((0 : Nat) : Int) from rfl, sidx_at (by omega), some_bind]
  refine .ite (fun _ => ?_) fun _ => k2 _ _
  rw [show (1 : Int) = ((1 : Nat) : Int) from rfl, sidx_at (by omega), some_bind]
  refine .ite (fun _ => ?_) fun _ => k2 _ _
  rw [scut_at (by omega) (by omega) (by omega), some_bind]
  exact .bind (digits_ref _ _ _ (by simp; omega)) fun _ _ => .ite (fun _ => k2 _ _) fun _ => k2 _ _
 unfold r2_Number
 exact .bind (digits_ref _ _ _ hs) fun _ _ => .ite (fun _ => k1 _ _) fun _ => k1 _ _
def inTab (s : ByteArray) : Prop := s ∈ lex_words_tab ∨ s ∈ lex_signs_tab
theorem words_eq : r2_words_tab = lex_words_tab := rfl
theorem signs_eq : r2_signs_tab = lex_signs_tab := rfl
theorem words_len : lex_words_tab.length = 41 := rfl
theorem signs_len : lex_signs_tab.length = 18 := rfl
theorem kind_signs (s : ByteArray) : ∀ (k i : Nat), i + k = 18 → (s ∈ lex_signs_tab.drop i → ∃ r, lex_kind_L2 s i = some r ∧ 10 ≤ r) ∧ (¬ s ∈ lex_signs_tab.drop i → lex_kind_L2 s i = some 0) := by
 intro k
 induction k with
 | zero => intro i h; rw [lex_kind_L2, if_neg (by omega), List.drop_eq_nil_of_le (by rw [signs_len]; omega)]; exact ⟨fun h => absurd h (by simp), fun _ => rfl⟩
 | succ k ih =>
  intro i h
  have hi : i < lex_signs_tab.length := by rw [signs_len]; omega
  rw [lex_kind_L2, if_pos (by omega), idx_at hi, some_bind, List.drop_eq_getElem_cons hi]
  by_cases he : lex_signs_tab[i] = s
  ·rw [if_pos he]; exact ⟨fun _ => ⟨_, rfl, by rw [w64_id (by omega)]; omega⟩, fun hn => absurd (he ▸ List.mem_cons_self) hn⟩
  ·rw [if_neg he, w64_succ (by omega)]
   obtain ⟨h1, h2⟩ := ih (i + 1) (by omega)
   exact ⟨fun hm => h1 ((List.mem_cons.mp hm).resolve_left (fun e => he e.symm)), fun hn => h2 fun hm => hn (List.mem_cons_of_mem _ hm)⟩
theorem kind_words (s : ByteArray) : ∀ (k i : Nat), i + k = 41 → (s ∈ lex_words_tab.drop i ∨ s ∈ lex_signs_tab → ∃ r, lex_kind_L1 s i = some r ∧ 10 ≤ r) ∧ (¬ (s ∈ lex_words_tab.drop i ∨ s ∈ lex_signs_tab) → lex_kind_L1 s i = some 0) := by
 intro k
 induction k with
 | zero =>
  intro i h; rw [lex_kind_L1, if_neg (by omega), List.drop_eq_nil_of_le (by rw [words_len]; omega)]
  have := kind_signs s 18 0 rfl
  simpa using this
 | succ k ih =>
  intro i h
  have hi : i < lex_words_tab.length := by rw [words_len]; omega
  rw [lex_kind_L1, if_pos (by omega), idx_at hi, some_bind, List.drop_eq_getElem_cons hi]
  by_cases he : lex_words_tab[i] = s
  ·rw [if_pos he]; exact ⟨fun _ => ⟨_, rfl, by rw [w64_id (by omega)]; omega⟩, fun hn => absurd (.inl (he ▸ List.mem_cons_self)) hn⟩
  ·rw [if_neg he, w64_succ (by omega)]
   obtain ⟨h1, h2⟩ := ih (i + 1) (by omega)
   refine ⟨fun hm => h1 (hm.imp_left fun hm => (List.mem_cons.mp hm).resolve_left (fun e => he e.symm)), fun hn => h2 fun hm => hn (hm.imp_left (List.mem_cons_of_mem _))⟩
theorem kind_lex (s : ByteArray) : (inTab s → ∃ r, lex_kind s = some r ∧ 10 ≤ r) ∧ (¬ inTab s → lex_kind s = some 0) := by
 have := kind_words s 41 0 rfl
 simpa [inTab, lex_kind] using this
def refTail (w : ByteArray) : Option Int :=
 if w = (⟨#[]⟩ : ByteArray) then some (-1) else (r2_runEnd w 0) >>= fun t33 => (if t33 = (w.size : Int) then (sidx w 0) >>= fun t39 => (r2_letter t39) >>= fun t40 => (if t40 = true then (if (w.size : Int) > 32 then some (-1) else some 1) else (r2_Number w) >>= fun t46 => (if t46.2 = 0 then some 2 else some (-1))) else some (-1))
theorem ref_signs (s : ByteArray) : ∀ (k i : Nat), i + k = 18 → (s ∈ lex_signs_tab.drop i → ∃ r, r2_KindOf_L2 s i = some r ∧ 10 ≤ r) ∧ (¬ s ∈ lex_signs_tab.drop i → r2_KindOf_L2 s i = refTail s) := by
 intro k
 induction k with
 | zero => intro i h; rw [r2_KindOf_L2, if_neg (by omega), List.drop_eq_nil_of_le (by rw [signs_len]; omega)]; exact ⟨fun h => absurd h (by simp), fun _ => rfl⟩
 | succ k ih =>
  intro i h
  have hi : i < lex_signs_tab.length := by rw [signs_len]; omega
  rw [r2_KindOf_L2, if_pos (by omega), signs_eq, idx_at hi, some_bind, List.drop_eq_getElem_cons hi]
  by_cases he : lex_signs_tab[i] = s
  ·rw [if_pos he]; exact ⟨fun _ => ⟨_, rfl, by rw [w64_id (by omega)]; omega⟩, fun hn => absurd (he ▸ List.mem_cons_self) hn⟩
  ·rw [if_neg he, w64_succ (by omega)]
   obtain ⟨h1, h2⟩ := ih (i + 1) (by omega)
   exact ⟨fun hm => h1 ((List.mem_cons.mp hm).resolve_left (fun e => he e.symm)), fun hn => h2 fun hm => hn (List.mem_cons_of_mem _ hm)⟩
theorem ref_words (s : ByteArray) : ∀ (k i : Nat), i + k = 41 → (s ∈ lex_words_tab.drop i ∨ s ∈ lex_signs_tab → ∃ r, r2_KindOf_L1 s i = some r ∧ 10 ≤ r) ∧ (¬ (s ∈ lex_words_tab.drop i ∨ s ∈ lex_signs_tab) → r2_KindOf_L1 s i = refTail s) := by
 intro k
 induction k with
 | zero =>
  intro i h; rw [r2_KindOf_L1, if_neg (by omega), List.drop_eq_nil_of_le (by rw [words_len]; omega)]
  have := ref_signs s 18 0 rfl
  simpa using this
 | succ k ih =>
  intro i h
  have hi : i < lex_words_tab.length := by rw [words_len]; omega
  rw [r2_KindOf_L1, if_pos (by omega), words_eq, idx_at hi, some_bind, List.drop_eq_getElem_cons hi]
  by_cases he : lex_words_tab[i] = s
  ·rw [if_pos he]; exact ⟨fun _ => ⟨_, rfl, by rw [w64_id (by omega)]; omega⟩, fun hn => absurd (.inl (he ▸ List.mem_cons_self)) hn⟩
  ·rw [if_neg he, w64_succ (by omega)]
   obtain ⟨h1, h2⟩ := ih (i + 1) (by omega)
   refine ⟨fun hm => h1 (hm.imp_left fun hm => (List.mem_cons.mp hm).resolve_left (fun e => he e.symm)), fun hn => h2 fun hm => hn (hm.imp_left (List.mem_cons_of_mem _))⟩
theorem kind_ref (s : ByteArray) : (inTab s → ∃ r, r2_KindOf s = some r ∧ 10 ≤ r) ∧ (¬ inTab s → r2_KindOf s = refTail s) := by
 have := ref_words s 41 0 rfl
 simpa [inTab, r2_KindOf] using this
theorem runs (s : ByteArray) (hs : s.size ≤ 1000000000000) : ∀ (k i : Nat), i + k = s.size → E2 (lex_run_L1 s i) (r2_runEnd_L1 s i) := by
 intro k
 induction k with
 | zero => intro i h; rw [lex_run_L1, r2_runEnd_L1, if_neg (by omega), if_neg (by omega)]; exact .rfl'
 | succ k ih =>
  intro i h
  rw [lex_run_L1, r2_runEnd_L1, if_pos (by omega), if_pos (by omega), sidx_at (by omega), some_bind, some_bind, inner_eq]
  obtain ⟨v, hv⟩ := inner_tt ((s[i]'(by omega)).toNat : Int)
  rw [hv, some_bind, some_bind, w64_succ (by omega)]
  exact .ite (fun _ => ih (i + 1) (by omega)) fun _ => .rfl'
theorem kinds (s : ByteArray) (hs : s.size ≤ 1000000000000) : ∃ a b, lex_KindOf s = some a ∧ r2_KindOf s = some b ∧ (a = 1 ↔ b = 1) := by
 obtain ⟨l1, l2⟩ := kind_lex s
 obtain ⟨r1, r2⟩ := kind_ref s
 unfold lex_KindOf
 by_cases ht : inTab s
 ·obtain ⟨a, ha, ha'⟩ := l1 ht
  obtain ⟨b, hb, hb'⟩ := r1 ht
  rw [ha, some_bind, if_neg (by omega)]
  exact ⟨a, b, rfl, hb, by omega⟩
 ·rw [l2 ht, r2 ht, some_bind, if_pos rfl, refTail]
  by_cases h0 : s = ⟨#[]⟩
  ·rw [if_pos h0, if_pos h0]; exact ⟨_, _, rfl, rfl, Iff.rfl⟩
  ·have hp : 0 < s.size := by
    rcases Nat.eq_zero_or_pos s.size with h | h
    ·exact absurd (ByteArray.size_eq_zero_iff.mp h) h0
    ·exact h
   obtain ⟨v, hv⟩ := letter_tt ((s[0]'hp).toNat : Int)
   obtain ⟨q, hq1, hq2⟩ := runs s hs s.size 0 (by omega)
   obtain ⟨n1, hn1⟩ := number_lex s hs
   obtain ⟨n2, hn2⟩ := number_ref s hs
   have hq1' : lex_run s = some q := hq1
   have hq2' : r2_runEnd s 0 = some q := hq2
   have hsx : sidx s 0 = some ((s[0]'hp).toNat : Int) := sidx_at hp
   rw [if_neg h0, if_neg h0, hsx, some_bind, some_bind, hv, some_bind, hq1', hq2', some_bind, some_bind, letter_eq, hv, some_bind, lex_KindOf_k1, hn1, hn2, some_bind, some_bind]
   have e1 : ∀ x : Option Int, x = some 2 ∨ x = some (-1) → ∃ a, x = some a ∧ a ≠ 1 := fun x hx => by rcases hx with h | h <;> exact ⟨_, h, by omega⟩
   obtain ⟨a, ha, ha'⟩ := e1 (if n1.2 = 0 then some 2 else some (-1)) (by split <;> simp)
   obtain ⟨b, hb, hb'⟩ := e1 (if n2.2 = 0 then some 2 else some (-1)) (by split <;> simp)
   rw [ha, hb]
   have go : ∀ x y : Int, (x = 1 ↔ y = 1) → ∃ a b, some x = some a ∧ some y = some b ∧ (a = 1 ↔ b = 1) := fun x y h => ⟨x, y, rfl, rfl, h⟩
   by_cases hlv : v = true
   ·by_cases h32 : (s.size : Int) ≤ 32
    ·by_cases hqs : q = s.size
     ·rw [if_pos hlv, if_pos hlv, if_pos h32, if_pos hqs, if_pos hqs, if_neg (by omega)]; exact go _ _ Iff.rfl
     ·rw [if_pos hlv, if_pos hlv, if_pos h32, if_neg hqs, if_neg hqs]; exact go _ _ (by omega)
    ·by_cases hqs : q = s.size
     ·rw [if_pos hlv, if_pos hlv, if_neg h32, if_pos hqs, if_pos (by omega)]; exact go _ _ (by omega)
     ·rw [if_pos hlv, if_pos hlv, if_neg h32, if_neg hqs]; exact go _ _ (by omega)
   ·by_cases hqs : q = s.size
    ·rw [if_neg hlv, if_neg hlv, if_pos hqs]; exact go _ _ (by omega)
    ·rw [if_neg hlv, if_neg hqs]; exact go _ _ (by omega)
end Go.Proofs.YtdcpfmjnkcodiaaDoor.We
