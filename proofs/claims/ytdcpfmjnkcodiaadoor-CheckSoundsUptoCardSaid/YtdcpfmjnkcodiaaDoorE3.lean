/- Names: all unlike, and each a name. -/
import Derived.Test.YtdcpfmjnkcodiaaDoorE2
namespace Go.Proofs.YtdcpfmjnkcodiaaDoor.We
open Go Go.Jv
theorem app_loop {α β γ : Type} (xs : List α) (f : α → β) (F : List β → Int → γ) (B : Nat) (hstep : ∀ acc (i : Nat) (h : i < xs.length), acc.length + 1 ≤ B → F acc (i : Int) = F (acc ++ [f xs[i]]) ((i + 1 : Nat) : Int)) :
  ∀ (k i : Nat) (acc : List β), i + k = xs.length → acc.length + k ≤ B → F acc (i : Int) = F (acc ++ (xs.drop i).map f) (xs.length : Int) := by
 intro k
 induction k with
 | zero => intro i acc h _; have : i = xs.length := by omega
           subst this; simp
 | succ k ih =>
  intro i acc h hb
  have hi : i < xs.length := by omega
  rw [hstep acc i hi (by omega), ih (i + 1) _ (by omega) (by simp; omega), List.drop_eq_getElem_cons hi, List.map_cons, List.append_assoc, List.singleton_append]
theorem map_nth {α β : Type} {f : α → β} {l : List α} : (l.drop 0).map f = l.map f := by simp
def names (t : TypedT) : List ByteArray := t.Timers ++ t.Counters ++ t.Tables.Groups.map (·.Name) ++ t.Dets.map (·.Name) ++ t.Vars.map (·.Name) ++ t.Stages.map (·.Name)
def names' (t : TypedT) : List ByteArray := t.Tables.Groups.map (·.Name) ++ t.Dets.map (·.Name) ++ t.Timers ++ t.Counters ++ t.Vars.map (·.Name) ++ t.Stages.map (·.Name)
theorem names_perm (t : TypedT) : (names t).Perm (names' t) := by
 unfold names names'
 refine List.Perm.append_right _ (List.Perm.append_right _ ?_)
 have := @List.perm_append_comm _ (t.Timers ++ t.Counters) (t.Tables.Groups.map (·.Name) ++ t.Dets.map (·.Name))
 simpa only [List.append_assoc] using this
structure okN (t : TypedT) : Prop where
 g : t.Tables.Groups.length ≤ 2000000
 c : t.Tables.Conflicts.length ≤ 2000000
 d : t.Dets.length ≤ 2000000
 ti : t.Timers.length ≤ 2000000
 co : t.Counters.length ≤ 2000000
 v : t.Vars.length ≤ 2000000
 s : t.Stages.length ≤ 2000000
theorem things_check (t : TypedT) (h : okN t) : c_things t = some (names t, t) := by
 obtain ⟨hg, hc, hd, hti, hco, hv, hs⟩ := h
 unfold c_things
 rw [app_ok (by simp; omega), some_bind, app_ok (by simp; omega), some_bind, List.nil_append]
 rw [show (0 : Int) = ((0 : Nat) : Int) from rfl]
 rw [app_loop t.Tables.Groups (·.Name) (fun acc i => c_things_L1 t acc t.Tables.Groups t.Tables.Groups.length i) 100000000 (fun acc i hi hb => by
  show c_things_L1 _ _ _ _ _ = _
  rw [c_things_L1, if_pos (by omega), idx_at hi, some_bind, app_ok (by simp; omega), some_bind, w64_succ (by omega)]) t.Tables.Groups.length 0 _ (by omega) (by simp; omega), map_nth]
 rw [c_things_L1, if_neg (by omega), show (0 : Int) = ((0 : Nat) : Int) from rfl]
 rw [app_loop t.Dets (·.Name) (fun acc i => c_things_L2 t acc t.Dets t.Dets.length i) 100000000 (fun acc i hi hb => by
  show c_things_L2 _ _ _ _ _ = _
  rw [c_things_L2, if_pos (by omega), idx_at hi, some_bind, app_ok (by simp; omega), some_bind, w64_succ (by omega)]) t.Dets.length 0 _ (by omega) (by simp; omega), map_nth]
 rw [c_things_L2, if_neg (by omega), show (0 : Int) = ((0 : Nat) : Int) from rfl]
 rw [app_loop t.Vars (·.Name) (fun acc i => c_things_L3 t acc t.Vars t.Vars.length i) 100000000 (fun acc i hi hb => by
  show c_things_L3 _ _ _ _ _ = _
  rw [c_things_L3, if_pos (by omega), idx_at hi, some_bind, app_ok (by simp; omega), some_bind, w64_succ (by omega)]) t.Vars.length 0 _ (by omega) (by simp; omega), map_nth]
 rw [c_things_L3, if_neg (by omega), show (0 : Int) = ((0 : Nat) : Int) from rfl]
 rw [app_loop t.Stages (·.Name) (fun acc i => c_things_L4 acc t.Stages t.Stages.length i t) 100000000 (fun acc i hi hb => by
  show c_things_L4 _ _ _ _ _ = _
  rw [c_things_L4, if_pos (by omega), idx_at hi, some_bind, app_ok (by simp; omega), some_bind, w64_succ (by omega)]) t.Stages.length 0 _ (by omega) (by simp; omega), map_nth]
 rw [c_things_L4, if_neg (by omega)]
 rfl
theorem things_ref (t : TypedT) (h : okN t) : r5_things t = some (names' t) := by
 obtain ⟨hg, hc, hd, hti, hco, hv, hs⟩ := h
 unfold r5_things
 rw [show (0 : Int) = ((0 : Nat) : Int) from rfl]
 rw [app_loop t.Tables.Groups (·.Name) (fun acc i => r5_things_L1 t acc i) 100000000 (fun acc i hi hb => by
  show r5_things_L1 _ _ _ = _
  rw [r5_things_L1, if_pos (by omega), idx_at hi, some_bind, app_ok (by simp; omega), some_bind, w64_succ (by omega)]) t.Tables.Groups.length 0 _ (by omega) (by simp; omega), map_nth]
 rw [r5_things_L1, if_neg (by omega), show (0 : Int) = ((0 : Nat) : Int) from rfl]
 rw [app_loop t.Dets (·.Name) (fun acc i => r5_things_L2 t acc i) 100000000 (fun acc i hi hb => by
  show r5_things_L2 _ _ _ = _
  rw [r5_things_L2, if_pos (by omega), idx_at hi, some_bind, app_ok (by simp; omega), some_bind, w64_succ (by omega)]) t.Dets.length 0 _ (by omega) (by simp; omega), map_nth]
 rw [r5_things_L2, if_neg (by omega), app_ok (by simp; omega), some_bind, app_ok (by simp; omega), some_bind, show (0 : Int) = ((0 : Nat) : Int) from rfl]
 rw [app_loop t.Vars (·.Name) (fun acc i => r5_things_L3 t acc i) 100000000 (fun acc i hi hb => by
  show r5_things_L3 _ _ _ = _
  rw [r5_things_L3, if_pos (by omega), idx_at hi, some_bind, app_ok (by simp; omega), some_bind, w64_succ (by omega)]) t.Vars.length 0 _ (by omega) (by simp; omega), map_nth]
 rw [r5_things_L3, if_neg (by omega), show (0 : Int) = ((0 : Nat) : Int) from rfl]
 rw [app_loop t.Stages (·.Name) (fun acc i => r5_things_L4 t acc i) 100000000 (fun acc i hi hb => by
  show r5_things_L4 _ _ _ = _
  rw [r5_things_L4, if_pos (by omega), idx_at hi, some_bind, app_ok (by simp; omega), some_bind, w64_succ (by omega)]) t.Stages.length 0 _ (by omega) (by simp; omega), map_nth]
 rw [r5_things_L4, if_neg (by omega)]
 rfl
def isName (s : ByteArray) : Bool := decide (lex_KindOf s = some 1)
theorem name_check {s : ByteArray} (hs : s.size ≤ 1000000000000) : ∃ a, lex_KindOf s = some a ∧ (a = 1 ↔ isName s = true) := by
 obtain ⟨a, b, h1, h2, h3⟩ := kinds s hs
 exact ⟨a, h1, by simp [isName, h1]⟩
theorem name_ref {s : ByteArray} (hs : s.size ≤ 1000000000000) : ∃ a, r2_KindOf s = some a ∧ (a = 1 ↔ isName s = true) := by
 obtain ⟨a, b, h1, h2, h3⟩ := kinds s hs
 exact ⟨b, h2, by simp [isName, h1, ← h3]⟩
theorem mget_in {ν : Type} (k : ByteArray) (l : List (ByteArray × ν)) : (mget l k).isSome = true ↔ k ∈ l.map (·.1) := by
 have : ∀ (l : List (ByteArray × ν)) i, (mfind k l i).isSome = true ↔ k ∈ l.map (·.1) := by
  intro l
  induction l with
  | nil => intro i; simp [mfind]
  | cons p l ih =>
   intro i
   obtain ⟨q, v⟩ := p
   rw [mfind]
   by_cases h : k = q
   ·simp [h]
   ·simp only [if_neg h, List.map_cons, List.mem_cons, h, false_or]; exact ih _
 rw [mget, Option.isSome_map]; exact this l 0
theorem mput_new {ν : Type} (k : ByteArray) (v : ν) (l : List (ByteArray × ν)) (h : ¬ k ∈ l.map (·.1)) : (mput l k v).map (·.1) = l.map (·.1) ++ [k] := by
 have : mfind k l 0 = none := by
  cases hm : mfind k l 0 with
  | none => rfl
  | some p => exact absurd ((mget_in k l).mp (by rw [mget, hm]; rfl)) h
 rw [mput, this]; simp
noncomputable instance decMem (x : ByteArray) (l : List ByteArray) : Decidable (x ∈ l) := Classical.propDecidable _
noncomputable def unl : List ByteArray → List ByteArray → Bool
 | _, [] => true
 | pre, x :: l => isName x && !decide (x ∈ pre) && unl (pre ++ [x]) l
theorem bdec {p : Prop} [Decidable p] {b : Bool} (h : p ↔ b = true) : decide p = b := by cases b <;> simp_all
theorem named_loop (t : TypedT) (l : List ByteArray) (hl : l.length ≤ 100000000) (hs : ∀ x, x ∈ l → x.size ≤ 1000000000000) (hn : t.Name.size ≤ 1000000000000) :
  ∀ (k i : Nat) (seen : List (ByteArray × Int)), i + k = l.length → seen.map (·.1) = l.take i → c_named_L1 t seen l l.length i = some (unl (l.take i) (l.drop i) && isName t.Name, t) := by
 intro k
 induction k with
 | zero =>
  intro i seen h _
  obtain ⟨a, h1, h2⟩ := name_check hn
  rw [c_named_L1_eq, if_neg (by omega), List.drop_eq_nil_of_le (by omega), h1, some_bind, unl, Bool.true_and]
  rw [bdec h2]
 | succ k ih =>
  intro i seen h he
  have hi : i < l.length := by omega
  obtain ⟨a, h1, h2⟩ := name_check (hs _ (List.getElem_mem hi))
  rw [c_named_L1_eq, if_pos (by omega), idx_at hi, some_bind, List.drop_eq_getElem_cons hi, unl, c_named_k2_eq, c_named_k2_eq]
  by_cases hm : (mget seen l[i]).isSome = true
  ·have hm' := (mget_in _ _).mp hm
   rw [he] at hm'
   rw [if_pos hm, if_pos rfl]
   simp [hm']
  ·have hm' : ¬ l[i] ∈ seen.map (·.1) := fun h => hm ((mget_in _ _).mpr h)
   have e2 := mput_new l[i] (i : Int) seen hm'
   rw [he] at hm'
   rw [if_neg hm, if_neg (by simp), h1, some_bind]
   by_cases ha : a = 1
   ·rw [if_pos ha, w64_succ (by omega), ih (i + 1) _ (by omega) (by rw [e2, he, List.take_succ_eq_append_getElem hi])]
    rw [List.take_succ_eq_append_getElem hi]
    simp [h2.mp ha, hm']
   ·rw [if_neg ha, Bool.eq_false_iff.mpr (fun hx => ha (h2.mpr hx))]
    simp
theorem unlike_loop (l : List ByteArray) (hl : l.length ≤ 100000000) (hs : ∀ x, x ∈ l → x.size ≤ 1000000000000) :
  ∀ (k i : Nat), i + k = l.length → r5_unlike_L1 l i = some (unl (l.take i) (l.drop i)) := by
 intro k
 induction k with
 | zero => intro i h; rw [r5_unlike_L1_eq, if_neg (by omega), List.drop_eq_nil_of_le (by omega), unl]
 | succ k ih =>
  intro i h
  have hi : i < l.length := by omega
  obtain ⟨a, h1, h2⟩ := name_ref (hs _ (List.getElem_mem hi))
  have inner : ∀ (m j : Nat), j + m = i → r5_unlike_L2 l i j = if l[i] ∈ (l.take i).drop j then some false else r5_unlike_L1 l ((i + 1 : Nat) : Int) := by
   intro m
   induction m with
   | zero => intro j hj; rw [r5_unlike_L2_eq, if_neg (by omega), List.drop_eq_nil_of_le (by simp; omega), if_neg (by simp), w64_succ (by omega)]
   | succ m ihm =>
    intro j hj
    have hj' : j < (l.take i).length := by simp; omega
    rw [r5_unlike_L2_eq, if_pos (by omega), idx_at hi, some_bind, idx_at (by omega), some_bind, List.drop_eq_getElem_cons hj', List.getElem_take]
    by_cases he : l[i] = l[j]
    ·rw [if_pos he, if_pos (by rw [he]; exact List.mem_cons_self)]
    ·rw [if_neg he, w64_succ (by omega), ihm (j + 1) (by omega)]
     simp only [List.mem_cons, he, false_or]
  rw [r5_unlike_L1_eq, if_pos (by omega), idx_at hi, some_bind, h1, some_bind, List.drop_eq_getElem_cons hi, unl]
  by_cases ha : a = 1
  ·rw [if_pos ha, show (0 : Int) = ((0 : Nat) : Int) from rfl, inner i 0 (by omega), List.drop_zero, h2.mp ha, Bool.true_and]
   by_cases hm : l[i] ∈ l.take i
   ·rw [if_pos hm]; simp [hm]
   ·rw [if_neg hm, ih (i + 1) (by omega), List.take_succ_eq_append_getElem hi]; simp [hm]
  ·rw [if_neg ha, Bool.eq_false_iff.mpr (fun hx => ha (h2.mpr hx))]
   simp
theorem unl_iff : ∀ (l pre : List ByteArray), unl pre l = true ↔ (∀ x, x ∈ l → isName x = true ∧ ¬ x ∈ pre) ∧ l.Nodup := by
 intro l
 induction l with
 | nil => intro pre; simp [unl]
 | cons x l ih =>
  intro pre
  simp only [unl, Bool.and_eq_true, ih, Bool.not_eq_true', decide_eq_false_iff_not, List.nodup_cons, List.mem_cons, List.mem_append, List.mem_singleton, not_or]
  constructor
  ·rintro ⟨⟨h1, h2⟩, h3, h4⟩
   exact ⟨fun y hy => by rcases hy with rfl | hy; exact ⟨h1, h2⟩; exact ⟨(h3 y hy).1, (h3 y hy).2.1⟩, fun hx => (h3 x hx).2.2.1 rfl, h4⟩
  ·rintro ⟨h1, h2, h3⟩
   exact ⟨h1 x (.inl rfl), fun y hy => ⟨(h1 y (.inr hy)).1, (h1 y (.inr hy)).2, fun e => h2 (e ▸ hy), List.not_mem_nil⟩, h3⟩
theorem unl_perm {l l' : List ByteArray} (h : l.Perm l') : unl [] l = unl [] l' := by
 rw [Bool.eq_iff_iff, unl_iff, unl_iff, h.nodup_iff]
 simp only [h.mem_iff]
def okW (t : TypedT) : Prop := t.Name.size ≤ 1000000000000 ∧ ∀ x, x ∈ names t → x.size ≤ 1000000000000
theorem names_len (t : TypedT) (h : okN t) : (names t).length ≤ 100000000 := by
 obtain ⟨hg, hc, hd, hti, hco, hv, hs⟩ := h
 simp [names]; omega
theorem named_check (t : TypedT) (h : okN t) (hw : okW t) : c_named t = some (unl [] (names t) && isName t.Name, t) := by
 unfold c_named
 rw [things_check t h, some_bind]
 exact named_loop t (names t) (names_len t h) hw.2 hw.1 (names t).length 0 [] (by omega) rfl
theorem unlike_names (t : TypedT) (h : okN t) (hw : okW t) : r5_unlike (names' t) = some (unl [] (names t)) := by
 rw [unl_perm (names_perm t)]
 exact unlike_loop (names' t) (by rw [← (names_perm t).length_eq]; exact names_len t h) (fun x hx => hw.2 x ((names_perm t).mem_iff.mpr hx)) (names' t).length 0 (by omega)
theorem unlike_one (t : TypedT) (hw : okW t) : r5_unlike [t.Name] = some (isName t.Name) := by
 have := unlike_loop [t.Name] (by simp) (fun x hx => by rw [List.mem_singleton.mp hx]; exact hw.1) 1 0 rfl
 simpa [unl, r5_unlike] using this
end Go.Proofs.YtdcpfmjnkcodiaaDoor.We
namespace Go.Proofs.YtdcpfmjnkcodiaaDoor.We
open Go Go.Jv
def lst (t : TypedT) (l : List StmtT) : Bool := (r5_SoundList t l).getD false
theorem lst_ref {t : TypedT} {l : List StmtT} (h : okL l) : r5_SoundList t l = some (lst t l) := by
 obtain ⟨v, _, h2⟩ := lists t l h; rw [lst, h2]; rfl
theorem lst_check {t : TypedT} {l : List StmtT} (h : okL l) : c_soundList t l = some (lst t l, t) := by
 obtain ⟨v, h1, h2⟩ := lists t l h; rw [lst, h2, h1]; rfl
structure okG (s : TStageT) : Prop where
 e : okL s.Enter
 d : okL s.During
 l : okL s.Leave
 n : s.Nexts.length ≤ 2000000
 w : ∀ i (h : i < s.Nexts.length), okE (s.Nexts[i]).When
def okP (t : TypedT) : Prop := ∀ i (h : i < t.Stages.length), okG (t.Stages[i])
def nextOk (t : TypedT) (i : Int) (x : TNextT) : Bool := decide (0 ≤ x.To) && decide (x.To < t.Stages.length) && decide (x.To ≠ i) && sx t x.When 2
def green (t : TypedT) (s : TStageT) : Bool := if (t.Tables.Groups.length : Int) < 64 then decide (shrI .u64 s.Green (t.Tables.Groups.length : Int) = some 0) else true
def after (t : TypedT) (i : Nat) (s : TStageT) : Bool := if i = 0 then true else decide ((t.Stages.getD (i - 1) default).Id < s.Id)
def stOk (t : TypedT) (i : Nat) (s : TStageT) : Bool :=
 decide (0 ≤ s.Id ∧ s.Id ≤ 255) && after t i s && green t s && lst t s.Enter && lst t s.During && lst t s.Leave && s.Nexts.all (nextOk t i)
theorem nexts_check (t : TypedT) (i : Int) (ht : t.Stages.length ≤ 2000000) (l : List TNextT) (hl : l.length ≤ 2000000) (hw : ∀ i (h : i < l.length), okE (l[i]).When) :
  ∀ (k j : Nat), j + k = l.length → c_soundStage_L3 t i l l.length j = some ((l.drop j).all (nextOk t i), t) := by
 intro k
 induction k with
 | zero => intro j h; rw [c_soundStage_L3, if_neg (by omega), List.drop_eq_nil_of_le (by omega)]; rfl
 | succ k ih =>
  intro j h
  have hj : j < l.length := by omega
  rw [c_soundStage_L3, if_pos (by omega), idx_at hj, some_bind, in_eq, some_bind, List.drop_eq_getElem_cons hj, List.all_cons, nextOk, w64_id (n := (t.Stages.length : Int) - 1) (by omega), sx_check (hw j hj), some_bind, w64_succ (by omega), ih (j + 1) (by omega)]
  by_cases h1 : 0 ≤ (l[j]).To
  case neg => rw [if_neg (by simp; omega)]; simp [h1]
  by_cases h2 : (l[j]).To < t.Stages.length
  case neg => rw [if_neg (by simp; omega)]; simp [h2]
  rw [if_pos (by simp; omega)]
  by_cases h3 : (l[j]).To = i
  ·rw [if_pos h3]; simp [h3]
  rw [if_neg h3]
  cases sx t (l[j]).When 2 <;> simp [h1, h2, h3]
theorem shr_tt (k : IntKind) (a : Int) (n : Nat) : ∃ v, shrI k a (n : Int) = some v := by rw [shrI, if_neg (by omega)]; exact ⟨_, rfl⟩
theorem stage_check (t : TypedT) (h : okN t) (hp : okP t) (i : Nat) (hi : i < t.Stages.length) : c_soundStage t i = some (stOk t i t.Stages[i], t) := by
 have hg := hp i hi
 have hs := h.s
 unfold c_soundStage
 rw [idx_at hi, some_bind, in_eq, some_bind]
 generalize hse : t.Stages[i] = s at *
 have k2 : c_soundStage_k2 t i s = some (lst t s.Enter && lst t s.During && lst t s.Leave && s.Nexts.all (nextOk t i), t) := by
  unfold c_soundStage_k2
  rw [lst_check hg.e, some_bind]
  cases lst t s.Enter
  ·simp
  rw [if_neg (by simp), lst_check hg.d, some_bind]
  cases lst t s.During
  ·simp
  rw [if_neg (by simp), lst_check hg.l, some_bind]
  cases lst t s.Leave
  ·simp
  rw [if_neg (by simp)]
  have := nexts_check t i hs s.Nexts hg.n hg.w s.Nexts.length 0 (by omega)
  rw [show ((0 : Nat) : Int) = 0 from rfl] at this
  rw [this]; simp
 have k1 : c_soundStage_k1 t i s = some (green t s && (lst t s.Enter && lst t s.During && lst t s.Leave && s.Nexts.all (nextOk t i)), t) := by
  unfold c_soundStage_k1 green
  by_cases h64 : (t.Tables.Groups.length : Int) < 64
  ·obtain ⟨v, hv⟩ := shr_tt .u64 s.Green t.Tables.Groups.length
   rw [if_pos h64, if_pos h64, hv, some_bind, k2]
   by_cases hv0 : v = 0 <;> simp [hv0]
  ·rw [if_neg h64, if_neg h64, k2]; simp
 unfold stOk
 by_cases hid : 0 ≤ s.Id ∧ s.Id ≤ 255
 case neg => rw [if_neg (by simpa using hid)]; simp [hid]
 rw [if_pos (by simpa using hid)]
 by_cases h0 : i = 0
 ·rw [if_neg (by omega), k1, after, if_pos h0]; simp [hid, Bool.and_assoc]
 ·rw [if_pos (by omega), w64_id (by omega), show (i : Int) - 1 = ((i - 1 : Nat) : Int) by omega, idx_at (by omega), some_bind, after, if_neg h0]
  have e : t.Stages.getD (i - 1) default = t.Stages[i - 1]'(by omega) := by simp [List.getD, List.getElem?_eq_getElem (show i - 1 < t.Stages.length by omega)]
  rw [e]
  by_cases hlt : s.Id ≤ (t.Stages[i - 1]'(by omega)).Id
  ·rw [if_pos hlt]; simp [show ¬ (t.Stages[i - 1]'(by omega)).Id < s.Id by omega]
  ·rw [if_neg hlt, k1]; simp [hid, show (t.Stages[i - 1]'(by omega)).Id < s.Id by omega, Bool.and_assoc]
def nodesS : List StmtT → Int
 | [] => 0
 | s :: l => s.Expr.length + nodesS l
def nodesN : List TNextT → Int
 | [] => 0
 | s :: l => s.When.length + nodesN l
theorem nodesS_le : ∀ (l : List StmtT), (∀ i (h : i < l.length), okE (l[i]).Expr) → 0 ≤ nodesS l ∧ nodesS l ≤ l.length * 2000000
 | [], _ => by simp [nodesS]
 | s :: l, h => by
  have h0 := (h 0 (by simp)).1
  have := nodesS_le l fun i hi => h (i + 1) (by simpa using hi)
  simp only [List.getElem_cons_zero] at h0
  simp only [nodesS, List.length_cons]; omega
theorem nodesN_le : ∀ (l : List TNextT), (∀ i (h : i < l.length), okE (l[i]).When) → 0 ≤ nodesN l ∧ nodesN l ≤ l.length * 2000000
 | [], _ => by simp [nodesN]
 | s :: l, h => by
  have h0 := (h 0 (by simp)).1
  have := nodesN_le l fun i hi => h (i + 1) (by simpa using hi)
  simp only [List.getElem_cons_zero] at h0
  simp only [nodesN, List.length_cons]; omega
theorem nodes_ref (l : List StmtT) (hl : okL l) : r5_nodes l = some (nodesS l) := by
 have h1 := hl.1
 have go : ∀ (k j : Nat) (n : Int), j + k = l.length → 0 ≤ n → n + k * 2000000 ≤ 9000000000000000000 → r5_nodes_L1 l n j = some (n + nodesS (l.drop j)) := by
  intro k
  induction k with
  | zero => intro j n h _ _; rw [r5_nodes_L1, if_neg (by omega), List.drop_eq_nil_of_le (by omega)]; simp [nodesS]
  | succ k ih =>
   intro j n h hn hb
   have hj : j < l.length := by omega
   have he := (hl.2 j hj).1
   rw [r5_nodes_L1, if_pos (by omega), idx_at hj, some_bind, w64_succ (by omega), w64_id (by omega), ih (j + 1) _ (by omega) (by omega) (by omega), List.drop_eq_getElem_cons hj, nodesS, Int.add_assoc]
 have := go l.length 0 0 (by omega) (by omega) (by omega)
 simpa [r5_nodes] using this
def nS (s : TStageT) : Int := s.Enter.length + s.During.length + s.Leave.length
def nT (s : TStageT) : Int := nodesS s.Enter + nodesS s.During + nodesS s.Leave + nodesN s.Nexts
theorem nodes_check (s : TStageT) (h : okG s) : c_nodes s = some (nT s) := by
 obtain ⟨he, hd, hl, hn, hw⟩ := h
 have in2 : ∀ (A : A3 (List StmtT)) (q : Nat), q < 3 → ∀ (l : List StmtT), okL l → ∀ (k j : Nat) (n : Int), j + k = l.length → 0 ≤ n → n + k * 2000000 ≤ 9000000000000000000 →
   c_nodes_L2 s n A q l l.length j = c_nodes_L1 s (n + nodesS (l.drop j)) A ((q + 1 : Nat) : Int) := by
  intro A q hq l hl k
  have h1 := hl.1
  induction k with
  | zero => intro j n h _ _; rw [c_nodes_L2_eq, if_neg (by omega), List.drop_eq_nil_of_le (by omega), w64_succ (by omega)]; simp [nodesS]
  | succ k ih =>
   intro j n h hn hb
   have hj : j < l.length := by omega
   have he := (hl.2 j hj).1
   rw [c_nodes_L2_eq, if_pos (by omega), idx_at hj, some_bind, w64_succ (by omega), w64_id (by omega), ih (j + 1) _ (by omega) (by omega) (by omega), List.drop_eq_getElem_cons hj, nodesS, Int.add_assoc]
 have in3 : ∀ (k j : Nat) (n : Int), j + k = s.Nexts.length → 0 ≤ n → n + k * 2000000 ≤ 9000000000000000000 → c_nodes_L3 n s.Nexts s.Nexts.length j = some (n + nodesN (s.Nexts.drop j)) := by
  intro k
  induction k with
  | zero => intro j n h _ _; rw [c_nodes_L3, if_neg (by omega), List.drop_eq_nil_of_le (by omega)]; simp [nodesN]
  | succ k ih =>
   intro j n h hn hb
   have hj : j < s.Nexts.length := by omega
   have he := (hw j hj).1
   rw [c_nodes_L3, if_pos (by omega), idx_at hj, some_bind, w64_succ (by omega), w64_id (by omega), ih (j + 1) _ (by omega) (by omega) (by omega), List.drop_eq_getElem_cons hj, nodesN, Int.add_assoc]
 have e1 := nodesS_le s.Enter he.2
 have e2 := nodesS_le s.During hd.2
 have e3 := nodesS_le s.Leave hl.2
 have l1 := he.1
 have l2 := hd.1
 have l3 := hl.1
 unfold c_nodes
 have s0 := in2 ⟨s.Enter, s.During, s.Leave⟩ 0 (by omega) s.Enter he s.Enter.length 0 0 (by omega) (by omega) (by omega)
 have s1 := in2 ⟨s.Enter, s.During, s.Leave⟩ 1 (by omega) s.During hd s.During.length 0 (0 + nodesS s.Enter) (by omega) (by omega) (by omega)
 have s2 := in2 ⟨s.Enter, s.During, s.Leave⟩ 2 (by omega) s.Leave hl s.Leave.length 0 (0 + nodesS s.Enter + nodesS s.During) (by omega) (by omega) (by omega)
 have s3 := in3 s.Nexts.length 0 (0 + nodesS s.Enter + nodesS s.During + nodesS s.Leave) (by omega) (by omega) (by omega)
 simp only [List.drop_zero, show ((0 : Nat) : Int) = 0 from rfl, show ((0 + 1 : Nat) : Int) = 1 from rfl, show ((1 + 1 : Nat) : Int) = 2 from rfl, show ((2 + 1 : Nat) : Int) = 3 from rfl, show ((1 : Nat) : Int) = 1 from rfl, show ((2 : Nat) : Int) = 2 from rfl] at s0 s1 s2 s3
 rw [c_nodes_L1_eq, if_pos (by omega)]
 show c_nodes_L2 _ _ _ _ _ _ _ = _
 rw [s0, c_nodes_L1_eq, if_pos (by omega)]
 show c_nodes_L2 _ _ _ _ _ _ _ = _
 rw [s1, c_nodes_L1_eq, if_pos (by omega)]
 show c_nodes_L2 _ _ _ _ _ _ _ = _
 rw [s2, c_nodes_L1_eq, if_neg (by omega), s3, nT, Int.zero_add]
theorem nT_le {s : TStageT} (h : okG s) : 0 ≤ nT s ∧ nT s ≤ 16000000000000 ∧ 0 ≤ nS s ∧ nS s ≤ 6000000 := by
 obtain ⟨he, hd, hl, hn, hw⟩ := h
 have e1 := nodesS_le s.Enter he.2
 have e2 := nodesS_le s.During hd.2
 have e3 := nodesS_le s.Leave hl.2
 have e4 := nodesN_le s.Nexts hw
 have l1 := he.1
 have l2 := hd.1
 have l3 := hl.1
 unfold nT nS
 omega
theorem stage_ref (t : TypedT) (h : okN t) (hp : okP t) (i : Nat) (hi : i < t.Stages.length) (a b c : Int) (ha : 0 ≤ a ∧ a ≤ 1000000000000) (hb : 0 ≤ b ∧ b ≤ 1000000000000) (hc : 0 ≤ c ∧ c ≤ 1000000000000000000) :
  r5_stages_L1 t a b c i = if stOk t i t.Stages[i] = true then r5_stages_L1 t (a + nS t.Stages[i]) (b + t.Stages[i].Nexts.length) (c + nT t.Stages[i]) ((i + 1 : Nat) : Int) else some false := by
 have hg := hp i hi
 have hs := h.s
 have hn := hg.n
 rw [r5_stages_L1_eq, if_pos (by omega), idx_at hi, some_bind, within_eq, some_bind]
 generalize hse : t.Stages[i] = s at *
 have k4 : ∀ (a b : Int) (k j : Nat) (c : Int), j + k = s.Nexts.length → 0 ≤ c → c + k * 2000000 ≤ 9000000000000000000 → r5_stages_L4 t a b c i s j =
   if (s.Nexts.drop j).all (nextOk t i) = true then r5_stages_L1 t a b (c + nodesN (s.Nexts.drop j)) ((i + 1 : Nat) : Int) else some false := by
  intro a b k
  induction k with
  | zero => intro j c h _ _; rw [r5_stages_L4_eq, if_neg (by omega), List.drop_eq_nil_of_le (by omega), w64_succ (by omega)]; simp [nodesN]
  | succ k ih =>
   intro j c h hc hb
   have hj : j < s.Nexts.length := by omega
   have he := (hg.w j hj).1
   rw [r5_stages_L4_eq, if_pos (by omega), idx_at hj, some_bind, sx_ref (hg.w j hj), some_bind, w64_succ (by omega), w64_id (by omega), ih (j + 1) _ (by omega) (by omega) (by omega), List.drop_eq_getElem_cons hj, nodesN, Int.add_assoc, List.all_cons, nextOk]
   by_cases h1 : (s.Nexts[j]).To < 0
   ·rw [if_pos h1]; simp [show ¬ 0 ≤ (s.Nexts[j]).To by omega]
   rw [if_neg h1]
   by_cases h2 : (s.Nexts[j]).To ≥ t.Stages.length
   ·rw [if_pos h2]; simp [show ¬ (s.Nexts[j]).To < t.Stages.length by omega]
   rw [if_neg h2]
   by_cases h3 : (s.Nexts[j]).To = i
   ·rw [if_pos h3]; simp [h3]
   rw [if_neg h3]
   cases sx t (s.Nexts[j]).When 2 <;> simp [h3, show 0 ≤ (s.Nexts[j]).To by omega, show (s.Nexts[j]).To < t.Stages.length by omega]
 have e1 := nodesS_le s.Enter hg.e.2
 have e2 := nodesS_le s.During hg.d.2
 have e3 := nodesS_le s.Leave hg.l.2
 have l1 := hg.e.1
 have l2 := hg.d.1
 have l3 := hg.l.1
 have l4 := hg.n
 have k3 : r5_stages_k3 t a b c i s = if (lst t s.Enter && lst t s.During && lst t s.Leave && s.Nexts.all (nextOk t i)) = true then r5_stages_L1 t (a + nS s) (b + s.Nexts.length) (c + nT s) ((i + 1 : Nat) : Int) else some false := by
  rw [r5_stages_k3_eq, lst_ref hg.e, some_bind]
  cases lst t s.Enter
  ·simp
  rw [if_pos rfl, lst_ref hg.d, some_bind]
  cases lst t s.During
  ·simp
  rw [if_pos rfl, lst_ref hg.l, some_bind]
  cases lst t s.Leave
  ·simp
  rw [if_pos rfl, nodes_ref _ hg.e, nodes_ref _ hg.d, nodes_ref _ hg.l, some_bind, some_bind, some_bind]
  rw [w64_id (n := a + s.Enter.length) (by omega), w64_id (n := a + s.Enter.length + s.During.length) (by omega), w64_id (n := a + s.Enter.length + s.During.length + s.Leave.length) (by omega), w64_id (n := b + s.Nexts.length) (by omega),
   w64_id (n := c + nodesS s.Enter) (by omega), w64_id (n := c + nodesS s.Enter + nodesS s.During) (by omega), w64_id (n := c + nodesS s.Enter + nodesS s.During + nodesS s.Leave) (by omega), show (0 : Int) = ((0 : Nat) : Int) from rfl]
  rw [k4 _ _ s.Nexts.length 0 _ (by omega) (by omega) (by omega), List.drop_zero]
  rw [show a + s.Enter.length + s.During.length + s.Leave.length = a + nS s by unfold nS; omega, show c + nodesS s.Enter + nodesS s.During + nodesS s.Leave + nodesN s.Nexts = c + nT s by unfold nT; omega]
  simp
 have k2 : r5_stages_k2 t a b c i s = if (green t s && (lst t s.Enter && lst t s.During && lst t s.Leave && s.Nexts.all (nextOk t i))) = true then r5_stages_L1 t (a + nS s) (b + s.Nexts.length) (c + nT s) ((i + 1 : Nat) : Int) else some false := by
  rw [r5_stages_k2_eq, green]
  by_cases h64 : (t.Tables.Groups.length : Int) < 64
  ·obtain ⟨v, hv⟩ := shr_tt .u64 s.Green t.Tables.Groups.length
   rw [if_pos h64, if_pos h64, hv, some_bind, k3]
   by_cases hv0 : v = 0 <;> simp [hv0]
  ·rw [if_neg h64, if_neg h64, k3]; simp
 unfold stOk
 by_cases hid : 0 ≤ s.Id ∧ s.Id ≤ 255
 case neg => rw [if_neg (by simpa using hid)]; simp [hid]
 rw [if_pos (by simpa using hid)]
 by_cases h0 : i = 0
 ·rw [if_neg (by omega), k2, after, if_pos h0]; simp [hid, Bool.and_assoc]
 ·rw [if_pos (by omega), w64_id (by omega), show (i : Int) - 1 = ((i - 1 : Nat) : Int) by omega, idx_at (by omega), some_bind, after, if_neg h0]
  have e : t.Stages.getD (i - 1) default = t.Stages[i - 1]'(by omega) := by simp [List.getD, List.getElem?_eq_getElem (show i - 1 < t.Stages.length by omega)]
  rw [e]
  by_cases hlt : s.Id ≤ (t.Stages[i - 1]'(by omega)).Id
  ·rw [if_pos hlt]; simp [show ¬ (t.Stages[i - 1]'(by omega)).Id < s.Id by omega]
  ·rw [if_neg hlt, k2]; simp [hid, show (t.Stages[i - 1]'(by omega)).Id < s.Id by omega, Bool.and_assoc]
theorem over (t : TypedT) (h : okN t) (hp : okP t) (h256 : t.Stages.length ≤ 256) : ∀ (k i : Nat) (a b c : Int), i + k = t.Stages.length → 0 ≤ a ∧ a ≤ i * 6000000 → 0 ≤ b ∧ b ≤ i * 6000000 → 0 ≤ c ∧ c ≤ i * 16000000000000 →
  (4096 < a ∨ 4096 < b ∨ 16384 < c) → r5_stages_L1 t a b c i = some false := by
 intro k
 induction k with
 | zero =>
  intro i a b c hi ha hb hc ho
  rw [r5_stages_L1_eq, if_neg (by omega)]
  by_cases h1 : a ≤ 4096
  ·rw [if_pos h1]
   by_cases h2 : b ≤ 4096
   ·rw [if_pos h2, decide_eq_false (by omega)]
   ·rw [if_neg h2]
  ·rw [if_neg h1]
 | succ k ih =>
  intro i a b c hi ha hb hc ho
  have hi' : i < t.Stages.length := by omega
  have hg := hp i hi'
  have l4 := hg.n
  have := nT_le hg
  rw [stage_ref t h hp i hi' a b c (by omega) (by omega) (by omega)]
  by_cases hs : stOk t i t.Stages[i] = true
  ·rw [if_pos hs, ih (i + 1) _ _ _ (by omega) (by omega) (by omega) (by omega) (by omega)]
  ·rw [if_neg hs]
theorem stages_same (t : TypedT) (h : okN t) (hp : okP t) (h256 : t.Stages.length ≤ 256) : ∀ (k i : Nat) (a b c : Int), i + k = t.Stages.length → 0 ≤ a ∧ a ≤ i * 6000000 → 0 ≤ b ∧ b ≤ i * 6000000 → 0 ≤ c ∧ c ≤ i * 16000000000000 →
  a ≤ 4096 → b ≤ 4096 → c ≤ 16384 → E2 (c_Sound_L2 t a b c t.Stages t.Stages.length i) (r5_stages_L1 t a b c i) := by
 intro k
 induction k with
 | zero =>
  intro i a b c hi ha hb hc h1 h2 h3
  rw [r5_stages_L1_eq, if_neg (by omega), c_Sound_L2, if_neg (by omega), if_pos h1, if_pos h2, decide_eq_true h3]
  exact .rfl'
 | succ k ih =>
  intro i a b c hi ha hb hc h1 h2 h3
  have hi' : i < t.Stages.length := by omega
  have hg := hp i hi'
  have l1 := hg.e.1
  have l2 := hg.d.1
  have l3 := hg.l.1
  have l4 := hg.n
  have hnt := nT_le hg
  have hr := stage_ref t h hp i hi' a b c (by omega) (by omega) (by omega)
  have ho := over t h hp h256 k (i + 1) (a + nS t.Stages[i]) (b + t.Stages[i].Nexts.length) (c + nT t.Stages[i]) (by omega) (by omega) (by omega) (by omega)
  have hi2 := ih (i + 1) (a + nS t.Stages[i]) (b + t.Stages[i].Nexts.length) (c + nT t.Stages[i]) (by omega) (by omega) (by omega) (by omega)
  rw [c_Sound_L2, if_pos (by omega), idx_at hi', some_bind, nodes_check _ hg, some_bind, stage_check t h hp i hi', some_bind]
  rw [w64_id (n := (t.Stages[i].Enter.length : Int) + t.Stages[i].During.length) (by omega), w64_id (n := (t.Stages[i].Enter.length : Int) + t.Stages[i].During.length + t.Stages[i].Leave.length) (by omega)]
  rw [show (t.Stages[i].Enter.length : Int) + t.Stages[i].During.length + t.Stages[i].Leave.length = nS t.Stages[i] from rfl]
  rw [w64_id (n := a + nS t.Stages[i]) (by omega), w64_id (n := b + t.Stages[i].Nexts.length) (by omega), w64_id (n := c + nT t.Stages[i]) (by omega), w64_succ (by omega), hr]
  have no : ∀ x : Option Bool, (x = some false) → E2 (some false) (if stOk t i t.Stages[i] = true then x else some false) := fun x hx => by rw [hx]; split <;> exact .rfl'
  by_cases q1 : a + nS t.Stages[i] > 4096
  ·rw [if_pos q1]; exact no _ (ho (by omega))
  rw [if_neg q1]
  by_cases q2 : b + t.Stages[i].Nexts.length > 4096
  ·rw [if_pos q2]; exact no _ (ho (by omega))
  rw [if_neg q2]
  by_cases q3 : c + nT t.Stages[i] > 16384
  ·rw [if_pos q3]; exact no _ (ho (by omega))
  rw [if_neg q3]
  by_cases hs : stOk t i t.Stages[i] = true
  ·rw [if_pos hs, if_neg (by simp [hs])]; exact hi2 (by omega) (by omega) (by omega)
  ·rw [if_neg hs, if_pos (by simp [hs])]; exact .rfl'
theorem sounds (t : TypedT) (h : okN t) (hp : okP t) (hw : okW t) : E2 (c_Sound t) (r5_Sound t) := by
 unfold c_Sound r5_Sound
 have hgc := h.c
 have hgg := h.g
 have hss := h.s
 have hdd := h.d
 refine .bind (grids t.Tables (by omega) (by omega)) fun v _ => .ite (fun _ => .ite (fun _ => .rfl') fun _ => .ite (fun _ => .rfl') fun _ => .ite (fun _ => .rfl') fun _ => .ite (fun _ => .rfl') fun _ => ?_) fun _ => .rfl'
 rw [in_eq, within_eq, some_bind, some_bind]
 refine .ite (fun h256 => ?_) fun _ => .rfl'
 simp at h256
 rw [in_eq, some_bind, w64_id (n := (t.Stages.length : Int) - 1) (by omega), named_check t h hw, some_bind]
 -- the detectors
 have dets : ∀ (k i : Nat), i + k = t.Dets.length → (∃ q, c_Sound_L1 t t.Dets t.Dets.length i = (if q = true then c_Sound_L2 t 0 0 0 t.Stages t.Stages.length 0 else some false) ∧
   r5_Sound_L1 t i = (if q = true then (if isName t.Name = true then if unl [] (names t) = true then r5_stages t else some false else some false) else some false)) := by
  intro k
  induction k with
  | zero =>
   intro i hi
   refine ⟨true, ?_, ?_⟩
   ·rw [c_Sound_L1, if_neg (by omega), if_pos rfl]
   ·rw [r5_Sound_L1, if_neg (by omega), if_pos rfl, unlike_one t hw, some_bind, things_ref t h, some_bind, unlike_names t h hw, some_bind]
    simp only [bind, Option.bind_some]
    congr 2
    cases r5_stages t <;> rfl
  | succ k ih =>
   intro i hi
   have hi' : i < t.Dets.length := by omega
   obtain ⟨q, q1, q2⟩ := ih (i + 1) (by omega)
   rw [c_Sound_L1, r5_Sound_L1, if_pos (by omega), if_pos (by omega)]
   simp only [idx_at hi', some_bind, in_eq, within_eq, w64_succ (show i < 4611686018427387904 by omega), q1, q2, decide_eq_true_eq]
   refine ⟨decide (0 ≤ t.Dets[i].Delay ∧ t.Dets[i].Delay ≤ 3600) && (decide (0 ≤ t.Dets[i].Hold ∧ t.Dets[i].Hold ≤ 3600) && q), ?_, ?_⟩
   ·by_cases c1 : 0 ≤ t.Dets[i].Delay ∧ t.Dets[i].Delay ≤ 3600 <;> by_cases c2 : 0 ≤ t.Dets[i].Hold ∧ t.Dets[i].Hold ≤ 3600 <;> simp [c1, c2]
   ·by_cases c1 : 0 ≤ t.Dets[i].Delay ∧ t.Dets[i].Delay ≤ 3600 <;> by_cases c2 : 0 ≤ t.Dets[i].Hold ∧ t.Dets[i].Hold ≤ 3600 <;> simp [c1, c2]
 obtain ⟨q, q1, q2⟩ := dets t.Dets.length 0 (by omega)
 rw [show ((0 : Nat) : Int) = 0 from rfl] at q1 q2
 obtain ⟨v2, v2a, v2b⟩ : E2 (c_Sound_L2 t 0 0 0 t.Stages t.Stages.length 0) (r5_stages t) := stages_same t h hp (by omega) t.Stages.length 0 0 0 0 (by omega) (by omega) (by omega) (by omega) (by omega) (by omega) (by omega)
 by_cases hst : 0 ≤ t.Start ∧ t.Start < t.Stages.length
 ·rw [if_pos (by simp; omega), if_neg (show ¬ t.Start < 0 by omega), if_neg (show ¬ t.Start ≥ (t.Stages.length : Int) by omega), q2]
  simp only [q1]
  rw [v2a, v2b]
  cases isName t.Name <;> cases unl [] (names t) <;> cases q <;> exact .of rfl rfl rfl
 ·rw [if_neg (by simp; omega)]
  by_cases h0 : t.Start < 0
  ·rw [if_pos h0]; exact .rfl'
  ·rw [if_neg h0, if_pos (by omega)]; exact .rfl'
end Go.Proofs.YtdcpfmjnkcodiaaDoor.We
