/- The abstract machine of a program: its tables off the program's own. -/
import Derived.Test.YtdcpfmjnkcodiaaDoorA6
import Derived.Laws.StructEq
import Derived.Laws.BitsLemmas
namespace Go.Jv
def isAggV : Value → Bool
 | .agg _ => true
 | _ => false
def tyOf (P : Program) (t : TypeId) : Option Ty :=
 match P.info? t, P.underlying t with
 | some i, some d =>
  match i.zero with
  | some z =>
   if z.cells.size = i.size ∧ z.cells.all (·.oneCell') = true ∧ (if isAgg d = true then isAggV z = true else i.size = 1 ∧ isAggV z = false) ∧ (match d with | .struct fs => fs.all fun f => (P.info? f.type).isSome | _ => true) = true then
    some ⟨d, i.size, i.bytes, z.cells.toList.map cav⟩
   else none
  | none => none
 | _, _ => none
def fnOk (P : Program) (f : FuncId) : Option Func :=
 match P.funcs[f]? with
 | some F => if funcOk F = true ∧ (F.name == "runtime.NumGoroutine") = false then some F else none
 | none => none
def flatK (P : Program) : Nat → TypeId → Option (List Nat)
 | 0, _ => none
 | d + 1, t =>
  if (tyOf P t).isSome = true then
   match P.underlying t with
   | some .bool => if P.cellsOf t = 1 then some [0] else none
   | some (.int _) => if P.cellsOf t = 1 then some [1] else none
   | some .string => if P.cellsOf t = 1 then some [2] else none
   | some (.struct fs) => if fs.toList.all (fun f => f.name != "_") = true ∧ consec P 0 fs.toList (P.cellsOf t) = true ∧ P.stoodInHeld t = false then (fs.toList.mapM fun f => flatK P d f.type).map List.flatten else none
   | _ => none
  else none
def eqOf (P : Program) (t : TypeId) : Option (List Nat) := if P.eqGuardType P.depth t then none else flatK P 4 t
def cfgOf (P : Program) (glob : Nat → Option (List Dat)) (sig : FuncId → Sig) (ext : FuncId → List Dat → Option (List Dat)) : Cfg :=
 { ty := tyOf P, glob, fn := fnOk P, sig, eqs := eqOf P, ext }
section
variable {P : Program} {S : Nat → Prop} {w : World}
theorem tyOf_sound {t : TypeId} {y : Ty} (h : tyOf P t = some y) :
  P.underlying t = some y.desc ∧ (∃ i z, P.info? t = some i ∧ i.size = y.size ∧ i.bytes = y.bytes ∧ i.zero = some z ∧ ZeroR y z) ∧ ∀ fs : Array Field, y.desc = .struct fs → ∀ f ∈ fs, (P.info? f.type).isSome = true := by
 unfold tyOf at h
 split at h
 ·rename_i i d hi hd
  split at h
  ·rename_i z hz
   simp only [Option.ite_none_right_eq_some, Option.some.injEq] at h
   obtain ⟨⟨h1, h2, h3, h4⟩, rfl⟩ := h
   ·skip
    refine ⟨hd, ⟨i, z, hi, rfl, rfl, hz, h1, by simpa using h1, fun u hu => Array.all_eq_true_iff_forall_mem.1 h2 u hu, fun j c hj => ?_, fun ha => ?_, fun ha => ?_⟩, fun fs hfs f hf => ?_⟩
    ·simp only [List.getElem?_map] at hj
     obtain ⟨u, hu, rfl⟩ := Option.map_eq_some_iff.1 hj
     have hu' : z.cells[j]? = some u := by simpa using hu
     exact ⟨u, hu', fun S w B => cav_sound (Array.all_eq_true_iff_forall_mem.1 h2 u (Array.mem_of_getElem? hu'))⟩
    ·simp only at ha
     rw [if_pos ha] at h3
     cases z <;> simp [isAggV] at h3
     rfl
    ·simp only at ha
     rw [ha] at h3
     simp only [Bool.false_eq_true, if_false] at h3
     refine ⟨h3.1, fun cs e => ?_⟩
     subst e
     simp [isAggV] at h3
    ·simp only at hfs
     subst hfs
     exact Array.all_eq_true_iff_forall_mem.1 h4 f hf
  ·cases h
 ·cases h
theorem eqAll_split : ∀ (n : Nat) {qs : List Nat} {ds es : List Dat} {r : Bool}, eqAll qs ds es = some r → ∃ r1 r2, eqAll (qs.take n) (ds.take n) (es.take n) = some r1 ∧ eqAll (qs.drop n) (ds.drop n) (es.drop n) = some r2 ∧ r = (r1 && r2)
 | 0, qs, ds, es, r, h => ⟨true, r, rfl, h, rfl⟩
 | n + 1, [], [], [], r, h => by simp only [eqAll, Option.some.injEq] at h; subst h; exact ⟨true, true, rfl, rfl, rfl⟩
 | n + 1, [], [], _ :: _, r, h => by simp [eqAll] at h
 | n + 1, [], _ :: _, _, r, h => by simp [eqAll] at h
 | n + 1, _ :: _, [], _, r, h => by simp [eqAll] at h
 | n + 1, _ :: _, _ :: _, [], r, h => by simp [eqAll] at h
 | n + 1, q :: qs, d :: ds, e :: es, r, h => by
  simp only [eqAll] at h
  split at h
  ·rename_i a b h1 h2
   cases h
   obtain ⟨r1, r2, h3, h4, h5⟩ := eqAll_split n h2
   exact ⟨a && r1, r2, by simp [eqAll, h1, h3], h4, by rw [h5, Bool.and_assoc]⟩
  ·cases h
theorem eqAll_len : ∀ {qs : List Nat} {ds es : List Dat} {r : Bool}, eqAll qs ds es = some r → ds.length = qs.length ∧ es.length = qs.length
 | [], [], [], r, _ => ⟨rfl, rfl⟩
 | [], [], _ :: _, r, h => by simp [eqAll] at h
 | [], _ :: _, _, r, h => by simp [eqAll] at h
 | _ :: _, [], _, r, h => by simp [eqAll] at h
 | _ :: _, _ :: _, [], r, h => by simp [eqAll] at h
 | q :: qs, d :: ds, e :: es, r, h => by
  simp only [eqAll] at h
  split at h
  ·rename_i a b h1 h2
   have := eqAll_len h2
   simp [this.1, this.2]
  ·cases h
theorem CellsD.takeN {cs : List Dat} {us : List Value} (h : CellsD S w cs us) (n : Nat) : CellsD S w (cs.take n) (us.take n) ∧ CellsD S w (cs.drop n) (us.drop n) := by
 refine ⟨⟨by simp [h.1], fun j c u hj hu => ?_⟩, ⟨by simp [h.1], fun j c u hj hu => ?_⟩⟩
 ·rw [List.getElem?_take] at hj hu
  split at hj
  ·rename_i hlt; rw [if_pos hlt] at hu; exact h.2 j c u hj hu
  ·cases hj
 ·rw [List.getElem?_drop] at hj hu
  exact h.2 _ c u hj hu
def cfg0 (P : Program) : Cfg := { ty := tyOf P, glob := fun _ => none, fn := fun _ => none, sig := fun _ => .dat, eqs := fun _ => none, ext := fun _ _ => none }
theorem valid0 (hm : P.follows .mixedOrders = true) : Valid P (cfg0 P) :=
 ⟨fun t y h => ⟨(tyOf_sound h).1, (tyOf_sound h).2.1⟩, fun f F h => (by cases h), hm, fun t y h => (tyOf_sound h).2.2, fun t qs y h => (by cases h)⟩
theorem eqf_last' {d : Nat} {xs ys : Array Value} : (Op.eqFields d xs ys []).run P w = .ok true w := by simp [Op.eqFields]
theorem eqf_cons' {d : Nat} {xs ys : Array Value} {f : Field} {fs : List Field} {a b : Value} {r s : Bool} (hn : f.name ≠ "_") (ha : (part f.type xs f.offset).run P w = .ok a w) (hb : (part f.type ys f.offset).run P w = .ok b w)
  (he : (Op.equalIn d f.type a b).run P w = .ok r w) (hr : (Op.eqFields d xs ys fs).run P w = .ok s w) : (Op.eqFields d xs ys (f :: fs)).run P w = .ok (r && s) w := by
 rw [Op.eqFields]
 simp only [if_pos hn, Sem.run_bind, ha, hb, he, Result.andThen_ok]
 cases r
 ·simp
 ·simpa using hr
theorem consec_le : ∀ {l : List Field} {o n : Nat}, consec P o l n = true → o ≤ n
 | [], o, n, h => by simp only [consec, beq_iff_eq] at h; omega
 | g :: l, o, n, h => by simp only [consec, Bool.and_eq_true] at h; have := consec_le h.2; omega
theorem mkV_some {g : Bool} {us : List Value} (h : g = false → us.length = 1) : ∃ v, mkV g us = some v := by
 cases g with
 | true => exact ⟨_, rfl⟩
 | false =>
  match us, h rfl with
  | [u], _ => exact ⟨u, rfl⟩
theorem flatK_some {d : Nat} {t : TypeId} {qs : List Nat} (h : flatK P d t = some qs) : ∃ y, tyOf P t = some y := by
 cases d with
 | zero => simp [flatK] at h
 | succ d =>
  simp only [flatK] at h
  split at h
  ·rename_i hs; exact Option.isSome_iff_exists.1 hs
  ·cases h
theorem flatK_len : ∀ (d : Nat) (t : TypeId) (qs : List Nat), flatK P d t = some qs → qs.length = P.cellsOf t := by
 intro d
 induction d with
 | zero => intro t qs h; simp [flatK] at h
 | succ d ih =>
  intro t qs h
  simp only [flatK] at h
  split at h
  ·split at h
   ·simp only [Option.ite_none_right_eq_some, Option.some.injEq] at h; rw [h.1, ← h.2]; rfl
   ·simp only [Option.ite_none_right_eq_some, Option.some.injEq] at h; rw [h.1, ← h.2]; rfl
   ·simp only [Option.ite_none_right_eq_some, Option.some.injEq] at h; rw [h.1, ← h.2]; rfl
   ·rename_i fs hu
    simp only [Option.ite_none_right_eq_some] at h
    obtain ⟨⟨_, h2, _⟩, h⟩ := h
    obtain ⟨qss, hqs, rfl⟩ := Option.map_eq_some_iff.1 h
    have key : ∀ (l : List Field) (off n : Nat) (qss : List (List Nat)), consec P off l n = true → l.mapM (fun f => flatK P d f.type) = some qss → off + qss.flatten.length = n := by
     intro l
     induction l with
     | nil => intro off n qss hc hq; simp at hq; subst hq; simpa [consec] using hc
     | cons f l ihl =>
      intro off n qss hc hq
      simp only [consec, Bool.and_eq_true, beq_iff_eq] at hc
      rw [List.mapM_cons] at hq
      obtain ⟨q1, hq1, hq⟩ := Option.bind_eq_some_iff.1 hq
      obtain ⟨qss', hqs', hq⟩ := Option.bind_eq_some_iff.1 hq
      cases hq
      have := ihl _ _ _ hc.2 hqs'
      rw [List.flatten_cons, List.length_append, ih _ _ hq1]
      omega
    have := key fs.toList 0 _ qss h2 hqs
    omega
   ·cases h
  ·cases h
theorem flat_sound (hm : P.follows .mixedOrders = true) : ∀ (d : Nat) (t : TypeId) (dd : TypeDesc) (qs : List Nat), flatK P d t = some qs → P.underlying t = some dd → ∀ (ds es : List Dat) (us vs : List Value) (r : Bool), eqAll qs ds es = some r →
  CellsD S w ds us → CellsD S w es vs → us.length = P.cellsOf t → vs.length = P.cellsOf t → ∀ x y, mkV (isAgg dd) us = some x → mkV (isAgg dd) vs = some y → ∀ k, (Op.equalIn (d + k) t x y).run P w = .ok r w := by
 intro d
 induction d with
 | zero => intro t dd qs h; simp [flatK] at h
 | succ d ih =>
  intro t dd qs h hu ds es us vs r hr hA hB hl hl' x y hx hy k
  simp only [flatK, hu] at h
  split at h
  ·rw [show d + 1 + k = (d + k) + 1 by omega]
   have scal : ∀ q, qs = [q] → isAgg dd = false → (∀ a b, VR S w a x → VR S w b y → eqD q a b = some r → (Op.equalIn ((d + k) + 1) t x y).run P w = .ok r w) → (Op.equalIn ((d + k) + 1) t x y).run P w = .ok r w := by
    intro q hq hag hf
    subst hq
    rw [hag] at hx hy
    obtain ⟨e1, e2⟩ := eqAll_len hr
    match ds, e1 with
    | [a], _ =>
     match es, e2 with
     | [b], _ =>
      match us, hA with
      | [u], hA =>
       match vs, hB with
       | [v], hB =>
        simp only [mkV, Bool.false_eq_true, if_false, Option.some.injEq] at hx hy
        subst hx hy
        simp only [eqAll] at hr
        split at hr
        ·rename_i r1 r2 h1 h2
         simp only [Option.some.injEq] at h2 hr
         subst h2
         rw [Bool.and_true] at hr
         subst hr
         exact hf a b (hA.2 0 a u rfl rfl).2 (hB.2 0 b v rfl rfl).2 h1
        ·cases hr
       | [], hB => exact absurd hB.1 (by simp)
       | _ :: _ :: _, hB => exact absurd hB.1 (by simp)
      | [], hA => exact absurd hA.1 (by simp)
      | _ :: _ :: _, hA => exact absurd hA.1 (by simp)
   cases dd with
   | bool =>
    simp only [Option.ite_none_right_eq_some, Option.some.injEq] at h
    refine scal 0 h.2.symm rfl fun a b ha hb he => ?_
    unfold eqD at he
    split at he <;> first | (cases he; done) | skip
    ·exact absurd ‹0 = 1› (by decide)
    ·cases he
     obtain rfl := ha.boolV
     obtain rfl := hb.boolV
     simp only [Op.equalIn, Sem.run_bind, run_underlying hu w, Result.andThen_ok]
     simp [BEq.beq]
    ·exact absurd ‹0 = 2› (by decide)
   | int kk =>
    simp only [Option.ite_none_right_eq_some, Option.some.injEq] at h
    refine scal 1 h.2.symm rfl fun a b ha hb he => ?_
    unfold eqD at he
    split at he <;> first | (cases he; done) | skip
    ·split at he
     ·rename_i hk
      cases he
      subst hk
      obtain rfl := ha.intV
      obtain rfl := hb.intV
      simp only [Op.equalIn, Sem.run_bind, run_underlying hu w, Result.andThen_ok]
      simp [BEq.beq]
     ·cases he
    ·exact absurd ‹1 = 0› (by decide)
    ·exact absurd ‹1 = 2› (by decide)
   | string =>
    simp only [Option.ite_none_right_eq_some, Option.some.injEq] at h
    refine scal 2 h.2.symm rfl fun a b ha hb he => ?_
    unfold eqD at he
    split at he <;> first | (cases he; done) | skip
    ·exact absurd ‹2 = 1› (by decide)
    ·exact absurd ‹2 = 0› (by decide)
    ·cases he
     obtain rfl := ha.strV
     obtain rfl := hb.strV
     simp only [Op.equalIn, Sem.run_bind, run_underlying hu w, Result.andThen_ok]
     rw [beq_toListBytes, str_beq]
     simp
   | struct fs =>
    simp only [Option.ite_none_right_eq_some] at h
    obtain ⟨⟨h1, h2, h3⟩, h⟩ := h
    obtain ⟨qss, hqs, rfl⟩ := Option.map_eq_some_iff.1 h
    simp only [isAgg, mkV, if_true, Option.some.injEq] at hx hy
    subst hx hy
    have hf : P.fieldsOf t = fs := by simp [Program.fieldsOf, hu]
    rw [run_equalIn_struct (P := P) w (d + k) t _ _ (by rw [hf]; exact hu) h3, hf]
    have key : ∀ (l : List Field) (off : Nat) (r : Bool) (qss : List (List Nat)), consec P off l us.length = true → (∀ f ∈ l, f.name ≠ "_") → l.mapM (fun f => flatK P d f.type) = some qss → eqAll qss.flatten (ds.drop off) (es.drop off) = some r →
      (Op.eqFields (d + k) us.toArray vs.toArray l).run P w = .ok r w := by
     intro l
     induction l with
     | nil =>
      intro off r qss hc _ hq hr
      simp at hq
      subst hq
      cases hds : ds.drop off with
      | cons => rw [hds] at hr; simp [eqAll] at hr
      | nil =>
       cases hes : es.drop off with
       | cons => rw [hds, hes] at hr; simp [eqAll] at hr
       | nil =>
        rw [hds, hes] at hr
        simp only [List.flatten_nil, eqAll, Option.some.injEq] at hr
        subst hr
        exact eqf_last'
     | cons f l ihl =>
      intro off r qss hc hall hq hr
      simp only [consec, Bool.and_eq_true, beq_iff_eq] at hc
      rw [List.mapM_cons] at hq
      obtain ⟨q1, hq1, hq⟩ := Option.bind_eq_some_iff.1 hq
      obtain ⟨qss', hqs', hq⟩ := Option.bind_eq_some_iff.1 hq
      cases hq
      rw [List.flatten_cons] at hr
      have hle := consec_le hc.2
      obtain ⟨yf, hyf⟩ := flatK_some hq1
      obtain ⟨huf, ⟨i, z, hi, hsz, _, _, hzr⟩, _⟩ := tyOf_sound hyf
      have hcell : P.cellsOf f.type = yf.size := by simp [Program.cellsOf, hi, hsz]
      -- as many kinds as cells
      obtain ⟨r1, r2, e1, e2, rfl⟩ := eqAll_split q1.length hr
      simp only [List.take_left, List.drop_left] at e1 e2
      have hql := flatK_len _ _ _ hq1
      rw [hql] at e1 e2
      rw [List.drop_drop, List.drop_drop] at e2
      have hag : isAgg yf.desc = false → yf.size = 1 := fun ha => (hzr.2.2.2.2.2 ha).1
      obtain ⟨xa, hxa⟩ := mkV_some (g := isAgg yf.desc) (us := (us.drop off).take (P.cellsOf f.type)) (fun h => by rw [List.length_take, List.length_drop, hcell, hag h]; have := hag h; omega)
      obtain ⟨ya, hya⟩ := mkV_some (g := isAgg yf.desc) (us := (vs.drop off).take (P.cellsOf f.type)) (fun h => by rw [List.length_take, List.length_drop, hcell, hag h]; have := hag h; omega)
      have hsT : sizeT (cfg0 P) f.type = some (P.cellsOf f.type) := by simp [sizeT, cfg0, hyf, hcell]
      have haT : aggT (cfg0 P) f.type = some (isAgg yf.desc) := by simp [aggT, cfg0, hyf]
      have pa := run_part (w := w) (valid0 hm) hsT haT (vs := us.toArray) (off := off) (by simp; omega) (by simpa using hxa)
      have pb := run_part (w := w) (valid0 hm) hsT haT (vs := vs.toArray) (off := off) (by simp; omega) (by simpa using hya)
      have he := ih f.type yf.desc q1 hq1 huf _ _ _ _ r1 e1 ((hA.takeN off).2.takeN (P.cellsOf f.type)).1 ((hB.takeN off).2.takeN (P.cellsOf f.type)).1 (by simp; omega) (by simp; omega) xa ya hxa hya k
      rw [← hc.1] at pa pb
      exact eqf_cons' (hall f (by simp)) pa pb he (ihl _ r2 qss' hc.2 (fun g hg => hall g (by simp [hg])) hqs' e2)
    refine key fs.toList 0 r qss (by rw [hl]; exact h2) (fun f hf => ?_) hqs (by simpa using hr)
    have := List.all_eq_true.1 h1 f hf
    simpa using this
   | _ => simp at h
  ·cases h
theorem validOf (hm : P.follows .mixedOrders = true) (glob : Nat → Option (List Dat)) (sig : FuncId → Sig) (ext : FuncId → List Dat → Option (List Dat)) : Valid P (cfgOf P glob sig ext) := by
 refine ⟨fun t y h => ⟨(tyOf_sound h).1, (tyOf_sound h).2.1⟩, fun f F h => ?_, hm, fun t y h => (tyOf_sound h).2.2, fun t qs y h hy hagg xs ys ds es r w x0 y0 hr hx hy0 => ?_⟩
 ·simp only [cfgOf, fnOk] at h
  split at h
  ·rename_i F' hf
   simp only [Option.ite_none_right_eq_some, Option.some.injEq] at h
   obtain ⟨⟨h1, h2⟩, rfl⟩ := h
   exact ⟨hf, h1, h2⟩
  ·cases h
 ·simp only [cfgOf, eqOf] at h
  split at h
  ·cases h
  ·rename_i hg
   have hg : P.eqGuardType P.depth t = false := by simpa using hg
   obtain ⟨hu, _, _⟩ := tyOf_sound hy
   have hlen := flatK_len _ _ _ h
   obtain ⟨l1, l2⟩ := eqAll_len hr
   have c1 : CellsD (fun _ => False) w ds xs.toList := by
    cases hx (fun _ => False) w with
    | agg _ _ hl ho hv => exact ⟨by simpa using hl, fun j c u hj hu => ⟨ho u (Array.mem_of_getElem? (by simpa using hu)), hv j c u hj (by simpa using hu)⟩⟩
   have c2 : CellsD (fun _ => False) w es ys.toList := by
    cases hy0 (fun _ => False) w with
    | agg _ _ hl ho hv => exact ⟨by simpa using hl, fun j c u hj hu => ⟨ho u (Array.mem_of_getElem? (by simpa using hu)), hv j c u hj (by simpa using hu)⟩⟩
   have he := flat_sound hm 4 t y.desc qs h hu ds es xs.toList ys.toList r hr c1 c2 (by rw [← c1.1, l1, hlen]) (by rw [← c2.1, l2, hlen]) (.agg xs) (.agg ys) (by simp [hagg, mkV]) (by simp [hagg, mkV]) 9996
   have he' : (Op.equal t (.agg xs) (.agg ys)).run P w = .ok r w := he
   have hgd : ∀ op, (eqGuard op t x0 y0 (.agg xs) (.agg ys)).run P w = .ok () w := by
    intro op
    unfold eqGuard
    cases op <;> simp [hg]
   refine ⟨?_, ?_⟩ <;> rw [Sem.run_bind, hgd, Result.andThen_ok] <;> simp [binOp, he']
end
end Go.Jv
namespace Go.Jv
theorem runC_seq (C : Cfg) (a b : Code) (s : St) : runC C (.seq a b) s = (runC C a s).bind fun r => match r.1 with | .normal => runC C b r.2 | e => some (e, r.2) := by
 rw [runC]; rfl
theorem runC_block (C : Cfg) (id : Nat) (a : Code) (s : St) : runC C (.block id a) s = (runC C a s).bind fun r => match r.1 with | .exit id' => if id' = id then some (.normal, r.2) else some (.exit id', r.2) | e => some (e, r.2) := by
 rw [runC]; rfl
theorem runC_loop (C : Cfg) (a : Code) (s : St) : runC C (.loop a) s = (runC C a s).bind fun r => match r.1 with | .normal => runC C (.loop a) r.2 | e => some (e, r.2) := by
 rw [runC]; rfl
theorem runC_cond (C : Cfg) (x : Operand) (a b : Code) (s : St) : runC C (.cond x a b) s = match ev C s x with
  | .d (.bool true) => runC C a s
  | .d (.bool false) => runC C b s
  | _ => none := by
 rw [runC]; rfl
theorem runC_skip (C : Cfg) (s : St) : runC C .skip s = some (.normal, s) := by rw [runC]
theorem runC_ret (C : Cfg) (s : St) : runC C .ret s = some (.ret, s) := by rw [runC]
theorem runC_exit (C : Cfg) (i : Nat) (s : St) : runC C (.exit i) s = some (.exit i, s) := by rw [runC]
theorem runC_region (C : Cfg) (i : Nat) (ops : Array Oper) (s : St) : runC C (.region i ops false) s = (runOps C ops ops.toList s).bind fun s' => some (.normal, s') := by rw [runC]; rfl
theorem runC_draw (C : Cfg) (i : Nat) (ops : Array Oper) (s : St) (h1 : drawStat ops = true) (h2 : (unord ops.toList).isEmpty = true) :
  runC C (.region i ops true) s = (runOps C ops ops.toList s).bind fun s' => some (.normal, s') := by rw [runC]; simp only [h1, h2, if_true]; rfl
theorem runOps_nil (C : Cfg) (ops : Array Oper) (s : St) : runOps C ops [] s = some s := by rw [runOps]
theorem runOps_cons (C : Cfg) (ops : Array Oper) (o : Oper) (rest : List Oper) (s : St) : runOps C ops (o :: rest) s = match wantedA ops s.regs o with
  | none => none
  | some false => runOps C ops rest { s with regs := putR s.regs o.dst .undef }
  | some true => (opV C (ev C s) o.op s.homes s.next).bind fun r => runOps C ops rest { regs := putR s.regs o.dst r.1, homes := r.2.1, next := r.2.2 } := by rw [runOps]; rfl
def fo (C : Cfg) (t : TypeId) (f : Nat) : Option (Nat × Nat × Bool) :=
 (fieldOf C t f).bind fun fd => match sizeT C fd.type, aggT C fd.type with | some n, some g => some (fd.offset, n, g) | _, _ => none
theorem fo_parts {C : Cfg} {t : TypeId} {f off n : Nat} {g : Bool} (h : fo C t f = some (off, n, g)) : ∃ fd, fieldOf C t f = some fd ∧ sizeT C fd.type = some n ∧ aggT C fd.type = some g ∧ fd.offset = off := by
 unfold fo at h
 obtain ⟨fd, h1, h2⟩ := Option.bind_eq_some_iff.1 h
 split at h2
 ·rename_i n' g' h3 h4
  cases h2
  exact ⟨fd, h1, h3, h4, rfl⟩
 ·cases h2
theorem act_fieldAddr {C : Cfg} {t : TypeId} {f off n : Nat} {g : Bool} (h : fo C t f = some (off, n, g)) (hn : n ≠ 0) (H : Hs) (nx : Nat) (e : Operand → AV) (x : Operand) :
  act C H nx e (.fieldAddr t x f) = (addA (e x) off).map fun v => (v, H, nx) := by
 obtain ⟨fd, h1, h2, _, h4⟩ := fo_parts h
 simp [act, h1, h2, h4, hn]
def places (C : Cfg) (t : TypeId) : Option (List (Nat × Nat)) :=
 match C.ty t with
 | some y => match y.desc with
  | .struct fs => fs.toList.mapM fun f => (sizeT C f.type).map fun z => (f.offset, z)
  | _ => none
 | none => none
theorem buildA_struct {C : Cfg} {t : TypeId} {ps : List (Nat × Nat)} (h : places C t = some ps) {y : Ty} (hy : C.ty t = some y) (parts : List (Nat × AV)) : buildA C t parts = (fillA okCells (fun i => ps[i]?) y.zero parts).map .agg := by
 unfold places at h
 unfold buildA
 simp only [hy] at h ⊢
 split at h
 ·rename_i fs hd
  simp only [hd]
  have : (fun i : Nat => match fs[i]? with | some (f : Field) => (sizeT C f.type).map fun z => (f.offset, z) | none => none) = fun i => ps[i]? := by
   funext i
   obtain ⟨h1, h2⟩ := mapM_get h
   cases hf : fs[i]? with
   | none =>
    have : ps.length ≤ i := by rw [h1]; simpa using hf
    simp [this]
   | some f =>
    obtain ⟨z, hz, hz2⟩ := h2 i f (by simpa using hf)
    simp only [hz2, hz]
  exact congrArg (fun p => (fillA okCells p y.zero parts).map AV.agg) this
 ·cases h
end Go.Jv
namespace Go.Jv
def Ends {α : Type} (r : Option α) (Q : α → Prop) : Prop := ∃ a, r = some a ∧ Q a
theorem Ends.mono {α : Type} {r : Option α} {Q Q' : α → Prop} (h : Ends r Q) (hq : ∀ a, Q a → Q' a) : Ends r Q' := let ⟨a, h1, h2⟩ := h; ⟨a, h1, hq a h2⟩
def Nx (b : St → Prop) (Q : Ex → St → Prop) : Ex → St → Prop
 | .normal, s => b s
 | e, s => Q e s
def EC (C : Cfg) (c : Code) (s : St) (Q : Ex → St → Prop) : Prop := Ends (runC C c s) fun r => Q r.1 r.2
def EO (C : Cfg) (ops : Array Oper) (l : List Oper) (s : St) (R : St → Prop) : Prop := Ends (runOps C ops l s) R
def Blk (id : Nat) (Q : Ex → St → Prop) : Ex → St → Prop
 | .exit id', s => if id' = id then Q .normal s else Q (.exit id') s
 | e, s => Q e s
section
variable {C : Cfg} {s : St} {Q : Ex → St → Prop} {ops : Array Oper} {rest : List Oper} {R : St → Prop}
theorem e_seq {a b : Code} (h : EC C a s (Nx (fun s' => EC C b s' Q) Q)) : EC C (.seq a b) s Q := by
 obtain ⟨⟨e, s'⟩, h1, h2⟩ := h
 cases e with
 | normal => obtain ⟨r, h3, h4⟩ := h2; exact ⟨r, by rw [runC_seq, h1]; exact h3, h4⟩
 | exit id => exact ⟨_, by rw [runC_seq, h1]; rfl, h2⟩
 | ret => exact ⟨_, by rw [runC_seq, h1]; rfl, h2⟩
theorem e_region {i : Nat} (h : EO C ops ops.toList s (fun s' => Q .normal s')) : EC C (.region i ops false) s Q := by
 obtain ⟨s', h1, h2⟩ := h
 exact ⟨_, by rw [runC_region, h1]; rfl, h2⟩
theorem e_draw {i : Nat} (hd : drawStat ops = true) (hu : (unord ops.toList).isEmpty = true) (h : EO C ops ops.toList s (fun s' => Q .normal s')) : EC C (.region i ops true) s Q := by
 obtain ⟨s', h1, h2⟩ := h
 exact ⟨_, by rw [runC_draw C i ops s hd hu, h1]; rfl, h2⟩
theorem e_nil (h : R s) : EO C ops [] s R := ⟨s, runOps_nil .., h⟩
theorem e_cond_t {x : Operand} {a b : Code} (hx : ev C s x = .d (.bool true)) (h : EC C a s Q) : EC C (.cond x a b) s Q := by
 obtain ⟨r, h1, h2⟩ := h
 exact ⟨r, by rw [runC_cond, hx]; exact h1, h2⟩
theorem e_cond_f {x : Operand} {a b : Code} (hx : ev C s x = .d (.bool false)) (h : EC C b s Q) : EC C (.cond x a b) s Q := by
 obtain ⟨r, h1, h2⟩ := h
 exact ⟨r, by rw [runC_cond, hx]; exact h1, h2⟩
theorem e_block {id : Nat} {a : Code} (h : EC C a s (Blk id Q)) : EC C (.block id a) s Q := by
 obtain ⟨⟨e, s'⟩, h1, h2⟩ := h
 cases e with
 | exit id' =>
  simp only [Blk] at h2
  split at h2
  ·rename_i he; exact ⟨_, by rw [runC_block, h1]; simp [he]; rfl, h2⟩
  ·rename_i he; exact ⟨_, by rw [runC_block, h1]; simp [he]; rfl, h2⟩
 | normal => exact ⟨_, by rw [runC_block, h1]; rfl, h2⟩
 | ret => exact ⟨_, by rw [runC_block, h1]; rfl, h2⟩
theorem e_loop {a : Code} (h : EC C a s (Nx (fun s' => EC C (.loop a) s' Q) Q)) : EC C (.loop a) s Q := by
 obtain ⟨⟨e, s'⟩, h1, h2⟩ := h
 cases e with
 | normal => obtain ⟨r, h3, h4⟩ := h2; exact ⟨r, by rw [runC_loop, h1]; exact h3, h4⟩
 | exit id => exact ⟨_, by rw [runC_loop, h1]; rfl, h2⟩
 | ret => exact ⟨_, by rw [runC_loop, h1]; rfl, h2⟩
theorem e_skip (h : Q .normal s) : EC C .skip s Q := ⟨_, runC_skip .., h⟩
theorem e_ret (h : Q .ret s) : EC C .ret s Q := ⟨_, runC_ret .., h⟩
theorem e_exit {i : Nat} (h : Q (.exit i) s) : EC C (.exit i) s Q := ⟨_, runC_exit .., h⟩
theorem blk_e {i : Nat} (h : Q .normal s) : Blk i Q (.exit i) s := by simp only [Blk, if_true]; exact h
theorem blk_o {i j : Nat} (hn : j ≠ i) (h : Q (.exit j) s) : Blk i Q (.exit j) s := by simp only [Blk, if_neg hn]; exact h
end
end Go.Jv
namespace Go.Jv
section
variable {C : Cfg} {e : Operand → AV} {H : Hs} {n : Nat}
theorem opV_act {o : Op} (h : ∀ fv args ats, o ≠ .call ⟨.value fv, args, ats⟩) : opV C e o H n = act C H n e o := by
 rw [opV.eq_def]
 split
 ·rename_i fv args ats; exact absurd rfl (h fv args ats)
 ·rfl
theorem o_move {x : Operand} : opV C e (.move x) H n = some (e x, H, n) := opV_act (fun _ _ _ h => by cases h)
theorem o_assign {x : Operand} : opV C e (.assign x) H n = some (e x, H, n) := opV_act (fun _ _ _ h => by cases h)
theorem o_pick_t {c a b : Operand} (hc : e c = .d (.bool true)) : opV C e (.pick c a b) H n = some (e a, H, n) := by
 rw [opV_act (fun _ _ _ h => by cases h)]; simp [act, hc]
theorem o_pick_f {c a b : Operand} (hc : e c = .d (.bool false)) : opV C e (.pick c a b) H n = some (e b, H, n) := by
 rw [opV_act (fun _ _ _ h => by cases h)]; simp [act, hc]
theorem o_bin {op : BinOp} {t u : TypeId} {x y : Operand} {r : Dat} (h : binA C op t (e x) (e y) = some r) : opV C e (.binOp op t x y u) H n = some (.d r, H, n) := by
 rw [opV_act (fun _ _ _ h => by cases h)]; simp [act, h]
theorem o_cmp {op : BinOp} {t u : TypeId} {x y : Operand} {b b' : Bool} (h : binA C op t (e x) (e y) = some (.bool b)) (hb : b = b') : opV C e (.binOp op t x y u) H n = some (.d (.bool b'), H, n) := by
 subst hb; exact o_bin h
theorem o_un {op : UnOp} {t : TypeId} {x : Operand} {v r : Dat} (hx : e x = .d v) (h : unD op v = some r) : opV C e (.unOp op t x) H n = some (.d r, H, n) := by
 rw [opV_act (fun _ _ _ h => by cases h)]; simp [act, hx, h]
theorem o_conv {a b : TypeId} {x : Operand} {r : AV} (h : convA C a b (e x) = some r) : opV C e (.convert a b x) H n = some (r, H, n) := by
 rw [opV_act (fun _ _ _ h => by cases h)]; simp [act, h]
theorem o_load {t : TypeId} {p : Operand} {v : AV} (h : loadA C H t (e p) = some v) : opV C e (.load t p) H n = some (v, H, n) := by
 rw [opV_act (fun _ _ _ h => by cases h)]; simp [act, h]
theorem o_store {t : TypeId} {p v : Operand} {H1 : Hs} (h : storeA C H t (e p) (e v) = some H1) : opV C e (.store t p v) H n = some (.undef, H1, n) := by
 rw [opV_act (fun _ _ _ h => by cases h)]; simp [act, h]
theorem o_alloc {t : TypeId} {y : Ty} (h : C.ty t = some y) : opV C e (.alloc t) H n = some (.pt n 0, upd H n (.box y.zero), n + 1) := by
 rw [opV_act (fun _ _ _ h => by cases h)]; simp [act, h]
theorem o_build {t : TypeId} {ps : Array (Nat × Operand)} {v : AV} (h : buildA C t (ps.toList.map fun (i, x) => (i, e x)) = some v) : opV C e (.build t ps) H n = some (v, H, n) := by
 rw [opV_act (fun _ _ _ h => by cases h)]; simp only [act, h]; rfl
theorem o_slice {t : TypeId} {x : Operand} {lo hi : Option Operand} {v : AV} (h : sliceA C H t (e x) (lo.map e) (hi.map e) false = some v) : opV C e (.slice t x lo hi none) H n = some (v, H, n) := by
 rw [opV_act (fun _ _ _ h => by cases h)]; simp [act, h]
theorem o_faddr {t : TypeId} {x : Operand} {f off m : Nat} {g : Bool} {v : AV} (hf : fo C t f = some (off, m, g)) (hm : m ≠ 0) (h : addA (e x) off = some v) : opV C e (.fieldAddr t x f) H n = some (v, H, n) := by
 rw [opV_act (fun _ _ _ h => by cases h), act_fieldAddr hf hm, h]; rfl
theorem o_iaddr {t : TypeId} {x i : Operand} {v : AV} (h : indexAddrA C H t (e x) (e i) = some v) : opV C e (.indexAddr t x i) H n = some (v, H, n) := by
 rw [opV_act (fun _ _ _ h => by cases h)]; simp [act, h]
theorem o_extract {x : Operand} {i : Nat} {vs : List AV} {v : AV} (hx : e x = .tup vs) (h : vs[i]? = some v) : opV C e (.extract x i) H n = some (v, H, n) := by
 rw [opV_act (fun _ _ _ h => by cases h)]; simp [act, hx, h]
theorem o_len {x : Operand} {t : TypeId} {m : Int} (h : lenA C t (e x) = some m) : opV C e (.call ⟨.builtin .len, #[x], #[t]⟩) H n = some (.d (.int .i64 m), H, n) := by
 rw [opV_act (fun _ _ _ h => by cases h)]; simp [act, h]
theorem o_max {args : Array Operand} {ts : Array TypeId} {v : AV} (h : maxA (args.toList.map e) = some v) : opV C e (.call ⟨.builtin .max, args, ts⟩) H n = some (v, H, n) := by
 rw [opV_act (fun _ _ _ h => by cases h)]; simp only [act, h]; rfl
theorem o_min {args : Array Operand} {ts : Array TypeId} {v : AV} (h : minA (args.toList.map e) = some v) : opV C e (.call ⟨.builtin .min, args, ts⟩) H n = some (v, H, n) := by
 rw [opV_act (fun _ _ _ h => by cases h)]; simp only [act, h]; rfl
theorem o_append {s x : Operand} {ts tx : TypeId} {r : AV × Hs × Nat} (h : appendA C H n ts tx (e s) (e x) = some r) : opV C e (.call ⟨.builtin .append, #[s, x], #[ts, tx]⟩) H n = some r := by
 rw [opV_act (fun _ _ _ h => by cases h)]; simp [act, h]
theorem o_ncheck_pt {x : Operand} {id o : Nat} (h : e x = .pt id o) : opV C e (.nilCheck x) H n = some (.pt id o, H, n) := by
 rw [opV_act (fun _ _ _ h => by cases h)]; simp [act, h]
theorem o_dat {f : FuncId} {args : Array Operand} {ts : Array TypeId} {xs rs : List Dat} {H1 : Hs} (he : e (.func f) = .d (.fn f [])) (hs : C.sig f = .dat) (hf : frzAll H (args.toList.map e) = some (xs, H1)) (hc : callD C f xs = some rs) :
  opV C e (.call ⟨.value (.func f), args, ts⟩) H n = some (tupA (rs.map .d), H1, n) := by
 rw [opV]; simp [he, fnOf, hs, hf, hc]
theorem o_scal {f : FuncId} {args : Array Operand} {ts : Array TypeId} {xs rs : List Dat} (he : e (.func f) = .d (.fn f [])) (hs : C.sig f = .scal) (hf : seeAll (see 4 H) (args.toList.map e) = some xs) (hc : callD C f xs = some rs) (hp : rs.all plainD = true) :
  opV C e (.call ⟨.value (.func f), args, ts⟩) H n = some (tupA (rs.map .d), H, n) := by
 rw [opV]; simp only [he, fnOf, hs, List.map_nil, List.append_nil, hf, hc]
 show (if rs.all plainD = true then some (tupA (rs.map .d), H, n) else none) = _
 rw [if_pos hp]
section
variable {s : St} {ops : Array Oper} {rest : List Oper} {R : St → Prop}
end
theorem callD_of {f : FuncId} {xs rs : List Dat} {F : Func} {code : Code} (hx : C.ext f xs = none) (hf : C.fn f = some F) (hb : F.body = some code)
  (h : EC C code { regs := fun i => if i < xs.length then .d (xs.getD i default) else .undef, homes := fun _ => .dead, next := 0 } fun ex s => (∀ i, ex ≠ .exit i) ∧ ∃ vs rs' r, resultsA C s F.results.toList = some vs ∧ frzAll s.homes vs = some (rs', r) ∧ rs' = rs) :
  callD C f xs = some rs := by
 obtain ⟨⟨ex, s⟩, h1, h2, vs, rs', r, h3, h4, rfl⟩ := h
 rw [callD]
 simp only [hx, hf, hb]
 rw [show (runC C code _) = some (ex, s) from h1]
 cases ex with
 | exit i => exact absurd rfl (h2 i)
 | normal => simp [h3, h4]
 | ret => simp [h3, h4]
theorem callR_of {f : FuncId} {vs rs : List AV} {F : Func} {code : Code} {H1 : Hs} {n1 : Nat} (hf : C.fn f = some F) (hb : F.body = some code)
  (h : EC C code { regs := fun i => if i < vs.length then vs.getD i default else .undef, homes := H, next := n } fun ex s => (∀ i, ex ≠ .exit i) ∧ resultsA C s F.results.toList = some rs ∧ s.homes = H1 ∧ s.next = n1) :
  callR C f vs H n = some (rs, H1, n1) := by
 obtain ⟨⟨ex, s⟩, h1, h2, h3, h4, h5⟩ := h
 rw [callR]
 simp only [hf, hb]
 rw [show (runC C code _) = some (ex, s) from h1]
 cases ex with
 | exit i => exact absurd rfl (h2 i)
 | normal => simp only at h3 h4 h5; simp [h3, h4, h5]
 | ret => simp only at h3 h4 h5; simp [h3, h4, h5]
end
end Go.Jv
