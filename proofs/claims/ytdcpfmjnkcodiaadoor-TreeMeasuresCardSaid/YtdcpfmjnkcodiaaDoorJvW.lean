/- The abstract machine of a program: its tables off the program's own. -/
import Derived.Test.YtdcpfmjnkcodiaaDoorJvV
import Derived.Laws.StructEq
namespace Go.Jv

def isAggV : Value → Bool
  | .agg _ => true
  | _ => false

def tyOf (P : Program) (t : TypeId) : Option Ty :=
  match P.info? t, P.underlying t with
  | some i, some d =>
    match i.zero with
    | some z =>
      if z.cells.size = i.size ∧ z.cells.all (·.oneCell') = true ∧ (if isAgg d = true then isAggV z = true else i.size = 1) ∧ (match d with | .struct fs => fs.all fun f => (P.info? f.type).isSome | _ => true) = true then
        some ⟨d, i.size, i.bytes, z.cells.toList.map cav⟩
      else none
    | none => none
  | _, _ => none

def fnOk (P : Program) (f : FuncId) : Option Func :=
  match P.funcs[f]? with
  | some F => if funcOk F = true ∧ (F.name == "runtime.NumGoroutine") = false then some F else none
  | none => none

/-- types whose values are told apart cell by cell: how each cell is -/
def flatK (P : Program) : Nat → TypeId → Option (List Nat)
  | 0, _ => none
  | d + 1, t =>
    if (tyOf P t).isSome = true then
      match P.underlying t with
      | some .bool => if P.cellsOf t = 1 then some [0] else none
      | some (.int _) => if P.cellsOf t = 1 then some [1] else none
      | some .string => if P.cellsOf t = 1 then some [2] else none
      | some (.struct fs) => if fs.toList.all (fun f => f.name != "_") = true ∧ consec P 0 fs.toList (P.cellsOf t) = true ∧ P.stoodInHeld t = false then (fs.toList.mapM fun f => flatK P d f.type).map List.flatten else none
      | _ => none
    else none

def eqOf (P : Program) (t : TypeId) : Option (List Nat) := if P.eqGuardType P.depth t then none else flatK P 4 t

def cfgOf (P : Program) (glob : Nat → Option (List Dat)) (sig : FuncId → Sig) (ext : FuncId → List Dat → Option (List Dat)) : Cfg :=
  { ty := tyOf P, glob, fn := fnOk P, sig, eqs := eqOf P, ext }

section
variable {P : Program} {S : Nat → Prop} {w : World}

theorem tyOf_sound {t : TypeId} {y : Ty} (h : tyOf P t = some y) :
    P.underlying t = some y.desc ∧ (∃ i z, P.info? t = some i ∧ i.size = y.size ∧ i.bytes = y.bytes ∧ i.zero = some z ∧ ZeroR y z) ∧ ∀ fs : Array Field, y.desc = .struct fs → ∀ f ∈ fs, (P.info? f.type).isSome = true := by
  unfold tyOf at h
  split at h
  · rename_i i d hi hd
    split at h
    · rename_i z hz
      simp only [Option.ite_none_right_eq_some, Option.some.injEq] at h
      obtain ⟨⟨h1, h2, h3, h4⟩, rfl⟩ := h
      · skip
        refine ⟨hd, ⟨i, z, hi, rfl, rfl, hz, h1, by simpa using h1, fun u hu => Array.all_eq_true_iff_forall_mem.1 h2 u hu, fun j c hj => ?_, fun ha => ?_, fun ha => ?_⟩, fun fs hfs f hf => ?_⟩
        · simp only [List.getElem?_map] at hj
          obtain ⟨u, hu, rfl⟩ := Option.map_eq_some_iff.1 hj
          have hu' : z.cells[j]? = some u := by simpa using hu
          exact ⟨u, hu', fun S w B => cav_sound (Array.all_eq_true_iff_forall_mem.1 h2 u (Array.mem_of_getElem? hu'))⟩
        · simp only at ha
          rw [if_pos ha] at h3
          cases z <;> simp [isAggV] at h3
          rfl
        · simp only at ha
          rw [ha] at h3
          simpa using h3
        · simp only at hfs
          subst hfs
          exact Array.all_eq_true_iff_forall_mem.1 h4 f hf
    · cases h
  · cases h

theorem eqAll_split : ∀ (n : Nat) {qs : List Nat} {ds es : List Dat} {r : Bool}, eqAll qs ds es = some r → ∃ r1 r2, eqAll (qs.take n) (ds.take n) (es.take n) = some r1 ∧ eqAll (qs.drop n) (ds.drop n) (es.drop n) = some r2 ∧ r = (r1 && r2)
  | 0, qs, ds, es, r, h => ⟨true, r, rfl, h, rfl⟩
  | n + 1, [], [], [], r, h => by simp only [eqAll, Option.some.injEq] at h; subst h; exact ⟨true, true, rfl, rfl, rfl⟩
  | n + 1, [], [], _ :: _, r, h => by simp [eqAll] at h
  | n + 1, [], _ :: _, _, r, h => by simp [eqAll] at h
  | n + 1, _ :: _, [], _, r, h => by simp [eqAll] at h
  | n + 1, _ :: _, _ :: _, [], r, h => by simp [eqAll] at h
  | n + 1, q :: qs, d :: ds, e :: es, r, h => by
    simp only [eqAll] at h
    split at h
    · rename_i a b h1 h2
      cases h
      obtain ⟨r1, r2, h3, h4, h5⟩ := eqAll_split n h2
      exact ⟨a && r1, r2, by simp [eqAll, h1, h3], h4, by rw [h5, Bool.and_assoc]⟩
    · cases h

theorem eqAll_len : ∀ {qs : List Nat} {ds es : List Dat} {r : Bool}, eqAll qs ds es = some r → ds.length = qs.length ∧ es.length = qs.length
  | [], [], [], r, _ => ⟨rfl, rfl⟩
  | [], [], _ :: _, r, h => by simp [eqAll] at h
  | [], _ :: _, _, r, h => by simp [eqAll] at h
  | _ :: _, [], _, r, h => by simp [eqAll] at h
  | _ :: _, _ :: _, [], r, h => by simp [eqAll] at h
  | q :: qs, d :: ds, e :: es, r, h => by
    simp only [eqAll] at h
    split at h
    · rename_i a b h1 h2
      have := eqAll_len h2
      simp [this.1, this.2]
    · cases h

theorem CellsD.takeN {cs : List Dat} {us : List Value} (h : CellsD S w cs us) (n : Nat) : CellsD S w (cs.take n) (us.take n) ∧ CellsD S w (cs.drop n) (us.drop n) := by
  refine ⟨⟨by simp [h.1], fun j c u hj hu => ?_⟩, ⟨by simp [h.1], fun j c u hj hu => ?_⟩⟩
  · rw [List.getElem?_take] at hj hu
    split at hj
    · rename_i hlt; rw [if_pos hlt] at hu; exact h.2 j c u hj hu
    · cases hj
  · rw [List.getElem?_drop] at hj hu
    exact h.2 _ c u hj hu

/-- the same with no '==' of structs -/
def cfg0 (P : Program) : Cfg := { ty := tyOf P, glob := fun _ => none, fn := fun _ => none, sig := fun _ => .dat, eqs := fun _ => none, ext := fun _ _ => none }

theorem valid0 (hm : P.follows .mixedOrders = true) : Valid P (cfg0 P) :=
  ⟨fun t y h => ⟨(tyOf_sound h).1, (tyOf_sound h).2.1⟩, fun f F h => (by cases h), hm, fun t y h => (tyOf_sound h).2.2, fun t qs y h => (by cases h)⟩

theorem eqf_last' {d : Nat} {xs ys : Array Value} : (Op.eqFields d xs ys []).run P w = .ok true w := by simp [Op.eqFields]

theorem eqf_cons' {d : Nat} {xs ys : Array Value} {f : Field} {fs : List Field} {a b : Value} {r s : Bool} (hn : f.name ≠ "_") (ha : (part f.type xs f.offset).run P w = .ok a w) (hb : (part f.type ys f.offset).run P w = .ok b w)
    (he : (Op.equalIn d f.type a b).run P w = .ok r w) (hr : (Op.eqFields d xs ys fs).run P w = .ok s w) : (Op.eqFields d xs ys (f :: fs)).run P w = .ok (r && s) w := by
  rw [Op.eqFields]
  simp only [if_pos hn, Sem.run_bind, ha, hb, he, Result.andThen_ok]
  cases r
  · simp
  · simpa using hr

theorem consec_le : ∀ {l : List Field} {o n : Nat}, consec P o l n = true → o ≤ n
  | [], o, n, h => by simp only [consec, beq_iff_eq] at h; omega
  | g :: l, o, n, h => by simp only [consec, Bool.and_eq_true] at h; have := consec_le h.2; omega

theorem mkV_some {g : Bool} {us : List Value} (h : g = false → us.length = 1) : ∃ v, mkV g us = some v := by
  cases g with
  | true => exact ⟨_, rfl⟩
  | false =>
    match us, h rfl with
    | [u], _ => exact ⟨u, rfl⟩

theorem flatK_some {d : Nat} {t : TypeId} {qs : List Nat} (h : flatK P d t = some qs) : ∃ y, tyOf P t = some y := by
  cases d with
  | zero => simp [flatK] at h
  | succ d =>
    simp only [flatK] at h
    split at h
    · rename_i hs; exact Option.isSome_iff_exists.1 hs
    · cases h

theorem flatK_len : ∀ (d : Nat) (t : TypeId) (qs : List Nat), flatK P d t = some qs → qs.length = P.cellsOf t := by
  intro d
  induction d with
  | zero => intro t qs h; simp [flatK] at h
  | succ d ih =>
    intro t qs h
    simp only [flatK] at h
    split at h
    · split at h
      · simp only [Option.ite_none_right_eq_some, Option.some.injEq] at h; rw [h.1, ← h.2]; rfl
      · simp only [Option.ite_none_right_eq_some, Option.some.injEq] at h; rw [h.1, ← h.2]; rfl
      · simp only [Option.ite_none_right_eq_some, Option.some.injEq] at h; rw [h.1, ← h.2]; rfl
      · rename_i fs hu
        simp only [Option.ite_none_right_eq_some] at h
        obtain ⟨⟨_, h2, _⟩, h⟩ := h
        obtain ⟨qss, hqs, rfl⟩ := Option.map_eq_some_iff.1 h
        have key : ∀ (l : List Field) (off n : Nat) (qss : List (List Nat)), consec P off l n = true → l.mapM (fun f => flatK P d f.type) = some qss → off + qss.flatten.length = n := by
          intro l
          induction l with
          | nil => intro off n qss hc hq; simp at hq; subst hq; simpa [consec] using hc
          | cons f l ihl =>
            intro off n qss hc hq
            simp only [consec, Bool.and_eq_true, beq_iff_eq] at hc
            rw [List.mapM_cons] at hq
            obtain ⟨q1, hq1, hq⟩ := Option.bind_eq_some_iff.1 hq
            obtain ⟨qss', hqs', hq⟩ := Option.bind_eq_some_iff.1 hq
            cases hq
            have := ihl _ _ _ hc.2 hqs'
            rw [List.flatten_cons, List.length_append, ih _ _ hq1]
            omega
        have := key fs.toList 0 _ qss h2 hqs
        omega
      · cases h
    · cases h

theorem flat_sound (hm : P.follows .mixedOrders = true) : ∀ (d : Nat) (t : TypeId) (dd : TypeDesc) (qs : List Nat), flatK P d t = some qs → P.underlying t = some dd → ∀ (ds es : List Dat) (us vs : List Value) (r : Bool), eqAll qs ds es = some r →
    CellsD S w ds us → CellsD S w es vs → us.length = P.cellsOf t → vs.length = P.cellsOf t → ∀ x y, mkV (isAgg dd) us = some x → mkV (isAgg dd) vs = some y → ∀ k, (Op.equalIn (d + k) t x y).run P w = .ok r w := by
  intro d
  induction d with
  | zero => intro t dd qs h; simp [flatK] at h
  | succ d ih =>
    intro t dd qs h hu ds es us vs r hr hA hB hl hl' x y hx hy k
    simp only [flatK, hu] at h
    split at h
    · rw [show d + 1 + k = (d + k) + 1 by omega]
      have scal : ∀ q, qs = [q] → isAgg dd = false → (∀ a b, VR S w a x → VR S w b y → eqD q a b = some r → (Op.equalIn ((d + k) + 1) t x y).run P w = .ok r w) → (Op.equalIn ((d + k) + 1) t x y).run P w = .ok r w := by
        intro q hq hag hf
        subst hq
        rw [hag] at hx hy
        obtain ⟨e1, e2⟩ := eqAll_len hr
        match ds, e1 with
        | [a], _ =>
          match es, e2 with
          | [b], _ =>
            match us, hA with
            | [u], hA =>
              match vs, hB with
              | [v], hB =>
                simp only [mkV, Bool.false_eq_true, if_false, Option.some.injEq] at hx hy
                subst hx hy
                simp only [eqAll] at hr
                split at hr
                · rename_i r1 r2 h1 h2
                  simp only [Option.some.injEq] at h2 hr
                  subst h2
                  rw [Bool.and_true] at hr
                  subst hr
                  exact hf a b (hA.2 0 a u rfl rfl).2 (hB.2 0 b v rfl rfl).2 h1
                · cases hr
              | [], hB => exact absurd hB.1 (by simp)
              | _ :: _ :: _, hB => exact absurd hB.1 (by simp)
            | [], hA => exact absurd hA.1 (by simp)
            | _ :: _ :: _, hA => exact absurd hA.1 (by simp)
      cases dd with
      | bool =>
        simp only [Option.ite_none_right_eq_some, Option.some.injEq] at h
        refine scal 0 h.2.symm rfl fun a b ha hb he => ?_
        unfold eqD at he
        split at he <;> first | (cases he; done) | skip
        · exact absurd ‹0 = 1› (by decide)
        · cases he
          obtain rfl := ha.boolV
          obtain rfl := hb.boolV
          simp only [Op.equalIn, Sem.run_bind, run_underlying hu w, Result.andThen_ok]
          simp [BEq.beq]
        · exact absurd ‹0 = 2› (by decide)
      | int kk =>
        simp only [Option.ite_none_right_eq_some, Option.some.injEq] at h
        refine scal 1 h.2.symm rfl fun a b ha hb he => ?_
        unfold eqD at he
        split at he <;> first | (cases he; done) | skip
        · split at he
          · rename_i hk
            cases he
            subst hk
            obtain rfl := ha.intV
            obtain rfl := hb.intV
            simp only [Op.equalIn, Sem.run_bind, run_underlying hu w, Result.andThen_ok]
            simp [BEq.beq]
          · cases he
        · exact absurd ‹1 = 0› (by decide)
        · exact absurd ‹1 = 2› (by decide)
      | string =>
        simp only [Option.ite_none_right_eq_some, Option.some.injEq] at h
        refine scal 2 h.2.symm rfl fun a b ha hb he => ?_
        unfold eqD at he
        split at he <;> first | (cases he; done) | skip
        · exact absurd ‹2 = 1› (by decide)
        · exact absurd ‹2 = 0› (by decide)
        · cases he
          obtain rfl := ha.strV
          obtain rfl := hb.strV
          simp only [Op.equalIn, Sem.run_bind, run_underlying hu w, Result.andThen_ok]
          rw [beq_toListBytes, str_beq]
          simp
      | struct fs =>
        simp only [Option.ite_none_right_eq_some] at h
        obtain ⟨⟨h1, h2, h3⟩, h⟩ := h
        obtain ⟨qss, hqs, rfl⟩ := Option.map_eq_some_iff.1 h
        simp only [isAgg, mkV, if_true, Option.some.injEq] at hx hy
        subst hx hy
        have hf : P.fieldsOf t = fs := by simp [Program.fieldsOf, hu]
        rw [run_equalIn_struct (P := P) w (d + k) t _ _ (by rw [hf]; exact hu) h3, hf]
        have key : ∀ (l : List Field) (off : Nat) (r : Bool) (qss : List (List Nat)), consec P off l us.length = true → (∀ f ∈ l, f.name ≠ "_") → l.mapM (fun f => flatK P d f.type) = some qss → eqAll qss.flatten (ds.drop off) (es.drop off) = some r →
            (Op.eqFields (d + k) us.toArray vs.toArray l).run P w = .ok r w := by
          intro l
          induction l with
          | nil =>
            intro off r qss hc _ hq hr
            simp at hq
            subst hq
            cases hds : ds.drop off with
            | cons => rw [hds] at hr; simp [eqAll] at hr
            | nil =>
              cases hes : es.drop off with
              | cons => rw [hds, hes] at hr; simp [eqAll] at hr
              | nil =>
                rw [hds, hes] at hr
                simp only [List.flatten_nil, eqAll, Option.some.injEq] at hr
                subst hr
                exact eqf_last'
          | cons f l ihl =>
            intro off r qss hc hall hq hr
            simp only [consec, Bool.and_eq_true, beq_iff_eq] at hc
            rw [List.mapM_cons] at hq
            obtain ⟨q1, hq1, hq⟩ := Option.bind_eq_some_iff.1 hq
            obtain ⟨qss', hqs', hq⟩ := Option.bind_eq_some_iff.1 hq
            cases hq
            rw [List.flatten_cons] at hr
            have hle := consec_le hc.2
            obtain ⟨yf, hyf⟩ := flatK_some hq1
            obtain ⟨huf, ⟨i, z, hi, hsz, _, _, hzr⟩, _⟩ := tyOf_sound hyf
            have hcell : P.cellsOf f.type = yf.size := by simp [Program.cellsOf, hi, hsz]
            -- as many kinds as cells
            obtain ⟨r1, r2, e1, e2, rfl⟩ := eqAll_split q1.length hr
            simp only [List.take_left, List.drop_left] at e1 e2
            have hql := flatK_len _ _ _ hq1
            rw [hql] at e1 e2
            rw [List.drop_drop, List.drop_drop] at e2
            have hag : isAgg yf.desc = false → yf.size = 1 := hzr.2.2.2.2.2
            obtain ⟨xa, hxa⟩ := mkV_some (g := isAgg yf.desc) (us := (us.drop off).take (P.cellsOf f.type)) (fun h => by rw [List.length_take, List.length_drop, hcell, hag h]; have := hag h; omega)
            obtain ⟨ya, hya⟩ := mkV_some (g := isAgg yf.desc) (us := (vs.drop off).take (P.cellsOf f.type)) (fun h => by rw [List.length_take, List.length_drop, hcell, hag h]; have := hag h; omega)
            have hsT : sizeT (cfg0 P) f.type = some (P.cellsOf f.type) := by simp [sizeT, cfg0, hyf, hcell]
            have haT : aggT (cfg0 P) f.type = some (isAgg yf.desc) := by simp [aggT, cfg0, hyf]
            have pa := run_part (w := w) (valid0 hm) hsT haT (vs := us.toArray) (off := off) (by simp; omega) (by simpa using hxa)
            have pb := run_part (w := w) (valid0 hm) hsT haT (vs := vs.toArray) (off := off) (by simp; omega) (by simpa using hya)
            have he := ih f.type yf.desc q1 hq1 huf _ _ _ _ r1 e1 ((hA.takeN off).2.takeN (P.cellsOf f.type)).1 ((hB.takeN off).2.takeN (P.cellsOf f.type)).1 (by simp; omega) (by simp; omega) xa ya hxa hya k
            rw [← hc.1] at pa pb
            exact eqf_cons' (hall f (by simp)) pa pb he (ihl _ r2 qss' hc.2 (fun g hg => hall g (by simp [hg])) hqs' e2)
        refine key fs.toList 0 r qss (by rw [hl]; exact h2) (fun f hf => ?_) hqs (by simpa using hr)
        have := List.all_eq_true.1 h1 f hf
        simpa using this
      | _ => simp at h
    · cases h

/-- the abstract machine of a program fits it -/
theorem validOf (hm : P.follows .mixedOrders = true) (glob : Nat → Option (List Dat)) (sig : FuncId → Sig) (ext : FuncId → List Dat → Option (List Dat)) : Valid P (cfgOf P glob sig ext) := by
  refine ⟨fun t y h => ⟨(tyOf_sound h).1, (tyOf_sound h).2.1⟩, fun f F h => ?_, hm, fun t y h => (tyOf_sound h).2.2, fun t qs y h hy fs hfs xs ys ds es r w x0 y0 hr hx hy0 => ?_⟩
  · simp only [cfgOf, fnOk] at h
    split at h
    · rename_i F' hf
      simp only [Option.ite_none_right_eq_some, Option.some.injEq] at h
      obtain ⟨⟨h1, h2⟩, rfl⟩ := h
      exact ⟨hf, h1, h2⟩
    · cases h
  · simp only [cfgOf, eqOf] at h
    split at h
    · cases h
    · rename_i hg
      have hg : P.eqGuardType P.depth t = false := by simpa using hg
      obtain ⟨hu, _, _⟩ := tyOf_sound hy
      have hlen := flatK_len _ _ _ h
      obtain ⟨l1, l2⟩ := eqAll_len hr
      have c1 : CellsD (fun _ => False) w ds xs.toList := by
        cases hx (fun _ => False) w with
        | agg _ _ hl ho hv => exact ⟨by simpa using hl, fun j c u hj hu => ⟨ho u (Array.mem_of_getElem? (by simpa using hu)), hv j c u hj (by simpa using hu)⟩⟩
      have c2 : CellsD (fun _ => False) w es ys.toList := by
        cases hy0 (fun _ => False) w with
        | agg _ _ hl ho hv => exact ⟨by simpa using hl, fun j c u hj hu => ⟨ho u (Array.mem_of_getElem? (by simpa using hu)), hv j c u hj (by simpa using hu)⟩⟩
      have he := flat_sound hm 4 t y.desc qs h hu ds es xs.toList ys.toList r hr c1 c2 (by rw [← c1.1, l1, hlen]) (by rw [← c2.1, l2, hlen]) (.agg xs) (.agg ys) (by rw [hfs]; simp [isAgg, mkV]) (by rw [hfs]; simp [isAgg, mkV]) 9996
      have he' : (Op.equal t (.agg xs) (.agg ys)).run P w = .ok r w := he
      have hgd : ∀ op, (eqGuard op t x0 y0 (.agg xs) (.agg ys)).run P w = .ok () w := by
        intro op
        unfold eqGuard
        cases op <;> simp [hg]
      refine ⟨?_, ?_⟩ <;> rw [Sem.run_bind, hgd, Result.andThen_ok] <;> simp [binOp, he']

end
end Go.Jv
