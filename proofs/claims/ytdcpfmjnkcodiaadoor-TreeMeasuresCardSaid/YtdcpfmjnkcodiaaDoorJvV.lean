/- A law's statement out of the abstract machine's answer. -/
import Derived.Test.YtdcpfmjnkcodiaaDoorJvU
import Derived.RowKit
import Derived.ChangeShapes
import Derived.OpenShut
import Derived.Below
namespace Go.Jv
open Go.ChangeShapes Go.RowKit

def litD : Lit → Option Dat
  | .bool b => some (.bool b)
  | .int k n => some (.int k n)
  | .string l => some (.str ⟨l.toArray⟩)
  | _ => none

def litsD {H : Type} : List (DataW H) → Option (List Dat)
  | [] => some []
  | .lit l :: r => match litD l, litsD r with | some x, some xs => some (x :: xs) | _, _ => none
  | _ => none

/-- the tree of a listed variable's datum -/
def datumD {H : Type} : DataW H → Option (List Dat)
  | .agg ps => litsD ps
  | _ => none

section
variable {P : Program} {S : Nat → Prop} {w : World}

def scalarT (P : Program) (t : TypeId) : Bool := match P.underlying t with | some (.int _) | some .string | some .bool => true | _ => false

theorem litD_sound {H : Type} {enc : TypeId × Value → H} {sp : Nat → Bool} {held : Bool} {fuel : Nat} {t : TypeId} (ht : scalarT P t = true) {cs : List Value} {l : Lit} {ps : List MemPlace} {x : Dat}
    (h : DataW.trod enc P w 0 sp held fuel t cs = some (.lit l, ps)) (hx : litD l = some x) : CellsD S w [x] cs := by
  cases fuel with
  | zero => simp [DataW.trod] at h
  | succ fuel =>
    unfold DataW.trod at h
    unfold scalarT at ht
    cases hu : P.underlying t with
    | none => simp [hu] at ht
    | some desc =>
      simp only [hu] at ht h
      cases desc with
      | bool =>
        rcases cs with _ | ⟨v, _ | ⟨v', cs⟩⟩
        · simp at h
        · cases v <;> simp at h
          obtain ⟨rfl, _⟩ := h
          simp only [litD, Option.some.injEq] at hx
          subst hx
          exact CellsD.single rfl (.bool _)
        · simp at h
      | int k =>
        rcases cs with _ | ⟨v, _ | ⟨v', cs⟩⟩
        · simp at h
        · cases v <;> simp at h
          obtain ⟨⟨rfl, _⟩, rfl, _⟩ := h
          simp only [litD, Option.some.injEq] at hx
          subst hx
          exact CellsD.single rfl (.int _ _)
        · simp at h
      | string =>
        rcases cs with _ | ⟨v, _ | ⟨v', cs⟩⟩
        · simp at h
        · cases v <;> simp at h
          obtain ⟨_, rfl, _⟩ := h
          simp only [litD, Option.some.injEq] at hx
          subst hx
          exact CellsD.single rfl (.str _)
        · simp at h
      | _ => simp at ht

theorem litsD_get {H : Type} : ∀ {ds : List (DataW H)} {xs : List Dat}, litsD ds = some xs → xs.length = ds.length ∧ ∀ (i : Nat) x, xs[i]? = some x → ∃ l, ds[i]? = some (.lit l) ∧ litD l = some x
  | [], xs, h => by simp [litsD] at h; subst h; exact ⟨rfl, fun i x h => by simp at h⟩
  | d :: ds, xs, h => by
    cases d <;> simp only [litsD, reduceCtorEq] at h
    rename_i l
    split at h
    · rename_i x xs' hx hxs
      cases h
      obtain ⟨h1, h2⟩ := litsD_get hxs
      refine ⟨by simp [h1], fun i y hy => ?_⟩
      match i with
      | 0 => simp at hy; subst hy; exact ⟨l, rfl, hx⟩
      | i + 1 => exact h2 i y (by simpa using hy)
    · cases h

/-- an array of numbers, of strings, that reads as listed -/
theorem datum_sound {H : Type} {enc : TypeId × Value → H} {sp : Nat → Bool} {held : Bool} {fuel : Nat} {t e : TypeId} {n : Nat} (hu : P.underlying t = some (.array n e)) (he : scalarT P e = true) (hc : P.cellsOf e = 1) (hn : P.cellsOf t = n)
    {cs : List Value} {d : DataW H} {ps : List MemPlace} {xs : List Dat} (h : DataW.trod enc P w 0 sp held fuel t cs = some (d, ps)) (hx : datumD d = some xs) : CellsD S w xs cs := by
  cases fuel with
  | zero => simp [DataW.trod] at h
  | succ fuel =>
    simp only [DataW.trod, hu, hc, hn, Nat.mul_one] at h
    split at h
    · rename_i hlen
      obtain ⟨ys, h1, h2⟩ := Option.map_eq_some_iff.1 h
      simp only [Prod.mk.injEq] at h2
      obtain ⟨rfl, _⟩ := h2
      obtain ⟨h3, h4⟩ := litsD_get hx
      obtain ⟨h5, h6⟩ := mapM_get h1
      simp only [List.length_map] at h3
      simp only [List.length_range] at h5
      refine ⟨by omega, fun j c u hj hcu => ?_⟩
      have hjn : j < n := by have := (List.getElem?_eq_some_iff.1 hj).1; omega
      obtain ⟨l, hl, hlx⟩ := h4 j c hj
      obtain ⟨y, hy, hf⟩ := h6 j j (by simp [hjn])
      rw [List.getElem?_map, hy] at hl
      obtain ⟨y1, y2⟩ := y
      simp only [Option.map_some, Option.some.injEq] at hl
      subst hl
      have hcd := litD_sound (S := S) he hf hlx
      have : (cs.drop j).take 1 = [u] := by
        apply List.ext_getElem?
        intro k
        rw [List.getElem?_take]
        match k with
        | 0 => simp [hcu]
        | k + 1 => simp
      rw [this] at hcd
      exact hcd.2 0 c u rfl rfl
    · cases h

/-- a listed variable is the tree that its datum says -/
theorem glob_of_laid {n : String} {d : DataW Unit} {g : Nat} (hg : P.globalNamed n = some g) {t e : TypeId} {m : Nat} (ht : (P.globals[g]?).map (·.type) = some t) (hu : P.underlying t = some (.array m e)) (he : scalarT P e = true)
    (hc : P.cellsOf e = 1) (hn : P.cellsOf t = m) {xs : List Dat} (hx : datumD d = some xs) (hS : ∀ b, b < w.heap.size → S b) : ∀ {laid : List (String × DataW Unit)} {ps : List MemPlace}, (n, d) ∈ laid → DataW.LaidVars P w laid ps → VR S w (.ptr xs) (.pointer (some ⟨g, 0, none⟩))
  | [], _, hm, _ => by simp at hm
  | (n', d') :: laid, ps, hm, h => by
    obtain ⟨g', t', cs, fuel, p, q, h1, h2, h3, h4, h5, _⟩ := h
    rcases List.mem_cons.1 hm with he' | hm
    · cases he'
      rw [hg] at h1; cases h1
      rw [ht] at h2; cases h2
      have hC := datum_sound (S := S) hu he hc hn h4 hx
      unfold World.var? at h3
      rw [hg] at h3
      simp only [Option.bind_some] at h3
      split at h3
      · rename_i cs' ty fr hh
        cases h3
        have hlt : g < w.heap.size := (Array.getElem?_eq_some_iff.1 hh).1
        have := CellsD.ptr (T := S) (b := g) hC hh (hS g hlt) 0
        simpa using this
      · cases h3
    · exact glob_of_laid hg ht hu he hc hn hx hS hm h5

theorem vr_of_cells {t : TypeId} {x : Dat} {v : Value} {r : Reach} {base : Nat} (hC : CellsD S w x.cells v.cells.toList) (hH : Has P t x) (hok : Value.okWide P w r base t v) : VR S w x v := by
  have one : x.cells = [x] → (∀ vs, v ≠ .agg vs) → VR S w x v := by
    intro h1 h2
    have hv : v.cells = #[v] := by cases v <;> first | rfl | exact absurd rfl (h2 _)
    rw [h1, hv] at hC
    exact (hC.2 0 x v rfl rfl).2
  have nagg : ∀ {d : TypeDesc}, P.underlying t = some d → isAgg d = false → ∀ vs, v ≠ .agg vs := by
    intro d hd hag vs e
    subst e
    unfold Value.okWide at hok
    rw [hd] at hok
    cases d <;> simp_all [Cell.okWide, Cell.ok, isAgg]
  have agg : ∀ {parts : List Dat}, x = .agg (parts.flatMap Dat.cells) → (∃ cs, v = .agg cs) → VR S w x v := by
    rintro parts rfl ⟨cs, rfl⟩
    exact .agg _ cs (by simpa [Dat.cells, Value.cells] using hC.1) (fun u hu => hC.one u (by simpa [Value.cells] using hu)) (fun j c u hj hu => (hC.2 j c u hj (by simpa [Value.cells] using hu)).2)
  cases hH with
  | bool b h => exact one rfl (nagg h rfl)
  | int n h hn => exact one rfl (nagg h rfl)
  | str s h hs => exact one rfl (nagg h rfl)
  | lst xs h hb hx => exact one rfl (nagg h rfl)
  | ptr y h hx => exact one rfl (nagg h rfl)
  | nilp h => exact one rfl (nagg h rfl)
  | struct parts h hl hx =>
    unfold Value.okWide at hok
    rw [h] at hok
    obtain ⟨cs, rfl, _⟩ := hok
    exact agg rfl ⟨cs, rfl⟩
  | array parts h hl hx =>
    unfold Value.okWide at hok
    rw [h] at hok
    obtain ⟨cs, rfl, _⟩ := hok
    exact agg rfl ⟨cs, rfl⟩

/-- each argument a tree of its type -/
theorem args_trees {H : Type} {enc : TypeId × Value → H} {sp : Nat → Bool} {held : Bool} {T : List TypeId} (hT : closedT P T = true) (hS : ∀ b, b < w.heap.size → S b) {r : Reach} {base : Nat} :
    ∀ {ts : List TypeId} {vs : List Value} {ds : List (DataW H)} {ps : List MemPlace}, (∀ t ∈ ts, t ∈ T) → DataW.TrodAll enc P w 0 sp held ts vs ds ps → (∀ n ∈ DataW.weightsEach P ts ds, n ≤ reachBytes) →
    (∀ (j : Nat) t v, ts[j]? = some t → vs[j]? = some v → Value.okWide P w r base t v) →
    ds.length = ts.length ∧ ∃ xs : List Dat, xs.length = ts.length ∧ xs.length = vs.length ∧ (∀ (i : Nat) x v, xs[i]? = some x → vs[i]? = some v → VR S w x v) ∧ ∀ (i : Nat) t x, ts[i]? = some t → xs[i]? = some x → Has P t x
  | [], [], [], _, _, _, _, _ => ⟨rfl, [], rfl, rfl, fun i x v h => by simp at h, fun i t x h => by simp at h⟩
  | t :: ts, v :: vs, d :: ds, ps, hts, h, hw, hok => by
    obtain ⟨p, q, ⟨fuel, h1⟩, h2, _⟩ := h
    simp only [DataW.weightsEach, List.mem_append] at hw
    obtain ⟨x, hC, hH⟩ := trod_has hT hS fuel t _ d p (hts t (by simp)) h1 (fun n hn => hw n (.inl hn))
    obtain ⟨hdl, xs, h3, h4, h5, h6⟩ := args_trees hT hS (fun t ht => hts t (by simp [ht])) h2 (fun n hn => hw n (.inr hn)) (fun j t v ht hv => hok (j + 1) t v ht hv)
    refine ⟨by simp [hdl], x :: xs, by simp [h3], by simp [h4], fun i y u hy hu => ?_, fun i t' y ht hy => ?_⟩
    · match i with
      | 0 => simp at hy hu; subst hy hu; exact vr_of_cells hC hH (hok 0 t v rfl rfl)
      | i + 1 => exact h5 i y u (by simpa using hy) (by simpa using hu)
    · match i with
      | 0 => simp at hy ht; subst hy ht; exact hH
      | i + 1 => exact h6 i t' y (by simpa using ht) (by simpa using hy)
  | [], [], _ :: _, _, _, h, _, _ => h.elim
  | [], _ :: _, _, _, _, h, _, _ => h.elim
  | _ :: _, [], _, _, _, h, _, _ => h.elim
  | _ :: _, _ :: _, [], _, _, h, _, _ => h.elim

theorem trodAll_below {H : Type} {enc : TypeId × Value → H} (hl : laidOutB P = true) {W W' : World} (hb : Below W.heap.size W W') : ∀ {ts : List TypeId} {vs : List Value} {ds : List (DataW H)} {ps : List MemPlace},
    (∀ t ∈ ts, P.readableRec t = true ∧ t < P.types.size) → DataW.TrodAll enc P W 0 (fun _ => true) true ts vs ds ps → (∀ x ∈ ps, x.block < W.heap.size) →
    DataW.TrodAll enc P W' 0 (fun b => decide (b < W.heap.size)) true ts vs ds ps
  | [], [], [], _, _, h, _ => h
  | t :: ts, v :: vs, d :: ds, ps, hts, h, hlt => by
    obtain ⟨p, q, h1, h2, rfl⟩ := h
    exact ⟨p, q, Below.trod hl (hts t (by simp)).1 (hts t (by simp)).2 h1 hb (fun x hx => hlt x (by simp [hx])), trodAll_below hl hb (fun t ht => hts t (by simp [ht])) h2 (fun x hx => hlt x (by simp [hx])), rfl⟩
  | [], [], _ :: _, _, _, h, _ => h.elim
  | [], _ :: _, _, _, _, h, _ => h.elim
  | _ :: _, [], _, _, _, h, _ => h.elim
  | _ :: _, _ :: _, [], _, _, h, _ => h.elim

/-- A LAW THAT ANSWERS true: what its row asks. -/
theorem contract {C : Cfg} (hsound : ∀ f xs rs, callD C f xs = some rs → DSound P C f xs rs) {H : Type} {enc : TypeId × Value → H} {s : ChangeSpec} {f : FuncId} {fn : Func} {fresh handsOn : Bool} {bt : TypeId} {T : List TypeId}
    (hl : laidOutB P = true) (hT : closedT P T = true) (hts : fn.params.toList.all (fun t => T.contains t && P.readableRec t && decide (t < P.types.size)) = true) (hres : fn.resultTypes = #[bt]) (hbt : P.underlying bt = some .bool) (hvars : s.vars = [])
    (hspec : ∀ ds : List (DataW H), ds.length = fn.params.size → (s.fn H ds).results = [.lit (.bool true)] ∧ (s.fn H ds).args = ds ∧ (s.fn H ds).vars = [])
    (hlaw : ∀ xs : List Dat, xs.length = fn.params.size → (∀ (i : Nat) t x, fn.params[i]? = some t → xs[i]? = some x → Has P t x) → callD C f xs = some [.bool true])
    {W : World} {base : Nat} {args : Array Value} {ds gs : List (DataW H)} {before : List MemPlace} (hval : ∀ (j : Nat) t v, fn.params[j]? = some t → args[j]? = some v → Value.okWide P W .any base t v)
    (hW : DataW.Whole enc P fn.params.toList s.vars false W args.toList ds gs before) (hw : ∀ n ∈ DataW.weightsEach P fn.params.toList ds, n ≤ reachBytes)
    (hglob : ∀ g cs, C.glob g = some cs → VR (fun b => b < W.heap.size) W (.ptr cs) (.pointer (some ⟨g, 0, none⟩))) :
    Calls P f args W fun e W' => ∃ v, e = .returned v ∧ s.post enc P fn false fresh handsOn false W args v W' := by
  have hlt : ∀ x ∈ before, x.block < W.heap.size := hW.lt
  have hW' := hW
  obtain ⟨p, q, hA, hV, rfl, hfz, hnd⟩ := hW
  rw [hvars] at hV
  have hgs : gs = [] ∧ q = [] := by
    cases gs with
    | nil => exact ⟨rfl, hV⟩
    | cons => exact hV.elim
  obtain ⟨rfl, rfl⟩ := hgs
  have htT : ∀ t ∈ fn.params.toList, t ∈ T ∧ P.readableRec t = true ∧ t < P.types.size := by
    intro t ht
    have := List.all_eq_true.1 hts t ht
    simp only [Bool.and_eq_true, decide_eq_true_eq] at this
    exact ⟨List.contains_iff_mem.1 this.1.1, this.1.2, this.2⟩
  obtain ⟨hdl, xs, h1, h2, h3, h4⟩ := args_trees (S := fun b => b < W.heap.size) hT (fun _ h => h) (fun t ht => (htT t ht).1) hA hw (fun j t v ht hv => hval j t v (by simpa using ht) (by simpa using hv))
  have hps : ds.length = fn.params.size := by simpa using hdl
  obtain ⟨hs1, hs2, hs3⟩ := hspec ds hps
  have hD := hsound f xs _ (hlaw xs (by simpa using h1) (fun i t x ht hx => h4 i t x (by simpa using ht) hx))
  refine Calls.mono' (hD.2 (fun b => b < W.heap.size) W args (fun _ h => h) hglob (by rw [h2]; simp) (fun i x u hx hu => h3 i x u hx (by simpa using hu))) ?_
  intro e W1 hr
  cases e with
  | returned v =>
    obtain ⟨S1, hg, hv⟩ := hr
    have hv' : v = .bool true := by
      simp only [List.map_cons, List.map_nil, tupA] at hv
      exact hv.dV.boolV
    subst hv'
    have hb : Below W.heap.size W W1 := ⟨hg.os, hg.tape, hg.output, hg.size, hg.keep⟩
    refine ⟨_, rfl, ds, [], p ++ [], [], p, [], hW', ?_, ?_, ?_, hb.frame _, fun h => by cases h⟩
    · rw [List.append_nil, hs1, hres]
      exact trodAll_mk1 (shut_bool hbt true)
    · rw [List.append_nil, hs2]
      exact trodAll_below hl hb (fun t ht => (htT t ht).2) hA (fun x hx => hlt x (by simp [hx]))
    · rw [List.append_nil, hs3, hvars]
      rfl
  | _ => exact hr.elim

end
end Go.Jv
