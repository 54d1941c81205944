/- 'TreeMeasures' returns true of every input, and the input reads as it did. -/
import Derived.Test.YtdcpfmjnkcodiaaDoorWaC
import Derived.Test.YtdcpfmjnkcodiaaDoorTmQ
import Derived.Test.YtdcpfmjnkcodiaaDoorJwF
import Derived.Test.YtdcpfmjnkcodiaaDoorJvV
import Derived.Test.YtdcpfmjnkcodiaaDoorCards
import Derived.Test.YtdcpfmjnkcodiaaDoorTie
import Derived.WalkKit
import Derived.ProofKit
import Derived.OpenShut
import Derived.Deep.DeepHandedRow
import Derived.Lib.LaidTab
namespace Go.Proofs.YtdcpfmjnkcodiaaDoor.W
open Go Go.Jv Go.Proofs
open Go.ChangeShapes Go.WideShapes Go.ChangeAt Go.RowKit

theorem und3 : Tryd.prog.underlying 3 = some (.int .i64) := by kernel_rfl
theorem und9 : Tryd.prog.underlying 9 = some .string := by kernel_rfl
theorem und21 : Tryd.prog.underlying 21 = some (.int .i32) := by kernel_rfl
theorem und22 : Tryd.prog.underlying 22 = some (.slice 115) := by kernel_rfl
theorem und76 : Tryd.prog.underlying 76 = some (.struct (Tryd.prog.fieldsOf 76)) := by kernel_rfl
theorem fts76 : (Tryd.prog.fieldsOf 76).toList.map (·.type) = [3, 3] := by kernel_rfl
theorem und115 : Tryd.prog.underlying 115 = some (.struct (Tryd.prog.fieldsOf 115)) := by kernel_rfl
theorem fts115 : (Tryd.prog.fieldsOf 115).toList.map (·.type) = [3, 21, 9, 76] := by kernel_rfl
theorem bo115 : Tryd.prog.bytesOf 115 = 48 := by kernel_rfl

def PosT.wf (x : PosT) : Prop := inK .i64 x.Line ∧ inK .i64 x.Col
def NodeT.wf (x : NodeT) : Prop := inK .i64 x.Op ∧ inK .i32 x.Val ∧ strOk x.Name ∧ PosT.wf x.At

theorem dec76 {x : Dat} (h : Has Tryd.prog 76 x) : ∃ v : PosT, x = PosT.enc v ∧ PosT.wf v := by
  obtain ⟨parts, rfl, hp⟩ := has_struct und76 fts76 h
  match parts, hp with
  | [_, _], ⟨h0, h1, _⟩ =>
    obtain ⟨v0, rfl, w0⟩ := has_int und3 h0
    obtain ⟨v1, rfl, w1⟩ := has_int und3 h1
    exact ⟨⟨v0, v1⟩, rfl, w0, w1⟩
theorem dec115 {x : Dat} (h : Has Tryd.prog 115 x) : ∃ v : NodeT, x = NodeT.enc v ∧ NodeT.wf v := by
  obtain ⟨parts, rfl, hp⟩ := has_struct und115 fts115 h
  match parts, hp with
  | [_, _, _, _], ⟨h0, h1, h2, h3, _⟩ =>
    obtain ⟨v0, rfl, w0⟩ := has_int und3 h0
    obtain ⟨v1, rfl, w1⟩ := has_int und21 h1
    obtain ⟨v2, rfl, w2⟩ := has_str und9 h2
    obtain ⟨v3, rfl, w3⟩ := dec76 h3
    exact ⟨⟨v0, v1, v2, v3⟩, rfl, w0, w1, w2, w3⟩
theorem dec22 {x : Dat} (h : Has Tryd.prog 22 x) : ∃ v : List NodeT, x = .lst (v.map NodeT.enc) ∧ lstOk 48 NodeT.wf v := has_lst und22 bo115 (fun _ h => dec115 h) h

theorem law3 (xs : List Dat) (hl : xs.length = Tryd.f3.params.size) (hx : ∀ (i : Nat) t x, Tryd.f3.params[i]? = some t → xs[i]? = some x → Has Tryd.prog t x) : callD C 3 xs = some [.bool true] := by
  have hp : Tryd.f3.params.toList = [22, 3] := by kernel_rfl
  have ha : HasAll Tryd.prog [22, 3] xs := by
    rw [← hp]
    exact hasAll_of (by simpa using hl) fun i t x ht hx' => hx i t x (by simpa using ht) hx'
  match xs, ha with
  | [_, _], ⟨h0, h1, _⟩ =>
    obtain ⟨e, rfl, w0⟩ := dec22 h0
    obtain ⟨i, rfl, w1⟩ := has_int und3 h1
    have := len48 w0
    exact junctionlaw3_TreeMeasures_ok e i true (measures e i (by omega))

theorem own : ownKnob Tryd.prog.godebug = none := by kernel_rfl
theorem sound_ (f : FuncId) (xs rs : List Dat) (h : callD C f xs = some rs) : DSound Tryd.prog C f xs rs := sound (validOf (by kernel_rfl) _ _ _) (fun _ _ _ h => by cases h) f xs rs h

theorem gn2 : Tryd.prog.globalNamed "junction/arith.operands" = some 2 := by kernel_rfl
theorem gt2 : (Tryd.prog.globals[2]?).map (·.type) = some 225 := by kernel_rfl
theorem und225 : Tryd.prog.underlying 225 = some (.array 52 3) := by kernel_rfl
theorem gd2 : datumD (H := Unit) Rows.laid_junction_arith_operands = some (operandsTab.map (Dat.int .i64)) := by kernel_rfl

theorem globs {W : World} (h : laidMetH Tryd.prog Rows.treeMeasuresRow.laid W) (g : Nat) (cs : List Dat) (hg : C.glob g = some cs) : VR (fun b => b < W.heap.size) W (.ptr cs) (.pointer (some ⟨g, 0, none⟩)) := by
  obtain ⟨ps, h⟩ := h
  simp only [C, cfgOf, glob] at hg
  split at hg
  · rename_i e; subst e; cases hg
    exact glob_of_laid gn2 gt2 und225 (by kernel_rfl) (by kernel_rfl) (by kernel_rfl) gd2 (fun _ h => h) (laid := Rows.treeMeasuresRow.laid) List.mem_cons_self h.1
  · cases hg

set_option maxRecDepth 100000 in
theorem contract_ (H : Type) (enc : TypeId × Value → H) (W : World) (base : Nat) (args : Array Value) (ds gs : List (DataW H)) (before : List MemPlace)
    (hval : ∀ (j : Nat) t v, Tryd.f3.params[j]? = some t → args[j]? = some v → Value.okWide Tryd.prog W .any base t v)
    (hW : DataW.Whole enc Tryd.prog Tryd.f3.params.toList Rows.treeMeasuresSpec.vars false W args.toList ds gs before)
    (hw : (DataW.weightsEach Tryd.prog (Tryd.f3.params.toList ++ Rows.treeMeasuresSpec.plain.varTypes Tryd.prog) (ds ++ gs)).all (· ≤ reachBytes) = true) (hL : laidMetH Tryd.prog Rows.treeMeasuresRow.laid W) :
    Calls Tryd.prog 3 args W fun e W' => ∃ v, e = .returned v ∧ Rows.treeMeasuresSpec.post enc Tryd.prog Tryd.f3 false true false false W args v W' := by
  have hgs : gs = [] := by
    obtain ⟨p, q, _, hV, _⟩ := hW
    cases gs with
    | nil => rfl
    | cons => exact hV.elim
  subst hgs
  refine contract (fn := Tryd.f3) (T := [3, 9, 21, 22, 76, 115]) (bt := 4) sound_ (by kernel_rfl) (by kernel_rfl) (by kernel_rfl) (by kernel_rfl) (by kernel_rfl) rfl ?_ law3 hval hW ?_ (globs hL)
  · intro ds hds
    match ds, hds with
    | [_, _], _ => exact ⟨rfl, rfl, rfl⟩
  · intro n hn
    have hv : Tryd.f3.params.toList ++ Rows.treeMeasuresSpec.plain.varTypes Tryd.prog = Tryd.f3.params.toList := by kernel_rfl
    rw [hv, List.append_nil] at hw
    exact of_decide_eq_true (List.all_eq_true.1 hw n hn)

noncomputable def laidWorld (os : Os) : World :=
  { World.holding Tryd.prog os ⟨#[], #[], []⟩ with heap := (World.holding Tryd.prog os ⟨#[], #[], []⟩).heap.modify 2 fun
      | .cells _ t frozen => .cells (operandsTab.map (fun n => Value.int .i64 n)).toArray t frozen
      | o => o }
def wargs : Array Value := #[.slice none 0 0, .int .i64 0]
theorem laid_met (os : Os) : laidMet Tryd.prog Rows.treeMeasuresRow.laid ((laidWorld os).forCall (fun _ _ => 0) ⟨#[], wargs, []⟩).memory :=
  laidMet_of_run' 8 (by kernel_rfl) (by kernel_rfl)
theorem reads (os : Os) {H : Type} (enc : TypeId × Value → H) : ∃ places, DataW.whole enc Tryd.prog ((laidWorld os).forCall (fun _ _ => 0) ⟨#[], wargs, []⟩).memory Tryd.f3.params.toList Rows.treeMeasuresSpec.vars false wargs.toList 8 = some ([.nil, .lit (.int .i64 0)], [], places) :=
  ⟨[], by kernel_rfl⟩

set_option maxRecDepth 100000 in
theorem lifted (os : Os) (started : os.Started) (H : Type) (enc : TypeId × Value → H) (F : Stop.Interp) :
    ReturnsInHanded {} Tryd.checked os 3 .any ((OpenSpec.ofChange Rows.treeMeasuresSpec).preRow enc Tryd.prog Tryd.f3 Rows.treeMeasuresRow.domain false Rows.treeMeasuresRow.laid) (((OpenSpec.ofChange Rows.treeMeasuresSpec).at F).post enc Tryd.prog Tryd.f3 false true false false) := by
  obtain ⟨places, hx⟩ := reads os enc
  refine returnsInHanded_of_row (C := Tryd.checked) (s := OpenSpec.ofChange Rows.treeMeasuresSpec) own started (by kernel_rfl) Tryd.func3
    (witness_row_at (enc := enc) (C := Tryd.checked) false (laidWorld os) wargs rfl (by kernel_rfl) (by kernel_rfl) (by kernel_rfl)
      (OpenSpec.preRow_of_cond 8 hx (by kernel_rfl) (fun k hk => by cases hk) (by kernel_rfl) (laid_met os))) ?_
  intro W base args ds gs before hval hW _ _ hz hL _ _
  exact contract_ H enc W base args ds gs before hval hW hz hL

theorem said : Rows.TreeMeasuresSaid :=
  OpenClaim.holds_of_cond 3 Tryd.f3 rfl rfl rfl rfl rfl rfl rfl ⟨rfl, rfl, rfl, rfl, rfl⟩ rfl rfl rfl rfl rfl (by kernel_rfl) Tryd.func3 (by kernel_rfl)
    (of_decide_eq_true (by kernel_rfl)) (by unfold Func.isWrapper; first | (rw [if_pos (by decide +kernel)]; kernel_rfl) | (rw [if_neg (by decide +kernel)]; exact ⟨rfl, rfl⟩))
    (fun os started H enc _ F => by rw [OpenClaim.pre_eq_preRow]; exact lifted os started H enc F)

theorem plain (f : FuncId) (fn : Func) (hf : Tryd.pinned.checked.prog.funcNamed "junction/junctionlaw3.TreeMeasures" = some f) (hfn : Tryd.pinned.checked.prog.funcs[f]? = some fn) :
    true = Tryd.pinned.checked.prog.looks [] ∧ ∀ (j : Nat) t, fn.params[j]? = some t → Tryd.pinned.checked.prog.wantsStandIn t = false := by
  obtain rfl : f = 3 := Option.some.inj ((show Tryd.prog.funcNamed "junction/junctionlaw3.TreeMeasures" = some 3 by kernel_rfl).symm.trans hf) |>.symm
  obtain rfl : fn = Tryd.f3 := (Option.some.inj (Tryd.func3.symm.trans hfn)).symm
  refine ⟨by kernel_rfl, fun j t ht => ?_⟩
  have hall : Tryd.f3.params.toList.all (fun t => !Tryd.pinned.checked.prog.wantsStandIn t) = true := by kernel_rfl
  have := List.all_eq_true.1 hall t (by simpa using Array.mem_of_getElem? ht)
  simpa using this

theorem card : Rows.TreeMeasuresCardSaid :=
  Claim7.holds_tied_plain_at .later [] _ _ _ _ said (fun _ h => by cases h) (by kernel_rfl) (fun _ h => by cases h) treeMeasures_row_tie rfl ⟨rfl, rfl⟩ (by kernel_rfl) rfl plain (by kernel_rfl)
#print axioms card
end Go.Proofs.YtdcpfmjnkcodiaaDoor.W
