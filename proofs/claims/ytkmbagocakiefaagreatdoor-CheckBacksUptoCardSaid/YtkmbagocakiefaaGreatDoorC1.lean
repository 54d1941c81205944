/- 'CheckBacks' keeps its Fh: walk and law io. -/
import Derived.Test.YtkmbagocakiefaaGreatDoorX1
import Derived.Test.YtkmbagocakiefaaGreatDoorK6
import Derived.Test.YtkmbagocakiefaaGreatDoorL8
import Derived.Test.YtkmbagocakiefaaGreatDoorCards
import Derived.Test.YtkmbagocakiefaaGreatDoorTie
import Derived.WalkKit
import Derived.ProofKit
import Derived.OpenShut
import Derived.Deep.DeepHandedRow
import Derived.Lib.LaidTab
import Derived.Laws.Externs
namespace Go.Proofs.YtkmbagocakiefaaGreatDoor.Wb
open Go Go.Jv Go.Proofs
open Go.ChangeShapes Go.WideShapes Go.ChangeAt Go.RowKit
theorem QY (xs : List Dat) (hl : xs.length = Tryz.f3.params.size) (hx : ∀ (i : Nat) t x, Tryz.f3.params[i]? = some t → xs[i]? = some x → Has Tryz.prog t x) (hb : cE xs ≤ 1048576) : aL C 3 xs = some [.bool true] := by
 have hp : Tryz.f3.params.toList = [31] := by kernel_rfl
 have ha : C9 Tryz.prog [31] xs := by
  rw [← hp]
  exact DG (by simpa using hl) fun i t x ht hx' => hx i t x (by simpa using ht) hx'
 match xs, ha with
 | [_], ⟨h0, _⟩ =>
  obtain ⟨v0, rfl, w0⟩ := N5 h0
  exact AE v0 true (Lg v0 w0 hb)
theorem own : ownKnob Tryz.prog.godebug = none := by kernel_rfl
theorem Ml (f : FuncId) (xs rs : List Dat) (h : C.ext f xs = some rs) : xg Tryz.prog f xs rs := by
 have h1 : ext f xs = some rs := h
 clear h
 unfold ext at h1
 split at h1
 case isFalse => cases h1
 case isTrue hf =>
  subst hf
  split at h1
  case h_2 => cases h1
  case h_1 a0 a1 =>
   obtain rfl := Option.some.inj h1
   intro S w args hs hv
   refine ⟨⟨_, Tryz.func102⟩, .int .i64 (firstIdx a0 a1.toNat.toUInt8), ?_, .d _ _ (.int _ _)⟩
   have e0 : args[0]? = some (.string a0) := by
    have hlt : 0 < args.size := by rw [hs]; simp
    rw [Array.getElem?_eq_getElem hlt, (hv 0 _ _ rfl (Array.getElem?_eq_getElem hlt)).strV]
   have e1 : args[1]? = some (.int .u8 a1) := by
    have hlt : 1 < args.size := by rw [hs]; simp
    rw [Array.getElem?_eq_getElem hlt, (hv 1 _ _ rfl (Array.getElem?_eq_getElem hlt)).intV]
   have ea : args = #[.string a0, .int .u8 a1] := by
    apply Array.ext'
    match args, hs, e0, e1 with
    | ⟨[x, y]⟩, _, e0, e1 =>
     simp at e0 e1
     simp [e0, e1]
   subst ea
   rw [run_callFunc_extern (e := Extern.BytealgIndexByte.indexByte) Tryz.func102 (by kernel_rfl) (by kernel_rfl) (by kernel_rfl) (by kernel_rfl), run_indexByte_string]
   rfl
theorem Mm (xs rs : List Dat) (h : aL C 3 xs = some rs) : Ba Tryz.prog C 3 xs rs := Gq (KL (by kernel_rfl) _ _ _) Ml 3 (fun xs => bu 3 xs rfl) xs rs h
theorem gn0 : Tryz.prog.globalNamed "junction/junctionref2.words" = some 0 := by kernel_rfl
theorem gt0 : (Tryz.prog.globals[0]?).map (·.type) = some 152 := by kernel_rfl
theorem GR : Tryz.prog.underlying 152 = some (.array 41 9) := by kernel_rfl
theorem gd0 : rY (H := Unit) Rows.laid_junction_junctionref2_words = some (jx.map (Dat.str)) := by kernel_rfl
theorem gn1 : Tryz.prog.globalNamed "junction/junctionref2.signs" = some 1 := by kernel_rfl
theorem gt1 : (Tryz.prog.globals[1]?).map (·.type) = some 153 := by kernel_rfl
theorem GS : Tryz.prog.underlying 153 = some (.array 18 9) := by kernel_rfl
theorem gd1 : rY (H := Unit) Rows.laid_junction_junctionref2_signs = some (jy.map (Dat.str)) := by kernel_rfl
theorem gn2 : Tryz.prog.globalNamed "junction/lex.words" = some 2 := by kernel_rfl
theorem gt2 : (Tryz.prog.globals[2]?).map (·.type) = some 152 := by kernel_rfl
theorem gd2 : rY (H := Unit) Rows.laid_junction_lex_words = some (bY.map (Dat.str)) := by kernel_rfl
theorem gn3 : Tryz.prog.globalNamed "junction/lex.signs" = some 3 := by kernel_rfl
theorem gt3 : (Tryz.prog.globals[3]?).map (·.type) = some 153 := by kernel_rfl
theorem gd3 : rY (H := Unit) Rows.laid_junction_lex_signs = some (bI.map (Dat.str)) := by kernel_rfl
theorem gn4 : Tryz.prog.globalNamed "junction/arith.operands" = some 4 := by kernel_rfl
theorem gt4 : (Tryz.prog.globals[4]?).map (·.type) = some 177 := by kernel_rfl
theorem L8 : Tryz.prog.underlying 177 = some (.array 52 3) := by kernel_rfl
theorem gd4 : rY (H := Unit) Rows.laid_junction_arith_operands = some (fb.map (Dat.int .i64)) := by kernel_rfl
theorem OI {W : World} (h : laidMetH Tryz.prog Rows.checkBacksUptoRow.laid W) (g : Nat) (cs : List Dat) (hg : C.glob g = some cs) : VR (fun b => b < W.heap.size) W (.ptr cs) (.pointer (some ⟨g, 0, none⟩)) := by
 obtain ⟨ps, h⟩ := h
 simp only [C, Bs, glob] at hg
 split at hg
 ·rename_i e; subst e; cases hg
  exact ju gn4 gt4 L8 (by kernel_rfl) (by kernel_rfl) (by kernel_rfl) gd4 (fun _ h => h) (laid := Rows.checkBacksUptoRow.laid) (by simp [Rows.checkBacksUptoRow]) h.1
 split at hg
 ·rename_i e; subst e; cases hg
  exact ju gn3 gt3 GS (by kernel_rfl) (by kernel_rfl) (by kernel_rfl) gd3 (fun _ h => h) (laid := Rows.checkBacksUptoRow.laid) (by simp [Rows.checkBacksUptoRow]) h.1
 split at hg
 ·rename_i e; subst e; cases hg
  exact ju gn2 gt2 GR (by kernel_rfl) (by kernel_rfl) (by kernel_rfl) gd2 (fun _ h => h) (laid := Rows.checkBacksUptoRow.laid) (by simp [Rows.checkBacksUptoRow]) h.1
 split at hg
 ·rename_i e; subst e; cases hg
  exact ju gn1 gt1 GS (by kernel_rfl) (by kernel_rfl) (by kernel_rfl) gd1 (fun _ h => h) (laid := Rows.checkBacksUptoRow.laid) (by simp [Rows.checkBacksUptoRow]) h.1
 split at hg
 ·rename_i e; subst e; cases hg
  exact ju gn0 gt0 GR (by kernel_rfl) (by kernel_rfl) (by kernel_rfl) gd0 (fun _ h => h) (laid := Rows.checkBacksUptoRow.laid) (by simp [Rows.checkBacksUptoRow]) h.1
 ·cases hg
mutual
theorem lj {H : Type} : ∀ d : DataW H, fk d = Rows.uptoBulk d
 | .lit (.string b) => by simp [fk, Rows.uptoBulk]
 | .lit (.bool b) => by simp [fk, Rows.uptoBulk]
 | .lit (.int k n) => by simp [fk, Rows.uptoBulk]
 | .lit (.float k n) => by simp [fk, Rows.uptoBulk]
 | .lit .nil => by simp [fk, Rows.uptoBulk]
 | .nil => by simp [fk, Rows.uptoBulk]
 | .ptr d => by simp only [fk, Rows.uptoBulk, lj d]
 | .slice e s => by simp only [fk, Rows.uptoBulk, sR e, sR s]
 | .agg p => by simp only [fk, Rows.uptoBulk, sR p]
 | .iface t d => by simp only [fk, Rows.uptoBulk, lj d]
 | .map es => by simp only [fk, Rows.uptoBulk, yT es]
 | .held h => by simp [fk, Rows.uptoBulk]
theorem sR {H : Type} : ∀ l : List (DataW H), fW l = Rows.uptoBulkAll l
 | [] => by simp [fW, Rows.uptoBulkAll]
 | d :: r => by simp only [fW, Rows.uptoBulkAll, lj d, sR r]
theorem yT {H : Type} : ∀ l : List (Lit × DataW H), ma l = Rows.uptoBulkEntries l
 | [] => by simp [ma, Rows.uptoBulkEntries]
 | d :: r => by simp only [ma, Rows.uptoBulkEntries, I9 d, yT r]
theorem I9 {H : Type} : ∀ d : Lit × DataW H, kQ d = Rows.uptoBulkEntry d
 | (.string b, d) => by simp only [kQ, Rows.uptoBulkEntry, lj d]
 | (.bool b, d) => by simp only [kQ, Rows.uptoBulkEntry, lj d]
 | (.int k n, d) => by simp only [kQ, Rows.uptoBulkEntry, lj d]
 | (.float k n, d) => by simp only [kQ, Rows.uptoBulkEntry, lj d]
 | (.nil, d) => by simp only [kQ, Rows.uptoBulkEntry, lj d]
end
set_option maxRecDepth 100000 in
theorem Jb (H : Type) (enc : TypeId × Value → H) (W : World) (base : Nat) (args : Array Value) (ds gs : List (DataW H)) (before : List MemPlace)
  (hval : ∀ (j : Nat) t v, Tryz.f3.params[j]? = some t → args[j]? = some v → Value.okWide Tryz.prog W .any base t v)
  (hW : DataW.Whole enc Tryz.prog Tryz.f3.params.toList Rows.checkBacksSpec.vars false W args.toList ds gs before) (hk : Rows.uptoSmall H (ds ++ gs) = true)
  (hw : (DataW.weightsEach Tryz.prog (Tryz.f3.params.toList ++ Rows.checkBacksSpec.plain.varTypes Tryz.prog) (ds ++ gs)).all (· ≤ reachBytes) = true) (hL : laidMetH Tryz.prog Rows.checkBacksUptoRow.laid W) :
  Calls Tryz.prog 3 args W fun e W' => ∃ v, e = .returned v ∧ Rows.checkBacksSpec.post enc Tryz.prog Tryz.f3 false true false false W args v W' := by
 have hgs : gs = [] := by
  obtain ⟨p, q, _, hV, _⟩ := hW
  cases gs with
  | nil => rfl
  | cons => exact hV.elim
 subst hgs
 have hb : fW ds ≤ 1048576 := by
  have h : Rows.uptoBulkAll (ds ++ []) ≤ 1048576 := of_decide_eq_true hk
  rw [List.append_nil] at h
  rw [sR]; exact h
 refine Fh (fn := Tryz.f3) (T := [3, 4, 9, 21, 22, 23, 25, 26, 27, 28, 29, 31, 67, 68, 69, 70, 72, 74, 76, 79, 88, 90, 92, 105, 107]) (bt := 4) Mm (by kernel_rfl) (by kernel_rfl) (by kernel_rfl) (by kernel_rfl) (by kernel_rfl) rfl ?_ QY hb hval hW ?_ (OI hL)
 ·intro ds hds
  match ds, hds with
  | [_], _ => exact ⟨rfl, rfl, rfl⟩
 ·intro n hn
  have hv : Tryz.f3.params.toList ++ Rows.checkBacksSpec.plain.varTypes Tryz.prog = Tryz.f3.params.toList := by kernel_rfl
  rw [hv, List.append_nil] at hw
  exact of_decide_eq_true (List.all_eq_true.1 hw n hn)
end Go.Proofs.YtkmbagocakiefaaGreatDoor.Wb
