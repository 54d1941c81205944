/- 'CheckSounds' keeps its contract: walk and law joined. -/
import Derived.Test.YtdcpfmjnkcodiaaDoorD5
import Derived.Test.YtdcpfmjnkcodiaaDoorE4
import Derived.Test.YtdcpfmjnkcodiaaDoorA6
import Derived.Test.YtdcpfmjnkcodiaaDoorCards
import Derived.Test.YtdcpfmjnkcodiaaDoorTie
import Derived.WalkKit
import Derived.ProofKit
import Derived.OpenShut
import Derived.Deep.DeepHandedRow
import Derived.Lib.LaidTab
import Derived.Laws.Externs
namespace Go.Proofs.YtdcpfmjnkcodiaaDoor.We
open Go Go.Jv Go.Proofs
open Go.ChangeShapes Go.WideShapes Go.ChangeAt Go.RowKit
theorem lawR (xs : List Dat) (hl : xs.length = Tryd.f9.params.size) (hx : ∀ (i : Nat) t x, Tryd.f9.params[i]? = some t → xs[i]? = some x → Has Tryd.prog t x) (hb : blkL xs ≤ 1048576) : callD C 9 xs = some [.bool true] := by
 have hp : Tryd.f9.params.toList = [95, 22, 3] := by kernel_rfl
 have ha : HasAll Tryd.prog [95, 22, 3] xs := by
  rw [← hp]
  exact hasAll_of (by simpa using hl) fun i t x ht hx' => hx i t x (by simpa using ht) hx'
 match xs, ha with
 | [_, _, _], ⟨h0, h1, h2, _⟩ =>
  obtain ⟨t, rfl, w0⟩ := dec95 h0
  obtain ⟨e, rfl, w1⟩ := dec22 h1
  obtain ⟨i, rfl, w2⟩ := has_int und3 h2
  exact l5_CheckSounds_ok t e i true (law_ok t e i w0 w1 hb)
theorem own : ownKnob Tryd.prog.godebug = none := by kernel_rfl
theorem native (f : FuncId) (xs rs : List Dat) (h : C.ext f xs = some rs) : Native Tryd.prog f xs rs := by
 have h1 : ext f xs = some rs := h
 clear h
 unfold ext at h1
 split at h1
 case isFalse => cases h1
 case isTrue hf =>
  subst hf
  split at h1
  case h_2 => cases h1
  case h_1 a0 a1 =>
   obtain rfl := Option.some.inj h1
   intro S w args hs hv
   refine ⟨⟨_, Tryd.func273⟩, .int .i64 (firstIdx a0 a1.toNat.toUInt8), ?_, .d _ _ (.int _ _)⟩
   have e0 : args[0]? = some (.string a0) := by
    have hlt : 0 < args.size := by rw [hs]; simp
    rw [Array.getElem?_eq_getElem hlt, (hv 0 _ _ rfl (Array.getElem?_eq_getElem hlt)).strV]
   have e1 : args[1]? = some (.int .u8 a1) := by
    have hlt : 1 < args.size := by rw [hs]; simp
    rw [Array.getElem?_eq_getElem hlt, (hv 1 _ _ rfl (Array.getElem?_eq_getElem hlt)).intV]
   have ea : args = #[.string a0, .int .u8 a1] := by
    apply Array.ext'
    match args, hs, e0, e1 with
    | ⟨[x, y]⟩, _, e0, e1 =>
     simp at e0 e1
     simp [e0, e1]
   subst ea
   rw [run_callFunc_extern (e := Extern.BytealgIndexByte.indexByte) Tryd.func273 (by kernel_rfl) (by kernel_rfl) (by kernel_rfl) (by kernel_rfl), run_indexByte_string]
   rfl
theorem sound_ (xs rs : List Dat) (h : callD C 9 xs = some rs) : DEnter Tryd.prog C 9 xs rs := sound_enter (validOf (by kernel_rfl) _ _ _) native 9 (fun xs => ext0 9 xs rfl) xs rs h
theorem gn2 : Tryd.prog.globalNamed "junction/arith.operands" = some 2 := by kernel_rfl
theorem gt2 : (Tryd.prog.globals[2]?).map (·.type) = some 225 := by kernel_rfl
theorem und225 : Tryd.prog.underlying 225 = some (.array 52 3) := by kernel_rfl
theorem und289 : Tryd.prog.underlying 289 = some (.array 41 9) := by kernel_rfl
theorem und290 : Tryd.prog.underlying 290 = some (.array 18 9) := by kernel_rfl
theorem gd2 : datumD (H := Unit) Rows.laid_junction_arith_operands = some (arith_operands_tab.map (Dat.int .i64)) := by kernel_rfl
theorem gn5 : Tryd.prog.globalNamed "junction/junctionref2.words" = some 5 := by kernel_rfl
theorem gt5 : (Tryd.prog.globals[5]?).map (·.type) = some 289 := by kernel_rfl
theorem gd5 : datumD (H := Unit) Rows.laid_junction_junctionref2_words = some (r2_words_tab.map Dat.str) := by kernel_rfl
theorem gn6 : Tryd.prog.globalNamed "junction/junctionref2.signs" = some 6 := by kernel_rfl
theorem gt6 : (Tryd.prog.globals[6]?).map (·.type) = some 290 := by kernel_rfl
theorem gd6 : datumD (H := Unit) Rows.laid_junction_junctionref2_signs = some (r2_signs_tab.map Dat.str) := by kernel_rfl
theorem gn7 : Tryd.prog.globalNamed "junction/lex.words" = some 7 := by kernel_rfl
theorem gt7 : (Tryd.prog.globals[7]?).map (·.type) = some 289 := by kernel_rfl
theorem gd7 : datumD (H := Unit) Rows.laid_junction_lex_words = some (lex_words_tab.map Dat.str) := by kernel_rfl
theorem gn8 : Tryd.prog.globalNamed "junction/lex.signs" = some 8 := by kernel_rfl
theorem gt8 : (Tryd.prog.globals[8]?).map (·.type) = some 290 := by kernel_rfl
theorem gd8 : datumD (H := Unit) Rows.laid_junction_lex_signs = some (lex_signs_tab.map Dat.str) := by kernel_rfl
theorem globs {W : World} (h : laidMetH Tryd.prog Rows.checkSoundsUptoRow.laid W) (g : Nat) (cs : List Dat) (hg : C.glob g = some cs) : VR (fun b => b < W.heap.size) W (.ptr cs) (.pointer (some ⟨g, 0, none⟩)) := by
 obtain ⟨ps, h⟩ := h
 simp only [C, cfgOf, glob] at hg
 split at hg
 ·rename_i e; subst e; cases hg
  exact glob_of_laid gn8 gt8 und290 (by kernel_rfl) (by kernel_rfl) (by kernel_rfl) gd8 (fun _ h => h) (laid := Rows.checkSoundsUptoRow.laid) (by simp [Rows.checkSoundsUptoRow]) h.1
 split at hg
 ·rename_i e; subst e; cases hg
  exact glob_of_laid gn7 gt7 und289 (by kernel_rfl) (by kernel_rfl) (by kernel_rfl) gd7 (fun _ h => h) (laid := Rows.checkSoundsUptoRow.laid) (by simp [Rows.checkSoundsUptoRow]) h.1
 split at hg
 ·rename_i e; subst e; cases hg
  exact glob_of_laid gn6 gt6 und290 (by kernel_rfl) (by kernel_rfl) (by kernel_rfl) gd6 (fun _ h => h) (laid := Rows.checkSoundsUptoRow.laid) (by simp [Rows.checkSoundsUptoRow]) h.1
 split at hg
 ·rename_i e; subst e; cases hg
  exact glob_of_laid gn5 gt5 und289 (by kernel_rfl) (by kernel_rfl) (by kernel_rfl) gd5 (fun _ h => h) (laid := Rows.checkSoundsUptoRow.laid) (by simp [Rows.checkSoundsUptoRow]) h.1
 split at hg
 ·rename_i e; subst e; cases hg
  exact glob_of_laid gn2 gt2 und225 (by kernel_rfl) (by kernel_rfl) (by kernel_rfl) gd2 (fun _ h => h) (laid := Rows.checkSoundsUptoRow.laid) (by simp [Rows.checkSoundsUptoRow]) h.1
 ·cases hg
mutual
theorem bulk_one {H : Type} : ∀ d : DataW H, dblk d = Rows.uptoBulk d
 | .lit (.string b) => by simp [dblk, Rows.uptoBulk]
 | .lit (.bool b) => by simp [dblk, Rows.uptoBulk]
 | .lit (.int k n) => by simp [dblk, Rows.uptoBulk]
 | .lit (.float k n) => by simp [dblk, Rows.uptoBulk]
 | .lit .nil => by simp [dblk, Rows.uptoBulk]
 | .nil => by simp [dblk, Rows.uptoBulk]
 | .ptr d => by simp only [dblk, Rows.uptoBulk, bulk_one d]
 | .slice e s => by simp only [dblk, Rows.uptoBulk, bulk_all e, bulk_all s]
 | .agg p => by simp only [dblk, Rows.uptoBulk, bulk_all p]
 | .iface t d => by simp only [dblk, Rows.uptoBulk, bulk_one d]
 | .map es => by simp only [dblk, Rows.uptoBulk, bulk_entries es]
 | .held h => by simp [dblk, Rows.uptoBulk]
theorem bulk_all {H : Type} : ∀ l : List (DataW H), dblkAll l = Rows.uptoBulkAll l
 | [] => by simp [dblkAll, Rows.uptoBulkAll]
 | d :: r => by simp only [dblkAll, Rows.uptoBulkAll, bulk_one d, bulk_all r]
theorem bulk_entries {H : Type} : ∀ l : List (Lit × DataW H), dblkEntries l = Rows.uptoBulkEntries l
 | [] => by simp [dblkEntries, Rows.uptoBulkEntries]
 | d :: r => by simp only [dblkEntries, Rows.uptoBulkEntries, bulk_entry d, bulk_entries r]
theorem bulk_entry {H : Type} : ∀ d : Lit × DataW H, dblkEntry d = Rows.uptoBulkEntry d
 | (.string b, d) => by simp only [dblkEntry, Rows.uptoBulkEntry, bulk_one d]
 | (.bool b, d) => by simp only [dblkEntry, Rows.uptoBulkEntry, bulk_one d]
 | (.int k n, d) => by simp only [dblkEntry, Rows.uptoBulkEntry, bulk_one d]
 | (.float k n, d) => by simp only [dblkEntry, Rows.uptoBulkEntry, bulk_one d]
 | (.nil, d) => by simp only [dblkEntry, Rows.uptoBulkEntry, bulk_one d]
end
set_option maxRecDepth 100000 in
theorem contract_ (H : Type) (enc : TypeId × Value → H) (W : World) (base : Nat) (args : Array Value) (ds gs : List (DataW H)) (before : List MemPlace)
  (hval : ∀ (j : Nat) t v, Tryd.f9.params[j]? = some t → args[j]? = some v → Value.okWide Tryd.prog W .any base t v)
  (hW : DataW.Whole enc Tryd.prog Tryd.f9.params.toList Rows.checkSoundsSpec.vars false W args.toList ds gs before) (hk : Rows.uptoSmall H (ds ++ gs) = true)
  (hw : (DataW.weightsEach Tryd.prog (Tryd.f9.params.toList ++ Rows.checkSoundsSpec.plain.varTypes Tryd.prog) (ds ++ gs)).all (· ≤ reachBytes) = true) (hL : laidMetH Tryd.prog Rows.checkSoundsUptoRow.laid W) :
  Calls Tryd.prog 9 args W fun e W' => ∃ v, e = .returned v ∧ Rows.checkSoundsSpec.post enc Tryd.prog Tryd.f9 false true false false W args v W' := by
 have hgs : gs = [] := by
  obtain ⟨p, q, _, hV, _⟩ := hW
  cases gs with
  | nil => rfl
  | cons => exact hV.elim
 subst hgs
 have hb : dblkAll ds ≤ 1048576 := by
  have h : Rows.uptoBulkAll (ds ++ []) ≤ 1048576 := of_decide_eq_true hk
  rw [List.append_nil] at h
  rw [bulk_all]; exact h
 refine contract (fn := Tryd.f9) (T := [3, 4, 9, 21, 22, 58, 76, 86, 87, 89, 90, 91, 92, 93, 95, 115, 138, 140, 193, 194, 196, 198, 200, 203, 207]) (bt := 4) sound_ (by kernel_rfl) (by kernel_rfl) (by kernel_rfl) (by kernel_rfl) (by kernel_rfl) rfl ?_ lawR hb hval hW ?_ (globs hL)
 ·intro ds hds
  match ds, hds with
  | [_, _, _], _ => exact ⟨rfl, rfl, rfl⟩
 ·intro n hn
  have hv : Tryd.f9.params.toList ++ Rows.checkSoundsSpec.plain.varTypes Tryd.prog = Tryd.f9.params.toList := by kernel_rfl
  rw [hv, List.append_nil] at hw
  exact of_decide_eq_true (List.all_eq_true.1 hw n hn)
end Go.Proofs.YtdcpfmjnkcodiaaDoor.We
