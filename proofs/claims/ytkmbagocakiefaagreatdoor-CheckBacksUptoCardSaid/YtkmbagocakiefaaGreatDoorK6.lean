/- What the arguments of 'CheckBacks' read as, and how long it may be. -/
import Derived.Test.YtkmbagocakiefaaGreatDoorK5
import Derived.Test.YtkmbagocakiefaaGreatDoorM2
import Derived.Test.YtkmbagocakiefaaGreatDoorL8
import Derived.Test.YtkmbagocakiefaaGreatDoorProg
namespace Go.Proofs.YtkmbagocakiefaaGreatDoor.Wb
open Go Go.Jv Go.Proofs
theorem xd : Tryz.prog.underlying 9 = some .string := by kernel_rfl
theorem kA : Tryz.prog.underlying 3 = some (.int .i64) := by kernel_rfl
theorem Mn : Tryz.prog.underlying 88 = some (.struct (Tryz.prog.fieldsOf 88)) := by kernel_rfl
theorem Mo : (Tryz.prog.fieldsOf 88).toList.map (·.type) = [9, 3, 3, 3, 3] := by kernel_rfl
def ak.wf (x : ak) : Prop := nZ x.Name ∧ inK .i64 x.Sort_ ∧ inK .i64 x.Min ∧ inK .i64 x.Amber ∧ inK .i64 x.Lead
theorem Mp {x : Dat} (h : Has Tryz.prog 88 x) : ∃ v : ak, x = ak.enc v ∧ ak.wf v := by
 obtain ⟨parts, rfl, hp⟩ := fu Mn Mo h
 match parts, hp with
 | [_, _, _, _, _], ⟨h0, h1, h2, h3, h4, _⟩ =>
  obtain ⟨v0, rfl, w0⟩ := nz xd h0
  obtain ⟨v1, rfl, w1⟩ := dF kA h1
  obtain ⟨v2, rfl, w2⟩ := dF kA h2
  obtain ⟨v3, rfl, w3⟩ := dF kA h3
  obtain ⟨v4, rfl, w4⟩ := dF kA h4
  exact ⟨⟨v0, v1, v2, v3, v4⟩, rfl, w0, w1, w2, w3, w4⟩
theorem Mq : Tryz.prog.underlying 22 = some (.slice 88) := by kernel_rfl
theorem OJ : Tryz.prog.bytesOf 88 = 48 := by kernel_rfl
theorem Mr {x : Dat} (h : Has Tryz.prog 22 x) : ∃ v : List (ak), x = .lst (v.map (ak.enc)) ∧ ft 48 (ak.wf) v := lw Mq OJ (fun _ h => Mp h) h
theorem Ms : Tryz.prog.underlying 90 = some (.struct (Tryz.prog.fieldsOf 90)) := by kernel_rfl
theorem Mt : (Tryz.prog.fieldsOf 90).toList.map (·.type) = [3, 3, 3, 3] := by kernel_rfl
def ai.wf (x : ai) : Prop := inK .i64 x.A ∧ inK .i64 x.B ∧ inK .i64 x.AB ∧ inK .i64 x.BA
theorem Mu {x : Dat} (h : Has Tryz.prog 90 x) : ∃ v : ai, x = ai.enc v ∧ ai.wf v := by
 obtain ⟨parts, rfl, hp⟩ := fu Ms Mt h
 match parts, hp with
 | [_, _, _, _], ⟨h0, h1, h2, h3, _⟩ =>
  obtain ⟨v0, rfl, w0⟩ := dF kA h0
  obtain ⟨v1, rfl, w1⟩ := dF kA h1
  obtain ⟨v2, rfl, w2⟩ := dF kA h2
  obtain ⟨v3, rfl, w3⟩ := dF kA h3
  exact ⟨⟨v0, v1, v2, v3⟩, rfl, w0, w1, w2, w3⟩
theorem Mv : Tryz.prog.underlying 23 = some (.slice 90) := by kernel_rfl
theorem OK : Tryz.prog.bytesOf 90 = 32 := by kernel_rfl
theorem Mw {x : Dat} (h : Has Tryz.prog 23 x) : ∃ v : List (ai), x = .lst (v.map (ai.enc)) ∧ ft 32 (ai.wf) v := lw Mv OK (fun _ h => Mu h) h
theorem Mx : Tryz.prog.underlying 25 = some (.struct (Tryz.prog.fieldsOf 25)) := by kernel_rfl
theorem My : (Tryz.prog.fieldsOf 25).toList.map (·.type) = [22, 23] := by kernel_rfl
def aI.wf (x : aI) : Prop := ft 48 (ak.wf) x.Groups ∧ ft 32 (ai.wf) x.Conflicts
theorem Mz {x : Dat} (h : Has Tryz.prog 25 x) : ∃ v : aI, x = aI.enc v ∧ aI.wf v := by
 obtain ⟨parts, rfl, hp⟩ := fu Mx My h
 match parts, hp with
 | [_, _], ⟨h0, h1, _⟩ =>
  obtain ⟨v0, rfl, w0⟩ := Mr h0
  obtain ⟨v1, rfl, w1⟩ := Mw h1
  exact ⟨⟨v0, v1⟩, rfl, w0, w1⟩
theorem OL : Tryz.prog.underlying 4 = some .bool := by kernel_rfl
theorem MA : Tryz.prog.underlying 92 = some (.struct (Tryz.prog.fieldsOf 92)) := by kernel_rfl
theorem MB : (Tryz.prog.fieldsOf 92).toList.map (·.type) = [9, 4, 3, 3] := by kernel_rfl
def aE.wf (x : aE) : Prop := nZ x.Name ∧ (fun _ => True) x.Latch ∧ inK .i64 x.Delay ∧ inK .i64 x.Hold
theorem MD {x : Dat} (h : Has Tryz.prog 92 x) : ∃ v : aE, x = aE.enc v ∧ aE.wf v := by
 obtain ⟨parts, rfl, hp⟩ := fu MA MB h
 match parts, hp with
 | [_, _, _, _], ⟨h0, h1, h2, h3, _⟩ =>
  obtain ⟨v0, rfl, w0⟩ := nz xd h0
  obtain ⟨v1, rfl, w1⟩ := K1 OL h1
  obtain ⟨v2, rfl, w2⟩ := dF kA h2
  obtain ⟨v3, rfl, w3⟩ := dF kA h3
  exact ⟨⟨v0, v1, v2, v3⟩, rfl, w0, w1, w2, w3⟩
theorem ME : Tryz.prog.underlying 26 = some (.slice 92) := by kernel_rfl
theorem OM : Tryz.prog.bytesOf 92 = 40 := by kernel_rfl
theorem MF {x : Dat} (h : Has Tryz.prog 26 x) : ∃ v : List (aE), x = .lst (v.map (aE.enc)) ∧ ft 40 (aE.wf) v := lw ME OM (fun _ h => MD h) h
theorem MG : Tryz.prog.underlying 27 = some (.slice 9) := by kernel_rfl
theorem bo9 : Tryz.prog.bytesOf 9 = 16 := by kernel_rfl
theorem K6 {x : Dat} (h : Has Tryz.prog 27 x) : ∃ v : List (ByteArray), x = .lst (v.map (Dat.str)) ∧ ft 16 (nZ) v := lw MG bo9 (fun _ h => nz xd h) h
theorem K7 : Tryz.prog.underlying 21 = some (.int .i32) := by kernel_rfl
theorem MH : Tryz.prog.underlying 67 = some (.struct (Tryz.prog.fieldsOf 67)) := by kernel_rfl
theorem MI : (Tryz.prog.fieldsOf 67).toList.map (·.type) = [9, 21] := by kernel_rfl
def aN.wf (x : aN) : Prop := nZ x.Name ∧ inK .i32 x.Init
theorem MJ {x : Dat} (h : Has Tryz.prog 67 x) : ∃ v : aN, x = aN.enc v ∧ aN.wf v := by
 obtain ⟨parts, rfl, hp⟩ := fu MH MI h
 match parts, hp with
 | [_, _], ⟨h0, h1, _⟩ =>
  obtain ⟨v0, rfl, w0⟩ := nz xd h0
  obtain ⟨v1, rfl, w1⟩ := dF K7 h1
  exact ⟨⟨v0, v1⟩, rfl, w0, w1⟩
theorem MK : Tryz.prog.underlying 28 = some (.slice 67) := by kernel_rfl
theorem ON : Tryz.prog.bytesOf 67 = 24 := by kernel_rfl
theorem ML {x : Dat} (h : Has Tryz.prog 28 x) : ∃ v : List (aN), x = .lst (v.map (aN.enc)) ∧ ft 24 (aN.wf) v := lw MK ON (fun _ h => MJ h) h
theorem MM : Tryz.prog.underlying 68 = some (.int .u64) := by kernel_rfl
theorem MN : Tryz.prog.underlying 79 = some (.struct (Tryz.prog.fieldsOf 79)) := by kernel_rfl
theorem MO : (Tryz.prog.fieldsOf 79).toList.map (·.type) = [3, 3] := by kernel_rfl
def bd.wf (x : bd) : Prop := inK .i64 x.Line ∧ inK .i64 x.Col
theorem K8 {x : Dat} (h : Has Tryz.prog 79 x) : ∃ v : bd, x = bd.enc v ∧ bd.wf v := by
 obtain ⟨parts, rfl, hp⟩ := fu MN MO h
 match parts, hp with
 | [_, _], ⟨h0, h1, _⟩ =>
  obtain ⟨v0, rfl, w0⟩ := dF kA h0
  obtain ⟨v1, rfl, w1⟩ := dF kA h1
  exact ⟨⟨v0, v1⟩, rfl, w0, w1⟩
theorem L9 : Tryz.prog.underlying 107 = some (.struct (Tryz.prog.fieldsOf 107)) := by kernel_rfl
theorem La : (Tryz.prog.fieldsOf 107).toList.map (·.type) = [3, 21, 9, 79] := by kernel_rfl
def ae.wf (x : ae) : Prop := inK .i64 x.Op ∧ inK .i32 x.Val ∧ nZ x.Name ∧ bd.wf x.At
theorem Lb {x : Dat} (h : Has Tryz.prog 107 x) : ∃ v : ae, x = ae.enc v ∧ ae.wf v := by
 obtain ⟨parts, rfl, hp⟩ := fu L9 La h
 match parts, hp with
 | [_, _, _, _], ⟨h0, h1, h2, h3, _⟩ =>
  obtain ⟨v0, rfl, w0⟩ := dF kA h0
  obtain ⟨v1, rfl, w1⟩ := dF K7 h1
  obtain ⟨v2, rfl, w2⟩ := nz xd h2
  obtain ⟨v3, rfl, w3⟩ := K8 h3
  exact ⟨⟨v0, v1, v2, v3⟩, rfl, w0, w1, w2, w3⟩
theorem MP : Tryz.prog.underlying 74 = some (.slice 107) := by kernel_rfl
theorem MQ : Tryz.prog.bytesOf 107 = 48 := by kernel_rfl
theorem K9 {x : Dat} (h : Has Tryz.prog 74 x) : ∃ v : List (ae), x = .lst (v.map (ae.enc)) ∧ ft 48 (ae.wf) v := lw MP MQ (fun _ h => Lb h) h
theorem Lc : Tryz.prog.underlying 105 = some (.struct (Tryz.prog.fieldsOf 105)) := by kernel_rfl
theorem Ld : (Tryz.prog.fieldsOf 105).toList.map (·.type) = [3, 9, 3, 74, 79] := by kernel_rfl
def ac.wf (x : ac) : Prop := inK .i64 x.Kind ∧ nZ x.Name ∧ inK .i64 x.Ix ∧ ft 48 (ae.wf) x.Expr ∧ bd.wf x.At
theorem Le {x : Dat} (h : Has Tryz.prog 105 x) : ∃ v : ac, x = ac.enc v ∧ ac.wf v := by
 obtain ⟨parts, rfl, hp⟩ := fu Lc Ld h
 match parts, hp with
 | [_, _, _, _, _], ⟨h0, h1, h2, h3, h4, _⟩ =>
  obtain ⟨v0, rfl, w0⟩ := dF kA h0
  obtain ⟨v1, rfl, w1⟩ := nz xd h1
  obtain ⟨v2, rfl, w2⟩ := dF kA h2
  obtain ⟨v3, rfl, w3⟩ := K9 h3
  obtain ⟨v4, rfl, w4⟩ := K8 h4
  exact ⟨⟨v0, v1, v2, v3, v4⟩, rfl, w0, w1, w2, w3, w4⟩
theorem MR : Tryz.prog.underlying 69 = some (.slice 105) := by kernel_rfl
theorem MS : Tryz.prog.bytesOf 105 = 72 := by kernel_rfl
theorem GT {x : Dat} (h : Has Tryz.prog 69 x) : ∃ v : List (ac), x = .lst (v.map (ac.enc)) ∧ ft 72 (ac.wf) v := lw MR MS (fun _ h => Le h) h
theorem MT : Tryz.prog.underlying 76 = some (.struct (Tryz.prog.fieldsOf 76)) := by kernel_rfl
theorem MU : (Tryz.prog.fieldsOf 76).toList.map (·.type) = [3, 74] := by kernel_rfl
def aw.wf (x : aw) : Prop := inK .i64 x.To ∧ ft 48 (ae.wf) x.When
theorem MV {x : Dat} (h : Has Tryz.prog 76 x) : ∃ v : aw, x = aw.enc v ∧ aw.wf v := by
 obtain ⟨parts, rfl, hp⟩ := fu MT MU h
 match parts, hp with
 | [_, _], ⟨h0, h1, _⟩ =>
  obtain ⟨v0, rfl, w0⟩ := dF kA h0
  obtain ⟨v1, rfl, w1⟩ := K9 h1
  exact ⟨⟨v0, v1⟩, rfl, w0, w1⟩
theorem MW : Tryz.prog.underlying 70 = some (.slice 76) := by kernel_rfl
theorem OO : Tryz.prog.bytesOf 76 = 32 := by kernel_rfl
theorem MX {x : Dat} (h : Has Tryz.prog 70 x) : ∃ v : List (aw), x = .lst (v.map (aw.enc)) ∧ ft 32 (aw.wf) v := lw MW OO (fun _ h => MV h) h
theorem MY : Tryz.prog.underlying 72 = some (.struct (Tryz.prog.fieldsOf 72)) := by kernel_rfl
theorem MZ : (Tryz.prog.fieldsOf 72).toList.map (·.type) = [9, 3, 68, 69, 69, 69, 70] := by kernel_rfl
def ah.wf (x : ah) : Prop := nZ x.Name ∧ inK .i64 x.Id ∧ inK .u64 x.Green ∧ ft 72 (ac.wf) x.Enter ∧ ft 72 (ac.wf) x.During ∧ ft 72 (ac.wf) x.Leave ∧ ft 32 (aw.wf) x.Nexts
theorem N0 {x : Dat} (h : Has Tryz.prog 72 x) : ∃ v : ah, x = ah.enc v ∧ ah.wf v := by
 obtain ⟨parts, rfl, hp⟩ := fu MY MZ h
 match parts, hp with
 | [_, _, _, _, _, _, _], ⟨h0, h1, h2, h3, h4, h5, h6, _⟩ =>
  obtain ⟨v0, rfl, w0⟩ := nz xd h0
  obtain ⟨v1, rfl, w1⟩ := dF kA h1
  obtain ⟨v2, rfl, w2⟩ := dF MM h2
  obtain ⟨v3, rfl, w3⟩ := GT h3
  obtain ⟨v4, rfl, w4⟩ := GT h4
  obtain ⟨v5, rfl, w5⟩ := GT h5
  obtain ⟨v6, rfl, w6⟩ := MX h6
  exact ⟨⟨v0, v1, v2, v3, v4, v5, v6⟩, rfl, w0, w1, w2, w3, w4, w5, w6⟩
theorem N1 : Tryz.prog.underlying 29 = some (.slice 72) := by kernel_rfl
theorem OP : Tryz.prog.bytesOf 72 = 128 := by kernel_rfl
theorem N2 {x : Dat} (h : Has Tryz.prog 29 x) : ∃ v : List (ah), x = .lst (v.map (ah.enc)) ∧ ft 128 (ah.wf) v := lw N1 OP (fun _ h => N0 h) h
theorem N3 : Tryz.prog.underlying 31 = some (.struct (Tryz.prog.fieldsOf 31)) := by kernel_rfl
theorem N4 : (Tryz.prog.fieldsOf 31).toList.map (·.type) = [9, 25, 26, 27, 27, 28, 29, 3] := by kernel_rfl
def ab.wf (x : ab) : Prop := nZ x.Name ∧ aI.wf x.Tables ∧ ft 40 (aE.wf) x.Dets ∧ ft 16 (nZ) x.Timers ∧ ft 16 (nZ) x.Counters ∧ ft 24 (aN.wf) x.Vars ∧ ft 128 (ah.wf) x.Stages ∧ inK .i64 x.Start
theorem N5 {x : Dat} (h : Has Tryz.prog 31 x) : ∃ v : ab, x = ab.enc v ∧ ab.wf v := by
 obtain ⟨parts, rfl, hp⟩ := fu N3 N4 h
 match parts, hp with
 | [_, _, _, _, _, _, _, _], ⟨h0, h1, h2, h3, h4, h5, h6, h7, _⟩ =>
  obtain ⟨v0, rfl, w0⟩ := nz xd h0
  obtain ⟨v1, rfl, w1⟩ := Mz h1
  obtain ⟨v2, rfl, w2⟩ := MF h2
  obtain ⟨v3, rfl, w3⟩ := K6 h3
  obtain ⟨v4, rfl, w4⟩ := K6 h4
  obtain ⟨v5, rfl, w5⟩ := ML h5
  obtain ⟨v6, rfl, w6⟩ := N2 h6
  obtain ⟨v7, rfl, w7⟩ := dF kA h7
  exact ⟨⟨v0, v1, v2, v3, v4, v5, v6, v7⟩, rfl, w0, w1, w2, w3, w4, w5, w6, w7⟩
theorem EA {xs : List Dat} {x : Dat} (h : x ∈ xs) : blk x ≤ cE xs := by
 induction xs with
 | nil => cases h
 | cons y xs ih =>
  simp only [cE]
  rcases List.mem_cons.1 h with rfl | h
  ·omega
  ·have := ih h; omega
theorem Jc {xs : List Dat} (h : ∀ x, x ∈ xs → 1 ≤ blk x) : xs.length ≤ cE xs := by
 induction xs with
 | nil => simp
 | cons y xs ih =>
  have h1 := h y List.mem_cons_self
  have h2 := ih fun x hx => h x (List.mem_cons_of_mem _ hx)
  simp only [cE, List.length_cons]; omega
theorem ku {α : Type} {enc : α → Dat} (h : ∀ v, 1 ≤ blk (enc v)) (l : List α) : l.length ≤ cE (l.map enc) := by
 have := Jc (xs := l.map enc) fun x hx => by obtain ⟨v, _, rfl⟩ := List.mem_map.1 hx; exact h v
 simpa using this
theorem lk {α : Type} {enc : α → Dat} {l : List α} {v : α} (h : v ∈ l) : blk (enc v) ≤ cE (l.map enc) := EA (List.mem_map_of_mem h)
theorem OQ (v : ae) : 1 ≤ blk v.enc := by simp [ae.enc, blk, cE]
theorem OR (v : ac) : 1 ≤ blk v.enc := by simp [ac.enc, blk, cE]
theorem OS (v : aw) : 1 ≤ blk v.enc := by simp [aw.enc, blk, cE]
theorem OT (v : ah) : 1 ≤ blk v.enc := by simp [ah.enc, blk, cE]; omega
theorem OU (v : ak) : 1 ≤ blk v.enc := by simp [ak.enc, blk, cE]
theorem OV (v : ai) : 1 ≤ blk v.enc := by simp [ai.enc, blk, cE]
theorem OW (v : aE) : 1 ≤ blk v.enc := by simp [aE.enc, blk, cE]
theorem OX (v : aN) : 1 ≤ blk v.enc := by simp [aN.enc, blk, cE]
theorem Lf (v : ByteArray) : 1 ≤ blk (.str v) := by simp [blk]
theorem Ia {n : Int} (h : inK .i32 n) : -2147483648 ≤ n ∧ n ≤ 2147483647 := by
 simp [inK, Lit.wf, IntKind.min, IntKind.max, IntKind.bits, IntKind.signed] at h
 omega
theorem Gy {e : List ae} (hw : ∀ v, v ∈ e → ae.wf v) (hb : cE (e.map ae.enc) ≤ 1048576) : okE e := by
 have := ku OQ e
 exact ⟨by omega, fun i h => Ia (hw _ (List.getElem_mem h)).2.1⟩
theorem Cx {l : List ac} (hw : ∀ v, v ∈ l → ac.wf v) (hb : cE (l.map ac.enc) ≤ 1048576) : okL l ∧ l.length ≤ 1048576 := by
 have := ku OR l
 refine ⟨⟨by omega, fun i h => Gy (hw _ (List.getElem_mem h)).2.2.2.1.2 ?_⟩, by omega⟩
 have h2 := lk (enc := ac.enc) (List.getElem_mem h)
 simp only [ac.enc, blk, cE] at h2
 omega
theorem Jd {s : ah} (hw : ah.wf s) (hb : blk s.enc ≤ 1048576) : okG s ∧ s.Enter.length ≤ 1048576 ∧ s.During.length ≤ 1048576 ∧ s.Leave.length ≤ 1048576 ∧ s.Nexts.length ≤ 1048576 := by
 obtain ⟨_, _, _, w1, w2, w3, w4⟩ := hw
 simp only [ah.enc, blk, cE] at hb
 obtain ⟨a1, b1⟩ := Cx w1.2 (by omega)
 obtain ⟨a2, b2⟩ := Cx w2.2 (by omega)
 obtain ⟨a3, b3⟩ := Cx w3.2 (by omega)
 have hn := ku OS s.Nexts
 refine ⟨⟨a1, a2, a3, by omega, fun i h => Gy (w4.2 _ (List.getElem_mem h)).2.2 ?_⟩, b1, b2, b3, by omega⟩
 have h2 := lk (enc := aw.enc) (List.getElem_mem h)
 simp only [aw.enc, blk, cE] at h2
 omega
theorem Je {t : ab} (hw : ab.wf t) (hb : blk t.enc ≤ 1048576) : okN t ∧ okP t ∧ okR t ∧ okW t := by
 obtain ⟨_, ⟨_, _⟩, _, _, _, _, w, _⟩ := hw
 simp only [ab.enc, blk, cE] at hb
 have h1 := ku OU t.Tables.Groups
 have h2 := ku OV t.Tables.Conflicts
 have h3 := ku OW t.Dets
 have h4 := ku Lf t.Timers
 have h5 := ku Lf t.Counters
 have h6 := ku OX t.Vars
 have h7 := ku OT t.Stages
 have st : ∀ i (h : i < t.Stages.length), okG (t.Stages[i]) ∧ (t.Stages[i]).Enter.length ≤ 1048576 ∧ (t.Stages[i]).During.length ≤ 1048576 ∧ (t.Stages[i]).Leave.length ≤ 1048576 ∧ (t.Stages[i]).Nexts.length ≤ 1048576 := fun i h =>
  Jd (w.2 _ (List.getElem_mem h)) (Nat.le_trans (lk (enc := ah.enc) (List.getElem_mem h)) (by omega))
 refine ⟨⟨by omega, by omega, by omega, by omega, by omega, by omega, by omega⟩, fun i h => (st i h).1, ⟨by omega, fun i h => (st i h).2⟩, by omega, fun x hx => ?_⟩
 simp only [kG, List.mem_append, List.mem_map] at hx
 rcases hx with ((((hx | hx) | ⟨g, hx, rfl⟩) | ⟨g, hx, rfl⟩) | ⟨g, hx, rfl⟩) | ⟨g, hx, rfl⟩
 ·have := lk (enc := Dat.str) hx
  simp only [blk] at this; omega
 ·have := lk (enc := Dat.str) hx
  simp only [blk] at this; omega
 ·have := lk (enc := ak.enc) hx
  simp only [ak.enc, blk, cE] at this
  omega
 ·have := lk (enc := aE.enc) hx
  simp only [aE.enc, blk, cE] at this
  omega
 ·have := lk (enc := aN.enc) hx
  simp only [aN.enc, blk, cE] at this
  omega
 ·have := lk (enc := ah.enc) hx
  simp only [ah.enc, blk, cE] at this
  omega
theorem Lg (t : ab) (ht : ab.wf t) (hb : cE [ab.enc t] ≤ 1048576) : mP t = some true := by
 have h1 : blk t.enc ≤ 1048576 := Nat.le_trans (EA List.mem_cons_self) hb
 obtain ⟨a, b, c, d⟩ := Je ht h1
 exact law t a b c d
end Go.Proofs.YtkmbagocakiefaaGreatDoor.Wb
