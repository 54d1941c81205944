/- The abstract machine computes these functions. Printed by decomp.py. -/
import Derived.Test.YtkmbagocakiefaaGreatDoorD2
import Derived.Test.YtkmbagocakiefaaGreatDoorW2
import Derived.Test.YtkmbagocakiefaaGreatDoorW3
import Derived.Test.YtkmbagocakiefaaGreatDoorW4
import Derived.Test.YtkmbagocakiefaaGreatDoorW5
import Derived.Test.YtkmbagocakiefaaGreatDoorW6
import Derived.Test.YtkmbagocakiefaaGreatDoorW7
import Derived.Test.YtkmbagocakiefaaGreatDoorW8
import Derived.Test.YtkmbagocakiefaaGreatDoorW1
namespace Go.Proofs.YtkmbagocakiefaaGreatDoor.Wb
open Go Go.Jv
set_option maxHeartbeats 4000000
open Go.Proofs
set_option maxHeartbeats 4000000
attribute [local irreducible] EW EX PAt con
theorem oa (t e typ r) (h : eN t e typ = some r) : aL C 54 [(ab.enc t), (.lst (e.map ae.enc)), (.int .i64 typ)] = some [(.bool r)] := by
 refine aB (bu _ _ rfl) PV rfl (jmp 0 (.d (ab.enc t)) rfl (jmp 1 (.d (.lst (e.map ae.enc))) rfl (jmp 2 (.d (.int .i64 typ)) rfl ?_)))
 refine Z ?_
 refine cu (cs := (ab.av t)) rfl bJ.1 rfl rfl rfl (HP.nil _ _) (fun b14102 H' n' hH => ?_)
 refine Z ?_
 refine Wc h rfl rfl ?_ ?_ <;> intro _ h
 refine Z ?_
 cases h; exact Pq rfl rfl
 refine Z ?_
 refine Wc h rfl rfl ?_ ?_ <;> intro _ h
 refine Z ?_
 cases h; exact Pq rfl rfl
 refine Z ?_
 refine al h rfl Ks (sc rfl (sc rfl (sn))) (fun y hy => C2 _ _ y hy) (fun _ => rfl) (fun t21 h => ?_)
 refine Wd h rfl rfl ?_ ?_ <;> intro _ h
 refine Z ?_
 refine al h rfl NV (sc rfl (sn)) (fun y hy => I4 _ y hy) (fun _ => rfl) (fun t26 h => ?_)
 refine Wc h rfl rfl ?_ ?_ <;> intro _ h
 refine Z ?_
 cases h; exact Pq rfl rfl
 refine Z ?_
 refine aF (v := .agg (ab.av t)) rfl bJ.1 hH (i := 0) rfl rfl rfl ?_
 refine Z ?_
 refine al h rfl NW (sc rfl (sc rfl (sn))) (fun y hy => Gn _ _ y hy) (fun _ => rfl) (fun t31 h => ?_)
 refine Z ?_
 refine Wd h rfl rfl ?_ ?_ <;> intro _ h
 refine Z ?_
 cases h; exact Pq rfl rfl
 refine Z ?_
 refine Wb rfl rfl ?_
 refine Z ?_
 cases h; exact Pq rfl rfl
 refine Z ?_
 cases h; exact Pq rfl rfl
theorem Db (t r) (h : uo t = some r) : aL C 20 [(ab.enc t)] = some [(.bool r)] := by
 refine aB (bu _ _ rfl) Pe rfl (jmp 0 (.d (ab.enc t)) rfl ?_)
 refine Z ?_
 refine cu (cs := (ab.av t)) rfl bJ.1 rfl rfl rfl (HP.nil _ _) (fun b14148 H' n' hH => ?_)
 refine Z ?_
 exact J fun g => zP _ _ _ h b14148 g _ _ hH
theorem yr (t s_ r) (h : kM t s_ = some r) : aL C 21 [(ab.enc t), (ah.enc s_)] = some [(bn.enc r)] := by
 refine aB (bu _ _ rfl) Pf rfl (jmp 0 (.d (ab.enc t)) rfl (jmp 1 (.d (ah.enc s_)) rfl ?_))
 refine Z ?_
 refine cu (cs := (ab.av t)) rfl bJ.1 rfl rfl rfl (HP.nil _ _) (fun b14219 H' n' hH => ?_)
 refine cu (cs := (ah.av s_)) rfl bK.1 rfl rfl rfl hH (fun b14220 H' n' hH => ?_)
 refine aQ rfl yb hH (fun b14221 H' n' hH => ?_)
 refine Z ?_
 refine aQ rfl yb hH (fun b14222 H' n' hH => ?_)
 refine Z ?_
 exact J fun g => vb _ _ _ _ _ h b14219 b14220 b14221 b14222 .nil g _ _ ((hH.addNil (z := ⟨9, 1⟩)).sl 5 [4, 3, 2, 1, 0])
theorem yu (a b i r) (h : eD a b i = some r) : qR a b i r := by
 refine eD.partial_correctness a b (fun i r => qR a b i r) (fun eD ih_eD i r h b0 b1 g H n hH => ?_) i r h
 refine Po rfl ?_
 refine Z ?_
 refine Wc h rfl rfl ?_ ?_ <;> intro _ h
 refine Z ?_
 refine cB rfl (by kernel_rfl) ?_
 refine Z ?_
 refine aA h rfl ej.1 df.1 (fun _ => rfl) rfl rfl (fun t79 h => ?_)
 refine aR (d := (aE.enc t79)) rfl df.1 rfl rfl ?_
 refine Z ?_
 refine aA h rfl ej.1 df.1 (fun _ => rfl) rfl rfl (fun t84 h => ?_)
 refine aR (d := (aE.enc t84)) rfl df.1 rfl rfl ?_
 refine bA (b := (!(decide (t79.Name = t84.Name) && (decide (t79.Latch = t84.Latch) && (decide (t79.Delay = t84.Delay) && (decide (t79.Hold = t84.Hold) && true)))))) h rfl (kW LF Ng rfl rfl rfl) rfl (fun _ => ⟨rfl, rfl⟩) ?_ ?_ <;> intro _ h
 refine Z ?_
 cases h; exact Pq rfl rfl
 refine Z ?_
 exact J fun g => ih_eD _ _ h b0 b1 g _ _ hH
 refine Z ?_
 exact J fun g => yq _ _ _ _ h b0 b1 g _ _ hH
theorem wX (nodes stmts tnexts stages groups pairs dets vars texts i r) (h : nt nodes stmts tnexts stages groups pairs dets vars texts i = some r) (w1 w2 w3 w4 w5 w6 w7 w8 w9 be0 L g H n) (hH : HP H n (.box be0 [w1, w2, w3, .nil, w4, .nil, w5, w6, w7, w8, .nil, w9, .nil, .nil, .nil, .nil, .nil] :: bS w1 nodes :: bT w2 stmts :: bU w3 tnexts :: cz w4 stages :: bw w5 groups :: bz w6 pairs :: bF w7 dets :: bV w8 vars :: bL w9 texts :: L)) : PAt C (aj Tryz.f9) (.a (.b (.a (.b (.b .o))))) ⟨upd (upd g 0 (.pt be0 0)) 5 (.d (.int .i64 i)), H, n⟩ (cb C Tryz.f9 (fun rs H' n' => ∃ w'1 w'2 w'3 w'4 w'5 w'6 w'7 w'8 w'9 : AV, rs = [.d (.bool r.1)] ∧ HP H' n' (.box be0 [w'1, w'2, w'3, .nil, w'4, .nil, w'5, w'6, w'7, w'8, .nil, w'9, .nil, .nil, .nil, .nil, .nil] :: bS w'1 r.2.1 :: bT w'2 r.2.2.1 :: bU w'3 r.2.2.2.1 :: cz w'4 r.2.2.2.2.1 :: bw w'5 r.2.2.2.2.2.1 :: bz w'6 r.2.2.2.2.2.2.1 :: bF w'7 r.2.2.2.2.2.2.2.1 :: bV w'8 r.2.2.2.2.2.2.2.2.1 :: bL w'9 r.2.2.2.2.2.2.2.2.2 :: L))) := by
 refine Po rfl ?_
 refine Z ?_
 refine pf rfl Lw.1 rfl ?_
 refine Wc h rfl rfl ?_ ?_ <;> intro _ h
 refine Z ?_
 cases h
 refine Z ?_
 exact J fun g => wW _ _ _ _ _ _ _ _ _ _ _ h w1 w2 w3 w4 w5 w6 w7 w8 w9 _ _ g _ _ hH
theorem E9 (text r) (h : rp text = some r) : aL C 58 [(.str text)] = some [(.int .i32 r.1), (.int .i64 r.2)] := by
 refine aB (bu _ _ rfl) PZ rfl (jmp 0 (.d (.str text)) rfl ?_)
 refine Z ?_
 refine al h rfl HG (sc rfl (sc rfl (sc rfl (sn)))) (fun y hy => qw _ _ _ y hy) (fun _ => rfl) (fun t10 h => ?_)
 refine Z ?_
 refine bA (b := t10.2) h rfl (fN rfl rfl) rfl (fun _ => ⟨rfl, rfl⟩) ?_ ?_ <;> intro _ h
 refine Zs ?_
 exact J fun g => sm _ _ _ _ h g _ _
 refine Zs ?_
 exact J fun g => sm _ _ _ _ h g _ _
theorem zQ (tF open_ t9F t10F t11 r) (h : ef tF open_ t9F t10F t11 = some r) : mR tF t9F t10F (.c0 open_ t11) r := vc tF t9F t10F (.c0 open_ t11) r h
theorem FJ (t Name Name1 Decls t132 t133 t134 r) (h : gC t Name Name1 Decls t132 t133 t134 = some r) : Aa t Name Name1 Decls t132 t133 t134 r := by
 refine gC.partial_correctness t Name t132 t133 (fun Name1 Decls t134 r => Aa t Name Name1 Decls t132 t133 t134 r) (fun gC ih_gC Name1 Decls t134 r h b0 b1 b2 w3 g H n hH => ?_) Name1 Decls t134 r h
 refine Po rfl ?_
 refine Z ?_
 refine Wc h rfl rfl ?_ ?_ <;> intro _ h
 refine Z ?_
 refine aA h rfl bv.1 bM.1 (fun _ => rfl) rfl rfl (fun t136 h => ?_)
 refine Z ?_
 refine cr (cs := [.d (.int .i64 6), .d (.int .i64 0), .d (.int .i64 0), .d (.str t136), .d (.str ⟨#[]⟩), .d (.int .i64 0), .d (.int .i32 0), .d (.int .i32 0), .d (.int .i32 0), .nil, .nil, .nil, .nil, .nil, .nil]) rfl cO eo rfl ?_
 refine fw [.agg [.d (.int .i64 6), .d (.int .i64 0), .d (.int .i64 0), .d (.str t136), .d (.str ⟨#[]⟩), .d (.int .i64 0), .d (.int .i32 0), .d (.int .i32 0), .d (.int .i32 0), .nil, .nil, .nil, .nil, .nil, .nil], .pt b2 0] h rfl rfl tt rfl (fun y hy => gk _ _ _ _ _ _ _ _ _ _ _ _ _ _ _ _ y hy .nil .nil .nil .nil .nil b2 w3 _ _ ([.box b0 (ab.av t), .box b1 [.d (.str Name), .nil]]) ((((((hH.addNil (z := ⟨9, 1⟩)).addNil (z := ⟨105, 6⟩)).addNil (z := ⟨105, 6⟩)).addNil (z := ⟨105, 6⟩)).addNil (z := ⟨118, 4⟩)).sl 9 [4, 3, 2, 1, 0, 7, 8, 5, 6])) (fun t141 rs H' n' h hP => ?_)
 obtain ⟨w12987_1, rfl, hH⟩ := hP
 refine Z ?_
 exact J fun g => ih_gC _ _ _ _ h b0 b1 b2 w12987_1 g _ _ (hH.sl 4 [2, 3, 0, 1])
 refine Z ?_
 exact J fun g => FI _ _ _ _ _ _ _ _ h b0 b1 b2 w3 g _ _ hH
theorem FK (w r) (h : qp w = some r) : aL C 66 [(.str w)] = some [(.int .i32 r.1), (.int .i64 r.2)] := by
 refine aB (bu _ _ rfl) Q7 rfl (jmp 0 (.d (.str w)) rfl ?_)
 refine Z ?_
 refine al h rfl HH (sc rfl (sc rfl (sc rfl (sn)))) (fun y hy => rM _ _ _ y hy) (fun _ => rfl) (fun t8 h => ?_)
 refine Z ?_
 refine bA (b := t8.2) h rfl (fN rfl rfl) rfl (fun _ => ⟨rfl, rfl⟩) ?_ ?_ <;> intro _ h
 refine Zs ?_
 exact J fun g => tG _ _ _ _ h g _ _
 refine Zs ?_
 exact J fun g => tG _ _ _ _ h g _ _
theorem ul (lF : List ac) (tF : ab) (st : lW) (r : Bool) (h : aD lF tF st = some r) : lO lF tF st r := by
 refine aD.partial_correctness lF tF (lO lF tF) (fun r5_SoundList_L1_run' ih_ st r h => ?_) st r h
 cases st with
 | c0 elses i =>
  intro b0 w1 g H n hH
  refine Po rfl ?_
  refine Z ?_
  refine Wc h rfl rfl ?_ ?_ <;> intro _ h
  refine Z ?_
  refine aA h rfl cf.1 bj.1 (fun _ => rfl) rfl rfl (fun t19 h => ?_)
  refine aR (d := (ac.enc t19)) rfl bj.1 rfl rfl ?_
  refine aQ rfl fM hH (fun b14128 H' n' hH => ?_)
  refine ax (new := (ac.av t19)) rfl bj.1 hH (i := 0) rfl rfl rfl rfl rfl (Nat.le_of_ble_eq_true rfl) (fun H' hH => ?_)
  refine Z ?_
  refine Wd h rfl rfl ?_ ?_ <;> intro _ h
  refine Z ?_
  refine Wd h rfl rfl ?_ ?_ <;> intro _ h
  refine Z ?_
  refine Wd h rfl rfl ?_ ?_ <;> intro _ h
  refine Z ?_
  refine Wc h rfl rfl ?_ ?_ <;> intro _ h
  iterate 4 refine Zs ?_
  exact J fun g => ih_ (.c3 _ _ _ _ _) _ h b0 w1 b14128 g _ _ (hH.sl 3 [1, 2, 0])
  refine Z ?_
  refine Wc h rfl rfl ?_ ?_ <;> intro _ h
  iterate 4 refine Zs ?_
  exact J fun g => ih_ (.c1 _ _ _ _) _ h b0 w1 b14128 g _ _ (hH.sl 3 [1, 2, 0])
  refine Z ?_
  refine Wc h rfl rfl ?_ ?_ <;> intro _ h
  iterate 4 refine Zs ?_
  exact J fun g => ih_ (.c1 _ _ _ _) _ h b0 w1 b14128 g _ _ (hH.sl 3 [1, 2, 0])
  refine Z ?_
  refine Wc h rfl rfl ?_ ?_ <;> intro _ h
  iterate 2 refine Zs ?_
  exact J fun g => ih_ (.c1 _ _ _ _) _ h b0 w1 b14128 g _ _ (hH.sl 3 [1, 2, 0])
  refine Z ?_
  refine Wc h rfl rfl ?_ ?_ <;> intro _ h
  iterate 4 refine Zs ?_
  exact J fun g => ih_ (.c2 _ _ _ _) _ h b0 w1 b14128 g _ _ (hH.sl 3 [1, 2, 0])
  refine Z ?_
  refine Wc h rfl rfl ?_ ?_ <;> intro _ h
  iterate 2 refine Zs ?_
  exact J fun g => ih_ (.c2 _ _ _ _) _ h b0 w1 b14128 g _ _ (hH.sl 3 [1, 2, 0])
  refine Z ?_
  refine Wc h rfl rfl ?_ ?_ <;> intro _ h
  iterate 3 refine Zs ?_
  exact J fun g => ih_ (.c3 _ _ _ _ _) _ h b0 w1 b14128 g _ _ (hH.sl 3 [1, 2, 0])
  refine Z ?_
  refine Wc h rfl rfl ?_ ?_ <;> intro _ h
  refine Z ?_
  refine cN (enc := Dat.bool) (xs := [false]) [.d (.bool false)] rfl kz.1 lQ.1 KC ⟨by decide, Nat.le_of_ble_eq_true rfl⟩ zd4 (fun _ => rfl) (fun _ => rfl) rfl rfl hH (fun w14129 H' n' hH => ?_)
  refine bl (enc := Dat.bool) h rfl kz.1 lQ.1 IN (by decide) (fun _ => rfl) hH (j := 3) rfl rfl (aM hH (j := 0) rfl) (fun t67 w14130 H' n' h hH => ?_)
  refine Z ?_
  refine Wc h rfl rfl ?_ ?_ <;> intro _ h
  refine Z ?_
  cases h; exact Pq rfl rfl
  iterate 3 refine Zs ?_
  exact J fun g => ih_ (.c3 _ _ _ _ _) _ h b0 w14130 b14128 g _ _ (hH.sl 4 [3, 0, 2])
  refine Z ?_
  refine Wc h rfl rfl ?_ ?_ <;> intro _ h
  refine Z ?_
  refine Wc h rfl rfl ?_ ?_ <;> intro _ h
  refine Z ?_
  cases h; exact Pq rfl rfl
  refine Z ?_
  refine bO h rfl kz.1 lQ.1 hH (j := 2) rfl rfl rfl (fun i13131 t79 h hl13131 hv13131 => ?_)
  refine bA (b := t79) h rfl (FF lQ.1 hH (j := 2) rfl hl13131 rfl hv13131 rfl) rfl (fun _ => ⟨rfl, rfl⟩) ?_ ?_ <;> intro _ h
  refine Z ?_
  cases h; exact Pq rfl rfl
  refine Z ?_
  refine bO h rfl kz.1 lQ.1 hH (j := 2) rfl rfl rfl (fun i13132 t85 h hl13132 hv13132 => ?_)
  replace h := (ro _ _).symm.trans h
  refine tE (e' := true) (d := (.bool true)) rfl lQ.1 hH (j := 2) rfl hl13132 rfl hv13132 rfl rfl rfl (Nat.le_of_ble_eq_true rfl) rfl (fun l13133 H' hq hl13133 hv13133 hH => ?_)
  rw [← hq] at h
  refine Zs ?_
  exact J fun g => ih_ (.c3 _ _ _ _ _) _ h b0 w1 b14128 g _ _ (hH.sl 3 [1, 2, 0])
  refine Z ?_
  refine Wc h rfl rfl ?_ ?_ <;> intro _ h
  refine Z ?_
  refine Wc h rfl rfl ?_ ?_ <;> intro _ h
  refine Z ?_
  cases h; exact Pq rfl rfl
  refine Z ?_
  refine kV h rfl kz.1 lQ.1 hH (j := 2) rfl rfl iD (fun t93 w14134 H' n' h hH => ?_)
  refine Zs ?_
  exact J fun g => ih_ (.c3 _ _ _ _ _) _ h b0 w14134 b14128 g _ _ (hH.sl 3 [1, 2, 0])
  refine Z ?_
  cases h; exact Pq rfl rfl
  refine Z ?_
  cases h; exact Pq rfl rfl
  refine Z ?_
  cases h; exact Pq rfl rfl
  refine Z ?_
  cases h; exact Pq rfl rfl
  refine Z ?_
  refine Wb rfl rfl ?_
  refine Z ?_
  cases h; exact Pq rfl rfl
 | c1 elses i s_ typ =>
  intro b0 w1 b2 g H n hH
  refine Zs ?_
  exact J fun g => ih_ (.c3 _ _ _ _ _) _ h b0 w1 b2 g _ _ hH
 | c2 elses i s_ typ =>
  intro b0 w1 b2 g H n hH
  refine Zs ?_
  exact J fun g => ih_ (.c3 _ _ _ _ _) _ h b0 w1 b2 g _ _ hH
 | c3 elses i s_ things typ =>
  intro b0 w1 b2 g H n hH
  refine Z ?_
  refine Wc h rfl rfl ?_ ?_ <;> intro _ h
  refine Z ?_
  cases h; exact Pq rfl rfl
  refine Z ?_
  refine Wc h rfl rfl ?_ ?_ <;> intro _ h
  refine Z ?_
  cases h; exact Pq rfl rfl
  refine Z ?_
  refine Wc h rfl rfl ?_ ?_ <;> intro _ h
  refine Z ?_
  refine Wc h rfl rfl ?_ ?_ <;> intro _ h
  refine Z ?_
  cases h; exact Pq rfl rfl
  refine Z ?_
  refine Wd h rfl rfl ?_ ?_ <;> intro _ h
  iterate 3 refine Zs ?_
  exact J fun g => ih_ (.c4 _ _) _ h b0 w1 g _ _ (hH.sl 3 [0, 1])
  refine Z ?_
  refine aF (v := .agg (ab.av tF)) rfl bJ.1 hH (i := 0) rfl rfl rfl ?_
  refine Z ?_
  refine al h rfl HF (sc rfl (sc rfl (sc rfl (sn)))) (fun y hy => oa _ _ _ y hy) (fun _ => rfl) (fun t119 h => ?_)
  revert h; cases t119 <;> intro h
  replace h := if0 h
  refine ba rfl rfl rfl ?_
  refine Z ?_
  cases h; exact Pq rfl rfl
  replace h := if1 h
  refine ba rfl rfl rfl ?_
  iterate 3 refine Zs ?_
  exact J fun g => ih_ (.c4 _ _) _ h b0 w1 g _ _ (hH.sl 3 [0, 1])
  refine Z ?_
  refine Wd h rfl rfl ?_ ?_ <;> intro _ h
  iterate 3 refine Zs ?_
  exact J fun g => ih_ (.c4 _ _) _ h b0 w1 g _ _ (hH.sl 3 [0, 1])
  refine Z ?_
  refine aF (v := .agg (ab.av tF)) rfl bJ.1 hH (i := 0) rfl rfl rfl ?_
  refine Z ?_
  refine al h rfl HF (sc rfl (sc rfl (sc rfl (sn)))) (fun y hy => oa _ _ _ y hy) (fun _ => rfl) (fun t119_1 h => ?_)
  revert h; cases t119_1 <;> intro h
  replace h := if0 h
  refine ba rfl rfl rfl ?_
  refine Z ?_
  cases h; exact Pq rfl rfl
  replace h := if1 h
  refine ba rfl rfl rfl ?_
  iterate 3 refine Zs ?_
  exact J fun g => ih_ (.c4 _ _) _ h b0 w1 g _ _ (hH.sl 3 [0, 1])
 | c4 elses i =>
  intro b0 w1 g H n hH
  refine Z ?_
  exact J fun g => ih_ (.c0 _ _) _ h b0 w1 g _ _ hH
theorem Ea (t Name Name1 Decls i r) (h : fH t Name Name1 Decls i = some r) : yA t Name Name1 Decls i r := by
 refine fH.partial_correctness t Name Name1 (fun Decls i r => yA t Name Name1 Decls i r) (fun fH ih_fH Decls i r h b0 b1 b2 w3 g H n hH => ?_) Decls i r h
 refine Po rfl ?_
 refine Z ?_
 refine Wc h rfl rfl ?_ ?_ <;> intro _ h
 refine Z ?_
 refine ct (pz := [(1, 3), (1, 5), (1, 7), (1, 8), (3, 8), (5, 8), (7, 8), (1, 10), (3, 10), (5, 10), (7, 10), (8, 10), (1, 12), (3, 12), (5, 12), (7, 12), (8, 12), (1, 13), (3, 13), (5, 13), (7, 13), (8, 13), (1, 14), (3, 14), (5, 14), (7, 14), (1, 16)]) rfl rfl (by kernel_rfl) (by kernel_rfl) ?_
 refine Z ?_
 refine bQ (fv := fun v => .d (.ptr (ah.enc v).cells)) (az) h rfl (bR dr.1 bK.1 (fun _ => rfl) rfl rfl) ⟨rfl, rfl⟩ (fun t226 h => ?_)
 refine Z ?_
 refine bi (v := .agg (ab.av t)) (.of [b0] []) rfl (dR bJ.1 hH (i := 0) rfl rfl rfl) ⟨rfl, rfl⟩ ?_
 refine Z ?_
 refine bQ (fv := fun v => .d (.ptr (ah.enc v).cells)) (az) h rfl (bR dr.1 bK.1 (fun _ => rfl) rfl rfl) ⟨rfl, rfl⟩ (fun t233 h => ?_)
 refine bi (v := .d (ah.enc t233)) (az) rfl (vR bK.1 rfl rfl) ⟨rfl, rfl⟩ ?_
 refine HY (E := fun y => [(bn.enc y)]) (xs := [(ab.enc t), (ah.enc t233)]) h rfl Nw rfl rfl (fun y hy => yr _ _ y hy) (fun t235 h => ?_)
 refine bi (v := .agg [.d (.int .i64 9), .d (.int .i64 0), .d (.int .i64 0), .d (.str t226.Name), .d (.str ⟨#[]⟩), .d (.int .i64 0), .d (.int .i32 0), .d (.int .i32 0), .d (.int .i32 0), .nil, .d (.lst (t235.Green.map Dat.str)), .d (.lst (t235.Enter.map ac.enc)), .d (.lst (t235.During.map ac.enc)), .d (.lst (t235.Leave.map ac.enc)), .d (.lst (t235.Nexts.map da.enc))]) (az) rfl (cy cO eo rfl) ⟨rfl, rfl⟩ ?_
 refine jK (enc := aV.enc) (e := (⟨9, (⟨0, 0⟩ : bd), t226.Name, ⟨#[]⟩, 0, (⟨0, 0, 0⟩ : (A3 Int)), [], t235⟩ : aV)) (.agg [.d (.int .i64 9), .d (.int .i64 0), .d (.int .i64 0), .d (.str t226.Name), .d (.str ⟨#[]⟩), .d (.int .i64 0), .d (.int .i32 0), .d (.int .i32 0), .d (.int .i32 0), .nil, .d (.lst (t235.Green.map Dat.str)), .d (.lst (t235.Enter.map ac.enc)), .d (.lst (t235.During.map ac.enc)), .d (.lst (t235.Leave.map ac.enc)), .d (.lst (t235.Nexts.map da.enc))]) rfl eZ.1 dC.1 cO (by decide) vO (fun _ => rfl) (fun _ => rfl) rfl (FS.agg (FS.d (FS.d (FS.d (FS.d (FS.d (FS.d (FS.d (FS.d (FS.d (FS.nl (FS.d (FS.d (FS.d (FS.d (FS.d (FS.nil hH)))))))))))))))) (fun _ hH => FS.nil hH)) rfl (fun w14351 i13351 H' n13351 hH hoff13351 hn13351 hi13351 => ?_)
 have hof13351_0 := hoff13351.box (k := 0) rfl
 have hof13351_1 := hoff13351.box (k := 1) rfl
 have hof13351_2 := hoff13351.box (k := 2) rfl
 have hof13351_3 := hoff13351.own (k := 3) rfl
 have hof13351 := hoff13351.2
 clear hoff13351
 refine cG (enc := aV.enc) (w14351) h rfl eZ.1 dC.1 lr (by decide) (fun _ => rfl) hH (j := 4) rfl rfl rfl (aM hH (j := 0) rfl) (fun t238 w14352 i13352 H' n13352 h hH hoff13352 hn13352 hi13352 => ?_)
 have hof13352_0 := hoff13352.own (k := 0) rfl
 have hof13352_1 := hoff13352.box (k := 1) rfl
 have hof13352_2 := hoff13352.box (k := 2) rfl
 have hof13352_3 := hoff13352.box (k := 3) rfl
 have hof13352 := hoff13352.2
 clear hoff13352
 refine Z ?_
 refine bX (new := [w14352]) [.d (.str Name1), w14352] rfl rk.1 hH (i := 4) rfl rfl (hH.okOwn (j := 0) rfl).2 rfl (by simp only [List.all_cons, List.all_nil, (hH.okOwn (j := 0) rfl).1]; rfl) (Nat.le_of_ble_eq_true rfl) rfl (fun H' hH => ?_)
 refine xn (pk rfl rfl aG (pk rfl rfl aY (pk rfl rfl aY (pk rfl rfl aG (pk rfl rfl aG (pk rfl rfl ao (pk rfl rfl ao (pk rfl rfl aG (pk rfl rfl aG (pk rfl rfl ao (pk rfl rfl ao (pk rfl rfl aG (pk rfl rfl aY (pk rfl rfl aY (pk rfl rfl ao (pk rfl rfl ao (pk rfl rfl aY (pk rfl rfl aY (pk rfl rfl aY (pk rfl rfl ao (pk rfl rfl ao (pk rfl rfl aY (pk rfl rfl aY (pk rfl rfl aY (pk rfl rfl ao (pk rfl rfl ao (pk rfl rfl nco (pkn)))))))))))))))))))))))))))) ?_
 refine Z ?_
 exact J fun g => ih_fH _ _ _ h b0 b1 b2 w14352 g _ _ (hH.sl 5 [2, 3, 4, 0])
 refine Z ?_
 refine ct (pz := [(1, 3), (1, 5), (3, 5), (1, 6), (1, 8), (1, 10)]) rfl rfl (by kernel_rfl) (by kernel_rfl) ?_
 refine Z ?_
 refine bQ (fv := fun v => .d (.ptr (ah.enc v).cells)) (az) h rfl (bR dr.1 bK.1 (fun _ => rfl) rfl rfl) ⟨rfl, rfl⟩ (fun t246 h => ?_)
 refine Z ?_
 refine bi (v := .agg [.d (.int .i64 10), .d (.int .i64 0), .d (.int .i64 0), .d (.str t246.Name), .d (.str ⟨#[]⟩), .d (.int .i64 0), .d (.int .i32 0), .d (.int .i32 0), .d (.int .i32 0), .nil, .nil, .nil, .nil, .nil, .nil]) (az) rfl (cy cO eo rfl) ⟨rfl, rfl⟩ ?_
 refine jK (enc := aV.enc) (e := (⟨10, (⟨0, 0⟩ : bd), t246.Name, ⟨#[]⟩, 0, (⟨0, 0, 0⟩ : (A3 Int)), [], (⟨[], [], [], [], []⟩ : bn)⟩ : aV)) (.agg [.d (.int .i64 10), .d (.int .i64 0), .d (.int .i64 0), .d (.str t246.Name), .d (.str ⟨#[]⟩), .d (.int .i64 0), .d (.int .i32 0), .d (.int .i32 0), .d (.int .i32 0), .nil, .nil, .nil, .nil, .nil, .nil]) rfl eZ.1 dC.1 cO (by decide) vO (fun _ => rfl) (fun _ => rfl) rfl (FS.agg (FS.d (FS.d (FS.d (FS.d (FS.d (FS.d (FS.d (FS.d (FS.d (FS.nl (FS.nl (FS.nl (FS.nl (FS.nl (FS.nl (FS.nil hH)))))))))))))))) (fun _ hH => FS.nil hH)) rfl (fun w14354 i13354 H' n13354 hH hoff13354 hn13354 hi13354 => ?_)
 have hof13354_0 := hoff13354.box (k := 0) rfl
 have hof13354_1 := hoff13354.box (k := 1) rfl
 have hof13354_2 := hoff13354.box (k := 2) rfl
 have hof13354_3 := hoff13354.own (k := 3) rfl
 have hof13354 := hoff13354.2
 clear hoff13354
 refine cG (enc := aV.enc) (w14354) h rfl eZ.1 dC.1 lr (by decide) (fun _ => rfl) hH (j := 4) rfl rfl rfl (aM hH (j := 0) rfl) (fun t251 w14355 i13355 H' n13355 h hH hoff13355 hn13355 hi13355 => ?_)
 have hof13355_0 := hoff13355.own (k := 0) rfl
 have hof13355_1 := hoff13355.box (k := 1) rfl
 have hof13355_2 := hoff13355.box (k := 2) rfl
 have hof13355_3 := hoff13355.box (k := 3) rfl
 have hof13355 := hoff13355.2
 clear hoff13355
 refine Z ?_
 refine bX (new := [w14355]) [.d (.str Name1), w14355] rfl rk.1 hH (i := 4) rfl rfl (hH.okOwn (j := 0) rfl).2 rfl (by simp only [List.all_cons, List.all_nil, (hH.okOwn (j := 0) rfl).1]; rfl) (Nat.le_of_ble_eq_true rfl) rfl (fun H' hH => ?_)
 refine xn (pk rfl rfl aG (pk rfl rfl aG (pk rfl rfl aG (pk rfl rfl aY (pk rfl rfl aY (pk rfl rfl nco (pkn))))))) ?_
 refine Z ?_
 refine aF (v := .agg [.d (.str Name1), w14355]) rfl iB.1 hH (i := 4) rfl rfl rfl ?_
 refine ax (new := [.d (.str Name1), w14355]) rfl iB.1 hH (i := 3) rfl rfl rfl rfl (by simp only [List.all_cons, List.all_nil, (hH.okOwn (j := 0) rfl).1]; rfl) (Nat.le_of_ble_eq_true rfl) (fun H' hH => ?_)
 refine Z ?_
 refine Pt rfl (Cr ?_)
 obtain rfl := si h
 exact pdF (.inl rfl) (iI (.agg [.d (.str Name1), w14355]) iB.1 hH (i := 3) rfl rfl rfl (aS (.d (.int .i64 0)) rfl (aJ))) (FS.agg (FS.d (FS.own hH (j := 0) rfl (fun _ hH => FS.nil hH))) (fun _ hH => FS.d (FS.nil hH)))
theorem Ck (a b r) (h : oI a b = some r) : aL C 8 [(ab.enc a), (ab.enc b)] = some [(.bool r)] := by
 refine aB (bu _ _ rfl) fn8 rfl (jmp 0 (.d (ab.enc a)) rfl (jmp 1 (.d (ab.enc b)) rfl ?_))
 refine Z ?_
 refine cu (cs := (ab.av a)) rfl bJ.1 rfl rfl rfl (HP.nil _ _) (fun b14383 H' n' hH => ?_)
 refine cu (cs := (ab.av b)) rfl bJ.1 rfl rfl rfl hH (fun b14384 H' n' hH => ?_)
 refine Z ?_
 refine Wd h rfl rfl ?_ ?_ <;> intro _ h
 refine Z ?_
 refine Wd h rfl rfl ?_ ?_ <;> intro _ h
 refine Z ?_
 refine aF (v := .agg (aI.av a.Tables)) rfl my.1 hH (i := 1) rfl rfl rfl ?_
 refine Z ?_
 refine aF (v := .agg (aI.av b.Tables)) rfl my.1 hH (i := 0) rfl rfl rfl ?_
 refine al h rfl Nz (sc rfl (sc rfl (sn))) (fun y hy => Au _ _ y hy) (fun _ => rfl) (fun t25 h => ?_)
 revert h; cases t25 <;> intro h
 replace h := if0 h
 refine ba rfl rfl rfl ?_
 refine Z ?_
 cases h; exact Pq rfl rfl
 replace h := if1 h
 refine ba rfl rfl rfl ?_
 refine Z ?_
 refine al h rfl Hx (sc rfl (sc rfl (sn))) (fun y hy => lM _ _ y hy) (fun _ => rfl) (fun t33 h => ?_)
 revert h; cases t33 <;> intro h
 replace h := if0 h
 refine ba rfl rfl rfl ?_
 refine Z ?_
 cases h; exact Pq rfl rfl
 replace h := if1 h
 refine ba rfl rfl rfl ?_
 refine Z ?_
 refine al h rfl Hx (sc rfl (sc rfl (sn))) (fun y hy => lM _ _ y hy) (fun _ => rfl) (fun t41 h => ?_)
 revert h; cases t41 <;> intro h
 replace h := if0 h
 refine ba rfl rfl rfl ?_
 refine Z ?_
 cases h; exact Pq rfl rfl
 replace h := if1 h
 refine ba rfl rfl rfl ?_
 refine Z ?_
 refine Wd h rfl rfl ?_ ?_ <;> intro _ h
 refine Z ?_
 refine Wd h rfl rfl ?_ ?_ <;> intro _ h
 refine Z ?_
 refine Wd h rfl rfl ?_ ?_ <;> intro _ h
 refine Z ?_
 exact J fun g => yu _ _ _ _ h b14383 b14384 g _ _ (hH.sl 2 [1, 0])
 refine Z ?_
 cases h; exact Pq rfl rfl
 refine Z ?_
 cases h; exact Pq rfl rfl
 refine Z ?_
 cases h; exact Pq rfl rfl
 refine Z ?_
 cases h; exact Pq rfl rfl
 refine Z ?_
 cases h; exact Pq rfl rfl
theorem wY (nodes stmts tnexts stages groups pairs dets vars texts i r) (h : cY nodes stmts tnexts stages groups pairs dets vars texts i = some r) : qb nodes stmts tnexts stages groups pairs dets vars texts i r := by
 refine cY.partial_correctness nodes stmts tnexts stages groups pairs dets vars texts (fun i r => qb nodes stmts tnexts stages groups pairs dets vars texts i r) (fun cY ih_cY i r h w1 w2 w3 w4 w5 w6 w7 w8 w9 be0 L g H n hH => ?_) i r h
 refine Po rfl ?_
 refine Z ?_
 refine Wc h rfl rfl ?_ ?_ <;> intro _ h
 refine Z ?_
 refine bO h rfl Fr.1 ze.1 hH (j := 9) rfl rfl rfl (fun i13422 t25 h hl13422 hv13422 => ?_)
 refine cD rfl ze.1 hH (j := 9) rfl hl13422 rfl hv13422 rfl ?_
 refine Z ?_
 refine aA h rfl bv.1 bM.1 (fun _ => rfl) rfl rfl (fun t31 h => ?_)
 refine Z ?_
 refine Wd h rfl rfl ?_ ?_ <;> intro _ h
 refine Z ?_
 refine aA h rfl bv.1 bM.1 (fun _ => rfl) rfl rfl (fun t39 h => ?_)
 refine Z ?_
 refine Wd h rfl rfl ?_ ?_ <;> intro _ h
 refine Z ?_
 exact J fun g => ih_cY _ _ h w1 w2 w3 w4 w5 w6 w7 w8 w9 _ _ g _ _ hH
 refine Z ?_
 refine Pt rfl (Cr ?_)
 obtain rfl := si h
 exact prF (.inl rfl) (aS (.d (.bool false)) rfl (aJ)) ⟨w1, w2, w3, w4, w5, w6, w7, w8, w9, rfl, hH⟩
 refine Z ?_
 refine Pt rfl (Cr ?_)
 obtain rfl := si h
 exact prF (.inl rfl) (aS (.d (.bool false)) rfl (aJ)) ⟨w1, w2, w3, w4, w5, w6, w7, w8, w9, rfl, hH⟩
 refine Z ?_
 exact J fun g => wX _ _ _ _ _ _ _ _ _ _ _ h w1 w2 w3 w4 w5 w6 w7 w8 w9 _ _ g _ _ hH
theorem ng (text r) (h : ko text = some r) (g H n) : PAt C (aj Tryz.f48) (.b (.b (.b (.b .o)))) ⟨upd g 0 (.d (.str text)), H, n⟩ (aq C Tryz.f48 [(.int .i64 r)]) := by
 refine Z ?_
 refine al h rfl NO (sc rfl (sn)) (fun y hy => E9 _ y hy) (fun _ => rfl) (fun t30 h => ?_)
 refine Z ?_
 refine Wc h rfl rfl ?_ ?_ <;> intro _ h
 refine Z ?_
 cases h; exact Pq rfl rfl
 refine Z ?_
 cases h; exact Pq rfl rfl
theorem pn (t l r) (h : jn t l = some r) (be0 H n L) (hH : HP H n (.box be0 (ab.av t) :: L)) : Raw C 49 [.pt be0 0, .d (.lst (l.map ac.enc))] H n (fun rs H' n' => rs = [.d (.bool r)] ∧ HP H' n' (.box be0 (ab.av t) :: L)) := by
 refine fa PQ rfl (jmp 0 (.pt be0 0) rfl (jmp 1 (.d (.lst (l.map ac.enc))) rfl ?_))
 refine Z ?_
 exact J fun g => zQ _ _ _ _ _ _ h .nil _ _ g _ _ ((hH.addNil (z := ⟨4, 1⟩)).sl 2 [1, 0])
theorem FL (t Name Name1 Decls t120 t121 t122 r) (h : fS t Name Name1 Decls t120 t121 t122 = some r) : Ab t Name Name1 Decls t120 t121 t122 r := by
 refine fS.partial_correctness t Name t120 t121 (fun Name1 Decls t122 r => Ab t Name Name1 Decls t120 t121 t122 r) (fun fS ih_fS Name1 Decls t122 r h b0 b1 b2 w3 g H n hH => ?_) Name1 Decls t122 r h
 refine Po rfl ?_
 refine Z ?_
 refine Wc h rfl rfl ?_ ?_ <;> intro _ h
 refine Z ?_
 refine aA h rfl bv.1 bM.1 (fun _ => rfl) rfl rfl (fun t124 h => ?_)
 refine Z ?_
 refine cr (cs := [.d (.int .i64 5), .d (.int .i64 0), .d (.int .i64 0), .d (.str t124), .d (.str ⟨#[]⟩), .d (.int .i64 0), .d (.int .i32 0), .d (.int .i32 0), .d (.int .i32 0), .nil, .nil, .nil, .nil, .nil, .nil]) rfl cO eo rfl ?_
 refine fw [.agg [.d (.int .i64 5), .d (.int .i64 0), .d (.int .i64 0), .d (.str t124), .d (.str ⟨#[]⟩), .d (.int .i64 0), .d (.int .i32 0), .d (.int .i32 0), .d (.int .i32 0), .nil, .nil, .nil, .nil, .nil, .nil], .pt b2 0] h rfl rfl tt rfl (fun y hy => gk _ _ _ _ _ _ _ _ _ _ _ _ _ _ _ _ y hy .nil .nil .nil .nil .nil b2 w3 _ _ ([.box b0 (ab.av t), .box b1 [.d (.str Name), .nil]]) ((((((hH.addNil (z := ⟨9, 1⟩)).addNil (z := ⟨105, 6⟩)).addNil (z := ⟨105, 6⟩)).addNil (z := ⟨105, 6⟩)).addNil (z := ⟨118, 4⟩)).sl 9 [4, 3, 2, 1, 0, 7, 8, 5, 6])) (fun t129 rs H' n' h hP => ?_)
 obtain ⟨w12986_1, rfl, hH⟩ := hP
 refine Z ?_
 exact J fun g => ih_fS _ _ _ _ h b0 b1 b2 w12986_1 g _ _ (hH.sl 4 [2, 3, 0, 1])
 refine Z ?_
 exact J fun g => FJ _ _ _ _ _ _ _ _ h b0 b1 b2 w3 g _ _ hH
end Go.Proofs.YtkmbagocakiefaaGreatDoor.Wb
namespace Go.Proofs.YtkmbagocakiefaaGreatDoor.Wb
open Go Go.Jv
set_option maxHeartbeats 4000000
open Go.Proofs
set_option maxHeartbeats 4000000
attribute [local irreducible] EW EX PAt con
theorem Bp (w i r) (h : fB w i = some r) : uD w i r := by
 refine fB.partial_correctness w (fun i r => uD w i r) (fun fB ih_fB i r h g H n => ?_) i r h
 refine Po rfl ?_
 refine Z ?_
 refine Wc h rfl rfl ?_ ?_ <;> intro _ h
 refine Z ?_
 refine zj h rfl IJ bM.1 Ni rfl rfl LI (fun t23 h _ _ => ?_)
 refine Z ?_
 refine Wc h rfl rfl ?_ ?_ <;> intro _ h
 refine Z ?_
 cases h; exact Pq rfl rfl
 refine Z ?_
 exact J fun g => ih_fB _ _ h g _ _
 refine Z ?_
 refine Wc h rfl rfl ?_ ?_ <;> intro _ h
 refine Z ?_
 cases h; exact Pq rfl rfl
 refine Z ?_
 refine al h rfl NT (sc rfl (sc rfl (sn))) (fun y hy => EG _ _ y hy) (fun _ => rfl) (fun t33 h => ?_)
 refine Z ?_
 refine du rfl (dsc ty9) rfl ?_
 refine Wd h rfl rfl ?_ ?_ <;> intro _ h
 refine Z ?_
 refine ir h rfl ty9 rfl rfl (fun t39 h => ?_)
 refine al h rfl Kr (sc rfl (sn)) (fun y hy => xN _ y hy) (fun _ => rfl) (fun t40 h => ?_)
 revert h; cases t40 <;> intro h
 replace h := if0 h
 refine Z ?_
 refine al h rfl NU (sc rfl (sn)) (fun y hy => FK _ y hy) (fun _ => rfl) (fun t46 h => ?_)
 refine Z ?_
 refine Wd h rfl rfl ?_ ?_ <;> intro _ h
 refine Z ?_
 cases h; exact Pq rfl rfl
 refine Z ?_
 cases h; exact Pq rfl rfl
 replace h := if1 h
 refine Z ?_
 refine du rfl (dsc ty9) rfl ?_
 refine Wc h rfl rfl ?_ ?_ <;> intro _ h
 refine Z ?_
 cases h; exact Pq rfl rfl
 refine Z ?_
 cases h; exact Pq rfl rfl
 refine Z ?_
 cases h; exact Pq rfl rfl
theorem xu (lF tF elses i r) (h : dL lF tF elses i = some r) : lO lF tF (.c0 elses i) r := ul lF tF (.c0 elses i) r h
theorem DQ (t Name Name1 Decls i r) (h : fI t Name Name1 Decls i = some r) : yB t Name Name1 Decls i r := by
 refine fI.partial_correctness t Name Name1 (fun Decls i r => yB t Name Name1 Decls i r) (fun fI ih_fI Decls i r h b0 b1 b2 w3 g H n hH => ?_) Decls i r h
 refine Po rfl ?_
 refine Z ?_
 refine Wc h rfl rfl ?_ ?_ <;> intro _ h
 refine Z ?_
 refine ct (pz := [(1, 3), (1, 5), (1, 7), (1, 9), (3, 9), (5, 9), (7, 9), (1, 11), (3, 11), (5, 11), (7, 11), (1, 13), (3, 13), (5, 13), (7, 13), (1, 16)]) rfl rfl (by kernel_rfl) (by kernel_rfl) ?_
 refine Z ?_
 refine bQ (fv := fun v => .d (.ptr (aN.enc v).cells)) (az) h rfl (bR fq.1 dB.1 (fun _ => rfl) rfl rfl) ⟨rfl, rfl⟩ (fun t200 h => ?_)
 refine Z ?_
 refine bQ (fv := fun v => .d (.ptr (aN.enc v).cells)) (az) h rfl (bR fq.1 dB.1 (fun _ => rfl) rfl rfl) ⟨rfl, rfl⟩ (fun t206 h => ?_)
 refine Z ?_
 refine bi (v := .agg [.d (.int .i32 t206.Init), .d (.int .i32 0), .d (.int .i32 0)]) (az) rfl (ny pY tr tu.1 rfl) ⟨rfl, rfl⟩ (bi (v := .agg [.d (.int .i64 7), .d (.int .i64 0), .d (.int .i64 0), .d (.str t200.Name), .d (.str ⟨#[]⟩), .d (.int .i64 0), .d (.int .i32 t206.Init), .d (.int .i32 0), .d (.int .i32 0), .nil, .nil, .nil, .nil, .nil, .nil]) (az) rfl (cy cO eo rfl) ⟨rfl, rfl⟩ ?_)
 refine jK (enc := aV.enc) (e := (⟨7, (⟨0, 0⟩ : bd), t200.Name, ⟨#[]⟩, 0, (⟨t206.Init, 0, 0⟩ : (A3 Int)), [], (⟨[], [], [], [], []⟩ : bn)⟩ : aV)) (.agg [.d (.int .i64 7), .d (.int .i64 0), .d (.int .i64 0), .d (.str t200.Name), .d (.str ⟨#[]⟩), .d (.int .i64 0), .d (.int .i32 t206.Init), .d (.int .i32 0), .d (.int .i32 0), .nil, .nil, .nil, .nil, .nil, .nil]) rfl eZ.1 dC.1 cO (by decide) vO (fun _ => rfl) (fun _ => rfl) rfl (FS.agg (FS.d (FS.d (FS.d (FS.d (FS.d (FS.d (FS.d (FS.d (FS.d (FS.nl (FS.nl (FS.nl (FS.nl (FS.nl (FS.nl (FS.nil hH)))))))))))))))) (fun _ hH => FS.nil hH)) rfl (fun w14348 i13348 H' n13348 hH hoff13348 hn13348 hi13348 => ?_)
 have hof13348_0 := hoff13348.box (k := 0) rfl
 have hof13348_1 := hoff13348.box (k := 1) rfl
 have hof13348_2 := hoff13348.box (k := 2) rfl
 have hof13348_3 := hoff13348.own (k := 3) rfl
 have hof13348 := hoff13348.2
 clear hoff13348
 refine cG (enc := aV.enc) (w14348) h rfl eZ.1 dC.1 lr (by decide) (fun _ => rfl) hH (j := 4) rfl rfl rfl (aM hH (j := 0) rfl) (fun t212 w14349 i13349 H' n13349 h hH hoff13349 hn13349 hi13349 => ?_)
 have hof13349_0 := hoff13349.own (k := 0) rfl
 have hof13349_1 := hoff13349.box (k := 1) rfl
 have hof13349_2 := hoff13349.box (k := 2) rfl
 have hof13349_3 := hoff13349.box (k := 3) rfl
 have hof13349 := hoff13349.2
 clear hoff13349
 refine Z ?_
 refine bX (new := [w14349]) [.d (.str Name1), w14349] rfl rk.1 hH (i := 4) rfl rfl (hH.okOwn (j := 0) rfl).2 rfl (by simp only [List.all_cons, List.all_nil, (hH.okOwn (j := 0) rfl).1]; rfl) (Nat.le_of_ble_eq_true rfl) rfl (fun H' hH => ?_)
 refine xn (pk rfl rfl aG (pk rfl rfl aY (pk rfl rfl aY (pk rfl rfl aG (pk rfl rfl aG (pk rfl rfl ao (pk rfl rfl ao (pk rfl rfl aY (pk rfl rfl aY (pk rfl rfl ao (pk rfl rfl ao (pk rfl rfl aY (pk rfl rfl aY (pk rfl rfl ao (pk rfl rfl ao (pk rfl rfl nco (pkn))))))))))))))))) ?_
 refine Z ?_
 exact J fun g => ih_fI _ _ _ h b0 b1 b2 w14349 g _ _ (hH.sl 5 [2, 3, 4, 0])
 refine Z ?_
 exact J fun g => Ea _ _ _ _ _ _ h b0 b1 b2 w3 g _ _ hH
theorem Az (nodes stmts tnexts stages groups pairs dets vars texts r) (h : mO nodes stmts tnexts stages groups pairs dets vars texts = some r) (be0 we1 we2 we3 we4 we5 we6 we7 we8 we9 H n L) (hH : HP H n (.box be0 [we1, we2, we3, .nil, we4, .nil, we5, we6, we7, we8, .nil, we9, .nil, .nil, .nil, .nil, .nil] :: bS we1 nodes :: bT we2 stmts :: bU we3 tnexts :: cz we4 stages :: bw we5 groups :: bz we6 pairs :: bF we7 dets :: bV we8 vars :: bL we9 texts :: L)) : Raw C 9 [.pt be0 0] H n (fun rs H' n' => ∃ w'1 w'2 w'3 w'4 w'5 w'6 w'7 w'8 w'9 : AV, rs = [.d (.bool r.1)] ∧ HP H' n' (.box be0 [w'1, w'2, w'3, .nil, w'4, .nil, w'5, w'6, w'7, w'8, .nil, w'9, .nil, .nil, .nil, .nil, .nil] :: bS w'1 r.2.1 :: bT w'2 r.2.2.1 :: bU w'3 r.2.2.2.1 :: cz w'4 r.2.2.2.2.1 :: bw w'5 r.2.2.2.2.2.1 :: bz w'6 r.2.2.2.2.2.2.1 :: bF w'7 r.2.2.2.2.2.2.2.1 :: bV w'8 r.2.2.2.2.2.2.2.2.1 :: bL w'9 r.2.2.2.2.2.2.2.2.2 :: L)) := by
 refine fa fn9 rfl (jmp 0 (.pt be0 0) rfl ?_)
 refine Z ?_
 exact J fun g => wY _ _ _ _ _ _ _ _ _ _ _ h we1 we2 we3 we4 we5 we6 we7 we8 we9 _ _ g _ _ hH
theorem wg (text r) (h : gY text = some r) : aL C 48 [(.str text)] = some [(.int .i64 r)] := by
 refine aB (bu _ _ rfl) PP rfl (jmp 0 (.d (.str text)) rfl ?_)
 refine Z ?_
 refine al h rfl NM (sc rfl (sn)) (fun y hy => G0 _ y hy) (fun _ => rfl) (fun t7 h => ?_)
 refine Z ?_
 refine Wd h rfl rfl ?_ ?_ <;> intro _ h
 refine Z ?_
 refine Wc h rfl rfl ?_ ?_ <;> intro _ h
 refine Z ?_
 cases h; exact Pq rfl rfl
 refine Z ?_
 refine ir h rfl ty9 rfl rfl (fun t14 h => ?_)
 refine al h rfl Kp (sc rfl (sn)) (fun y hy => wt _ y hy) (fun _ => rfl) (fun t15 h => ?_)
 revert h; cases t15 <;> intro h
 replace h := if0 h
 iterate 3 refine Zs ?_
 exact J fun g => ng _ _ h g _ _
 replace h := if1 h
 refine Z ?_
 refine du rfl (dsc ty9) rfl ?_
 refine Wc h rfl rfl ?_ ?_ <;> intro _ h
 refine Z ?_
 refine al h rfl NN (sc rfl (sn)) (fun y hy => H4 _ y hy) (fun _ => rfl) (fun t23 h => ?_)
 refine Z ?_
 refine du rfl (dsc ty9) rfl ?_
 refine Wc h rfl rfl ?_ ?_ <;> intro _ h
 refine Z ?_
 cases h; exact Pq rfl rfl
 iterate 3 refine Zs ?_
 exact J fun g => ng _ _ h g _ _
 iterate 3 refine Zs ?_
 exact J fun g => ng _ _ h g _ _
 refine Z ?_
 cases h; exact Pq rfl rfl
theorem pT (t i s_ r) (h : je t i s_ = some r) (b1 be0 L g H n) (hH : HP H n (.box be0 (ab.av t) :: .box b1 (ah.av s_) :: L)) : PAt C (aj Tryz.f33) (.b (.b (.b (.b .o)))) ⟨upd (upd (upd g 0 (.pt be0 0)) 1 (.d (.int .i64 i))) 5 (.pt b1 0), H, n⟩ (cb C Tryz.f33 (fun rs H' n' => rs = [.d (.bool r)] ∧ HP H' n' (.box be0 (ab.av t) :: L))) := by
 refine Z ?_
 refine fw [.pt be0 0, .d (.lst (s_.Enter.map ac.enc))] h rfl rfl HB rfl (fun y hy => pn _ _ y hy be0 _ _ (.box b1 (ah.av s_) :: L) hH) (fun t56 rs H' n' h hP => ?_)
 obtain ⟨rfl, hH⟩ := hP
 refine bA (b := (!t56)) h rfl (kC rfl rfl) rfl (fun _ => ⟨rfl, rfl⟩) ?_ ?_ <;> intro _ h
 refine Z ?_
 refine Pt rfl (Cr ?_)
 obtain rfl := si h
 exact prF (.inl rfl) (aS (.d (.bool false)) rfl (aJ)) ⟨rfl, (hH.sl 2 [0])⟩
 refine Z ?_
 refine fw [.pt be0 0, .d (.lst (s_.During.map ac.enc))] h rfl rfl HB rfl (fun y hy => pn _ _ y hy be0 _ _ (.box b1 (ah.av s_) :: L) hH) (fun t62 rs H' n' h hP => ?_)
 obtain ⟨rfl, hH⟩ := hP
 refine bA (b := (!t62)) h rfl (kC rfl rfl) rfl (fun _ => ⟨rfl, rfl⟩) ?_ ?_ <;> intro _ h
 refine Z ?_
 refine Pt rfl (Cr ?_)
 obtain rfl := si h
 exact prF (.inl rfl) (aS (.d (.bool false)) rfl (aJ)) ⟨rfl, (hH.sl 2 [0])⟩
 refine Z ?_
 refine fw [.pt be0 0, .d (.lst (s_.Leave.map ac.enc))] h rfl rfl HB rfl (fun y hy => pn _ _ y hy be0 _ _ (.box b1 (ah.av s_) :: L) hH) (fun t69 rs H' n' h hP => ?_)
 obtain ⟨rfl, hH⟩ := hP
 refine bA (b := (!t69)) h rfl (kC rfl rfl) rfl (fun _ => ⟨rfl, rfl⟩) ?_ ?_ <;> intro _ h
 refine Z ?_
 refine Pt rfl (Cr ?_)
 obtain rfl := si h
 exact prF (.inl rfl) (aS (.d (.bool false)) rfl (aJ)) ⟨rfl, (hH.sl 2 [0])⟩
 refine Z ?_
 exact J fun g => yp _ _ _ _ _ _ h _ _ g _ _ (hH.sl 2 [0])
theorem AA (tF : ab) (NameF : ByteArray) (t96F : List aE) (t97F : Int) (st : un) (r : aW × Int) (h : eT tF NameF t96F t97F st = some r) : tW tF NameF t96F t97F st r := by
 refine eT.partial_correctness tF NameF t96F t97F (tW tF NameF t96F t97F) (fun c_Back_L4_run' ih_ st r h => ?_) st r h
 cases st with
 | c0 Name1 Decls t98 =>
  intro b0 b1 b2 w3 g H n hH
  refine Po rfl ?_
  refine Z ?_
  refine Wc h rfl rfl ?_ ?_ <;> intro _ h
  refine Z ?_
  refine aA h rfl ej.1 df.1 (fun _ => rfl) rfl rfl (fun t100 h => ?_)
  refine aR (d := (aE.enc t100)) rfl df.1 rfl rfl ?_
  refine aQ rfl uP hH (fun b13983 H' n' hH => ?_)
  refine ax (new := (aE.av t100)) rfl df.1 hH (i := 0) rfl rfl rfl rfl rfl (Nat.le_of_ble_eq_true rfl) (fun H' hH => ?_)
  refine Z ?_
  refine iu (cs := [.d (.int .i32 (IntKind.i32.wrap t100.Delay)), .d (.int .i32 (IntKind.i32.wrap t100.Hold)), .d (.int .i32 0)]) rfl pY tr tu.1 rfl (cr (cs := [.d (.int .i64 4), .d (.int .i64 0), .d (.int .i64 0), .d (.str t100.Name), .d (.str ⟨#[]⟩), .d (.int .i64 0), .d (.int .i32 (IntKind.i32.wrap t100.Delay)), .d (.int .i32 (IntKind.i32.wrap t100.Hold)), .d (.int .i32 0), .nil, .nil, .nil, .nil, .nil, .nil]) rfl cO eo rfl ?_)
  refine aQ rfl cO hH (fun b13984 H' n' hH => ?_)
  refine ax (new := [.d (.int .i64 4), .d (.int .i64 0), .d (.int .i64 0), .d (.str t100.Name), .d (.str ⟨#[]⟩), .d (.int .i64 0), .d (.int .i32 (IntKind.i32.wrap t100.Delay)), .d (.int .i32 (IntKind.i32.wrap t100.Hold)), .d (.int .i32 0), .nil, .nil, .nil, .nil, .nil, .nil]) rfl dC.1 hH (i := 0) rfl rfl rfl rfl rfl (Nat.le_of_ble_eq_true rfl) (fun H' hH => ?_)
  refine Z ?_
  refine bA (b := t100.Latch) h rfl (dR lQ.1 hH (i := 1) rfl rfl rfl) rfl (fun _ => ⟨rfl, rfl⟩) ?_ ?_ <;> intro _ h
  refine Z ?_
  refine iO rfl bZ.1 hH (i := 0) rfl rfl rfl rfl rfl (Nat.le_of_ble_eq_true rfl) (fun H' hH => ?_)
  refine Zs ?_
  exact J fun g => ih_ (.c1 _ _ _ _ _ _ _ _ _ _ _ _) _ h b0 b1 b2 w3 b13984 g _ _ (hH.sl 6 [2, 3, 4, 5, 0])
  iterate 3 refine Zs ?_
  exact J fun g => ih_ (.c1 _ _ _ _ _ _ _ _ _ _ _ _) _ h b0 b1 b2 w3 b13984 g _ _ (hH.sl 6 [2, 3, 4, 5, 0])
  refine Z ?_
  exact J fun g => FL _ _ _ _ _ _ _ _ h b0 b1 b2 w3 g _ _ hH
 | c1 Name1 Decls Kind At_Line At_Col Name2 With Sort_ N_e0 N_e1 N_e2 t98 =>
  intro b0 b1 b2 w3 b4 g H n hH
  refine Z ?_
  refine aF (v := .agg [.d (.int .i64 Kind), .d (.int .i64 At_Line), .d (.int .i64 At_Col), .d (.str Name2), .d (.str With), .d (.int .i64 Sort_), .d (.int .i32 N_e0), .d (.int .i32 N_e1), .d (.int .i32 N_e2), .nil, .nil, .nil, .nil, .nil, .nil]) rfl dC.1 hH (i := 4) rfl rfl rfl ?_
  refine fw [.agg [.d (.int .i64 Kind), .d (.int .i64 At_Line), .d (.int .i64 At_Col), .d (.str Name2), .d (.str With), .d (.int .i64 Sort_), .d (.int .i32 N_e0), .d (.int .i32 N_e1), .d (.int .i32 N_e2), .nil, .nil, .nil, .nil, .nil, .nil], .pt b2 0] h rfl rfl tt rfl (fun y hy => gk _ _ _ _ _ _ _ _ _ _ _ _ _ _ _ _ y hy .nil .nil .nil .nil .nil b2 w3 _ _ ([.box b0 (ab.av tF), .box b1 [.d (.str NameF), .nil], .box b4 [.d (.int .i64 Kind), .d (.int .i64 At_Line), .d (.int .i64 At_Col), .d (.str Name2), .d (.str With), .d (.int .i64 Sort_), .d (.int .i32 N_e0), .d (.int .i32 N_e1), .d (.int .i32 N_e2), .nil, .nil, .nil, .nil, .nil, .nil]]) ((((((hH.addNil (z := ⟨9, 1⟩)).addNil (z := ⟨105, 6⟩)).addNil (z := ⟨105, 6⟩)).addNil (z := ⟨105, 6⟩)).addNil (z := ⟨118, 4⟩)).sl 10 [4, 3, 2, 1, 0, 7, 8, 5, 6, 9])) (fun t117 rs H' n' h hP => ?_)
  obtain ⟨w12985_1, rfl, hH⟩ := hP
  refine Z ?_
  exact J fun g => ih_ (.c0 _ _ _) _ h b0 b1 b2 w12985_1 g _ _ (hH.sl 5 [2, 3, 0, 1])
theorem Bq (w i r) (h : fC w i = some r) : uE w i r := by
 refine fC.partial_correctness w (fun i r => uE w i r) (fun fC ih_fC i r h g H n => ?_) i r h
 refine Po rfl ?_
 refine Z ?_
 refine Wc h rfl rfl ?_ ?_ <;> intro _ h
 refine Z ?_
 refine zj h rfl II bM.1 Nh rfl rfl LG (fun t12 h _ _ => ?_)
 refine Z ?_
 refine Wc h rfl rfl ?_ ?_ <;> intro _ h
 refine Z ?_
 cases h; exact Pq rfl rfl
 refine Z ?_
 exact J fun g => ih_fC _ _ h g _ _
 refine Z ?_
 exact J fun g => Bp _ _ _ h g _ _
theorem nK (t l r) (h : eO t l = some r) : aL C 52 [(ab.enc t), (.lst (l.map ac.enc))] = some [(.bool r)] := by
 refine aB (bu _ _ rfl) PT rfl (jmp 0 (.d (ab.enc t)) rfl (jmp 1 (.d (.lst (l.map ac.enc))) rfl ?_))
 refine Z ?_
 refine cu (cs := (ab.av t)) rfl bJ.1 rfl rfl rfl (HP.nil _ _) (fun b14127 H' n' hH => ?_)
 refine Z ?_
 exact J fun g => xu _ _ _ _ _ h b14127 .nil g _ _ ((hH.addNil (z := ⟨4, 1⟩)).sl 2 [1, 0])
theorem DR (t Name Name1 Decls i r) (h : fJ t Name Name1 Decls i = some r) : yC t Name Name1 Decls i r := by
 refine fJ.partial_correctness t Name Name1 (fun Decls i r => yC t Name Name1 Decls i r) (fun fJ ih_fJ Decls i r h b0 b1 b2 w3 g H n hH => ?_) Decls i r h
 refine Po rfl ?_
 refine Z ?_
 refine Wc h rfl rfl ?_ ?_ <;> intro _ h
 refine Z ?_
 refine ct (pz := [(1, 3), (1, 5), (1, 6), (1, 8)]) rfl rfl (by kernel_rfl) (by kernel_rfl) ?_
 refine Z ?_
 refine bQ (fv := fun v => .d (.ptr (Dat.str v).cells)) (az) h rfl (bR bv.1 bM.1 (fun _ => rfl) rfl rfl) ⟨rfl, rfl⟩ (fun t182 h => ?_)
 refine Z ?_
 refine bi (v := .agg [.d (.int .i64 6), .d (.int .i64 0), .d (.int .i64 0), .d (.str t182), .d (.str ⟨#[]⟩), .d (.int .i64 0), .d (.int .i32 0), .d (.int .i32 0), .d (.int .i32 0), .nil, .nil, .nil, .nil, .nil, .nil]) (az) rfl (cy cO eo rfl) ⟨rfl, rfl⟩ ?_
 refine jK (enc := aV.enc) (e := (⟨6, (⟨0, 0⟩ : bd), t182, ⟨#[]⟩, 0, (⟨0, 0, 0⟩ : (A3 Int)), [], (⟨[], [], [], [], []⟩ : bn)⟩ : aV)) (.agg [.d (.int .i64 6), .d (.int .i64 0), .d (.int .i64 0), .d (.str t182), .d (.str ⟨#[]⟩), .d (.int .i64 0), .d (.int .i32 0), .d (.int .i32 0), .d (.int .i32 0), .nil, .nil, .nil, .nil, .nil, .nil]) rfl eZ.1 dC.1 cO (by decide) vO (fun _ => rfl) (fun _ => rfl) rfl (FS.agg (FS.d (FS.d (FS.d (FS.d (FS.d (FS.d (FS.d (FS.d (FS.d (FS.nl (FS.nl (FS.nl (FS.nl (FS.nl (FS.nl (FS.nil hH)))))))))))))))) (fun _ hH => FS.nil hH)) rfl (fun w14345 i13345 H' n13345 hH hoff13345 hn13345 hi13345 => ?_)
 have hof13345_0 := hoff13345.box (k := 0) rfl
 have hof13345_1 := hoff13345.box (k := 1) rfl
 have hof13345_2 := hoff13345.box (k := 2) rfl
 have hof13345_3 := hoff13345.own (k := 3) rfl
 have hof13345 := hoff13345.2
 clear hoff13345
 refine cG (enc := aV.enc) (w14345) h rfl eZ.1 dC.1 lr (by decide) (fun _ => rfl) hH (j := 4) rfl rfl rfl (aM hH (j := 0) rfl) (fun t186 w14346 i13346 H' n13346 h hH hoff13346 hn13346 hi13346 => ?_)
 have hof13346_0 := hoff13346.own (k := 0) rfl
 have hof13346_1 := hoff13346.box (k := 1) rfl
 have hof13346_2 := hoff13346.box (k := 2) rfl
 have hof13346_3 := hoff13346.box (k := 3) rfl
 have hof13346 := hoff13346.2
 clear hoff13346
 refine Z ?_
 refine bX (new := [w14346]) [.d (.str Name1), w14346] rfl rk.1 hH (i := 4) rfl rfl (hH.okOwn (j := 0) rfl).2 rfl (by simp only [List.all_cons, List.all_nil, (hH.okOwn (j := 0) rfl).1]; rfl) (Nat.le_of_ble_eq_true rfl) rfl (fun H' hH => ?_)
 refine xn (pk rfl rfl aG (pk rfl rfl aY (pk rfl rfl aY (pk rfl rfl nco (pkn))))) ?_
 refine Z ?_
 exact J fun g => ih_fJ _ _ _ h b0 b1 b2 w14346 g _ _ (hH.sl 5 [2, 3, 4, 0])
 refine Z ?_
 exact J fun g => DQ _ _ _ _ _ _ h b0 b1 b2 w3 g _ _ hH
theorem zy (tF : ab) (t10F : List ByteArray) (t11F : Int) (st : sC) (r : Bool) (h : ed tF t10F t11F st = some r) : rZ tF t10F t11F st r := by
 refine ed.partial_correctness tF t10F t11F (rZ tF t10F t11F) (fun c_named_L1_run' ih_ st r h => ?_) st r h
 cases st with
 | c0 seen t12 =>
  intro m1 w2 be0 L g H n hH
  refine Po rfl ?_
  refine Z ?_
  refine Wc h rfl rfl ?_ ?_ <;> intro _ h
  refine Z ?_
  refine bO h rfl bv.1 bM.1 hH (j := 2) rfl rfl rfl (fun i12677 t15 h hl12677 hv12677 => ?_)
  refine cD rfl bM.1 hH (j := 2) rfl hl12677 rfl hv12677 rfl ?_
  refine Z ?_
  refine L5 (eK := Dat.str) (eV := (Dat.int .i64)) (zv := (0 : Int)) rfl Fz CW (GP ty9) QX hH (j := 1) rfl rfl rfl ?_
  refine Z ?_
  refine bA (b := (pj seen t15).isSome) h rfl (fN rfl rfl) rfl (fun _ => ⟨rfl, rfl⟩) ?_ ?_ <;> intro _ h
  refine Zs ?_
  exact J fun g => ih_ (.c1 _ _ _ _ _) _ h m1 w2 _ _ g _ _ hH
  refine Zs ?_
  exact J fun g => ih_ (.c1 _ _ _ _ _) _ h m1 w2 _ _ g _ _ hH
  refine Z ?_
  refine al h rfl Ko (sc rfl (sn)) (fun y hy => wg _ y hy) (fun _ => rfl) (fun t37 h => ?_)
  refine Wb rfl rfl ?_
  refine Z ?_
  refine Pt rfl (Cr ?_)
  obtain rfl := si h
  exact prF (.inl rfl) (aS (.d (.bool (decide (t37 = 1)))) rfl (aJ)) ⟨rfl, (hH.sl 3 [0])⟩
 | c1 seen i s_ twice t12 =>
  intro m1 w2 be0 L g H n hH
  refine Z ?_
  revert h; cases twice <;> intro h
  replace h := if0 h
  refine Z ?_
  refine al h rfl Ko (sc rfl (sn)) (fun y hy => wg _ y hy) (fun _ => rfl) (fun t26 h => ?_)
  refine Wd h rfl rfl ?_ ?_ <;> intro _ h
  refine Z ?_
  refine Mc (eK := Dat.str) (eV := (Dat.int .i64)) (w := i) (.d (.int .i64 i)) rfl Fz CW (GP ty9) rfl (FS.d (FS.nil hH)) (j := 1) rfl rfl rfl (fun H' hH => ?_)
  refine Z ?_
  exact J fun g => ih_ (.c0 _ _) _ h m1 w2 _ _ g _ _ hH
  refine Z ?_
  refine Pt rfl (Cr ?_)
  obtain rfl := si h
  exact prF (.inl rfl) (aS (.d (.bool false)) rfl (aJ)) ⟨rfl, (hH.sl 3 [0])⟩
  replace h := if1 h
  refine Z ?_
  refine Pt rfl (Cr ?_)
  obtain rfl := si h
  exact prF (.inl rfl) (aS (.d (.bool false)) rfl (aJ)) ⟨rfl, (hH.sl 3 [0])⟩
theorem pU (t i s_ r) (h : jf t i s_ = some r) (b1 be0 L g H n) (hH : HP H n (.box be0 (ab.av t) :: .box b1 (ah.av s_) :: L)) : PAt C (aj Tryz.f33) (.b (.b (.b .o))) ⟨upd (upd (upd g 0 (.pt be0 0)) 1 (.d (.int .i64 i))) 5 (.pt b1 0), H, n⟩ (cb C Tryz.f33 (fun rs H' n' => rs = [.d (.bool r)] ∧ HP H' n' (.box be0 (ab.av t) :: L))) := by
 refine Z ?_
 refine Wc h rfl rfl ?_ ?_ <;> intro _ h
 refine Z ?_
 refine Et h rfl rfl rfl (fun t50 h => ?_)
 refine Wd h rfl rfl ?_ ?_ <;> intro _ h
 iterate 3 refine Zs ?_
 exact J fun g => pT _ _ _ _ h b1 _ _ g _ _ hH
 refine Z ?_
 refine Pt rfl (Cr ?_)
 obtain rfl := si h
 exact prF (.inl rfl) (aS (.d (.bool false)) rfl (aJ)) ⟨rfl, (hH.sl 2 [0])⟩
 iterate 3 refine Zs ?_
 exact J fun g => pT _ _ _ _ h b1 _ _ g _ _ hH
theorem EN (tF NameF Name1 Decls t96F t97F t98 r) (h : ia tF NameF Name1 Decls t96F t97F t98 = some r) : tW tF NameF t96F t97F (.c0 Name1 Decls t98) r := AA tF NameF t96F t97F (.c0 Name1 Decls t98) r h
theorem EP (w r) (h : jL w = some r) : aL C 51 [(.str w)] = some [(.int .i64 r)] := by
 refine aB (bu _ _ rfl) PS rfl (jmp 0 (.d (.str w)) rfl ?_)
 refine Z ?_
 exact J fun g => Bq _ _ _ h g _ _
theorem wP (tF : ab) (st : pE) (r : Bool) (h : bG tF st = some r) : oY tF st r := by
 refine bG.partial_correctness tF (oY tF) (fun r5_stages_L1_run' ih_ st r h => ?_) st r h
 cases st with
 | c0 stmts nexts total i =>
  intro b0 g H n hH
  refine Po rfl ?_
  refine Z ?_
  refine Wc h rfl rfl ?_ ?_ <;> intro _ h
  refine Z ?_
  refine aA h rfl dr.1 bK.1 (fun _ => rfl) rfl rfl (fun t21 h => ?_)
  refine aR (d := (ah.enc t21)) rfl bK.1 rfl rfl ?_
  refine aQ rfl kf hH (fun b14139 H' n' hH => ?_)
  refine ax (new := (ah.av t21)) rfl bK.1 hH (i := 0) rfl rfl rfl rfl rfl (Nat.le_of_ble_eq_true rfl) (fun H' hH => ?_)
  refine Z ?_
  refine cB rfl (by kernel_rfl) ?_
  refine Z ?_
  refine al h rfl pI (sc rfl (sc rfl (sc rfl (sn)))) (fun y hy => eE _ _ _ y hy) (fun _ => rfl) (fun t25 h => ?_)
  revert h; cases t25 <;> intro h
  replace h := if0 h
  refine ba rfl rfl rfl ?_
  refine Z ?_
  cases h; exact Pq rfl rfl
  replace h := if1 h
  refine ba rfl rfl rfl ?_
  refine Z ?_
  refine Wc h rfl rfl ?_ ?_ <;> intro _ h
  refine Z ?_
  refine aA h rfl dr.1 bK.1 (fun _ => rfl) rfl rfl (fun t37 h => ?_)
  refine Z ?_
  refine Wc h rfl rfl ?_ ?_ <;> intro _ h
  refine Z ?_
  cases h; exact Pq rfl rfl
  iterate 3 refine Zs ?_
  exact J fun g => ih_ (.c1 _ _ _ _ _) _ h b0 b14139 g _ _ (hH.sl 2 [1, 0])
  iterate 3 refine Zs ?_
  exact J fun g => ih_ (.c1 _ _ _ _ _) _ h b0 b14139 g _ _ (hH.sl 2 [1, 0])
  refine Z ?_
  refine Wc h rfl rfl ?_ ?_ <;> intro _ h
  refine Z ?_
  refine Wc h rfl rfl ?_ ?_ <;> intro _ h
  refine Z ?_
  refine Wb rfl rfl ?_
  refine Z ?_
  cases h; exact Pq rfl rfl
  refine Z ?_
  cases h; exact Pq rfl rfl
  refine Z ?_
  cases h; exact Pq rfl rfl
 | c1 stmts nexts total i s_ =>
  intro b0 b1 g H n hH
  refine Z ?_
  refine Wc h rfl rfl ?_ ?_ <;> intro _ h
  refine Z ?_
  refine Et h rfl rfl rfl (fun t53 h => ?_)
  refine Wd h rfl rfl ?_ ?_ <;> intro _ h
  iterate 3 refine Zs ?_
  exact J fun g => ih_ (.c2 _ _ _ _ _) _ h b0 b1 g _ _ hH
  refine Z ?_
  cases h; exact Pq rfl rfl
  iterate 3 refine Zs ?_
  exact J fun g => ih_ (.c2 _ _ _ _ _) _ h b0 b1 g _ _ hH
 | c2 stmts nexts total i s_ =>
  intro b0 b1 g H n hH
  refine Z ?_
  refine aF (v := .agg (ab.av tF)) rfl bJ.1 hH (i := 0) rfl rfl rfl ?_
  refine Z ?_
  refine al h rfl HD (sc rfl (sc rfl (sn))) (fun y hy => nK _ _ y hy) (fun _ => rfl) (fun t59 h => ?_)
  revert h; cases t59 <;> intro h
  replace h := if0 h
  refine ba rfl rfl rfl ?_
  refine Z ?_
  cases h; exact Pq rfl rfl
  replace h := if1 h
  refine ba rfl rfl rfl ?_
  refine Z ?_
  refine aF (v := .agg (ab.av tF)) rfl bJ.1 hH (i := 0) rfl rfl rfl ?_
  refine Z ?_
  refine al h rfl HD (sc rfl (sc rfl (sn))) (fun y hy => nK _ _ y hy) (fun _ => rfl) (fun t65 h => ?_)
  revert h; cases t65 <;> intro h
  replace h := if0 h
  refine ba rfl rfl rfl ?_
  refine Z ?_
  cases h; exact Pq rfl rfl
  replace h := if1 h
  refine ba rfl rfl rfl ?_
  refine Z ?_
  refine aF (v := .agg (ab.av tF)) rfl bJ.1 hH (i := 0) rfl rfl rfl ?_
  refine Z ?_
  refine al h rfl HD (sc rfl (sc rfl (sn))) (fun y hy => nK _ _ y hy) (fun _ => rfl) (fun t72 h => ?_)
  revert h; cases t72 <;> intro h
  replace h := if0 h
  refine ba rfl rfl rfl ?_
  refine Z ?_
  cases h; exact Pq rfl rfl
  replace h := if1 h
  refine ba rfl rfl rfl ?_
  refine Z ?_
  refine cB rfl (by kernel_rfl) ?_
  refine Z ?_
  refine al h rfl HE (sc rfl (sn)) (fun y hy => tT _ y hy) (fun _ => rfl) (fun t91 h => ?_)
  refine Z ?_
  refine al h rfl HE (sc rfl (sn)) (fun y hy => tT _ y hy) (fun _ => rfl) (fun t95 h => ?_)
  refine Z ?_
  refine al h rfl HE (sc rfl (sn)) (fun y hy => tT _ y hy) (fun _ => rfl) (fun t99 h => ?_)
  refine Z ?_
  exact J fun g => ih_ (.c3 _ _ _ _ _ _) _ h b0 b1 g _ _ hH
 | c3 stmts nexts total i s_ j =>
  intro b0 b1 g H n hH
  refine Po rfl ?_
  refine Z ?_
  refine Wc h rfl rfl ?_ ?_ <;> intro _ h
  refine Z ?_
  refine aA h rfl ek.1 cZ.1 (fun _ => rfl) rfl rfl (fun t116 h => ?_)
  refine aR (d := (aw.enc t116)) rfl cZ.1 rfl rfl ?_
  refine aQ rfl mi hH (fun b14140 H' n' hH => ?_)
  refine ax (new := (aw.av t116)) rfl cZ.1 hH (i := 0) rfl rfl rfl rfl rfl (Nat.le_of_ble_eq_true rfl) (fun H' hH => ?_)
  refine Z ?_
  refine Wc h rfl rfl ?_ ?_ <;> intro _ h
  refine Z ?_
  cases h; exact Pq rfl rfl
  refine Z ?_
  refine Wc h rfl rfl ?_ ?_ <;> intro _ h
  refine Z ?_
  cases h; exact Pq rfl rfl
  refine Z ?_
  refine Wc h rfl rfl ?_ ?_ <;> intro _ h
  refine Z ?_
  cases h; exact Pq rfl rfl
  refine Z ?_
  refine aF (v := .agg (ab.av tF)) rfl bJ.1 hH (i := 1) rfl rfl rfl ?_
  refine Z ?_
  refine al h rfl HF (sc rfl (sc rfl (sc rfl (sn)))) (fun y hy => oa _ _ _ y hy) (fun _ => rfl) (fun t139 h => ?_)
  revert h; cases t139 <;> intro h
  replace h := if0 h
  refine ba rfl rfl rfl ?_
  refine Z ?_
  cases h; exact Pq rfl rfl
  replace h := if1 h
  refine ba rfl rfl rfl ?_
  refine Z ?_
  exact J fun g => ih_ (.c3 _ _ _ _ _ _) _ h b0 b1 g _ _ (hH.sl 3 [1, 2])
  refine Z ?_
  exact J fun g => ih_ (.c0 _ _ _ _) _ h b0 g _ _ (hH.sl 2 [0])
end Go.Proofs.YtkmbagocakiefaaGreatDoor.Wb
