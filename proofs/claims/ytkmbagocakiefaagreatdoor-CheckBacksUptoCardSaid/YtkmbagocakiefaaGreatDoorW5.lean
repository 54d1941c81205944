/- The abstract machine computes these functions. Printed by decomp.py. -/
import Derived.Test.YtkmbagocakiefaaGreatDoorD2
import Derived.Test.YtkmbagocakiefaaGreatDoorW1
import Derived.Test.YtkmbagocakiefaaGreatDoorW2
import Derived.Test.YtkmbagocakiefaaGreatDoorW3
import Derived.Test.YtkmbagocakiefaaGreatDoorW4
namespace Go.Proofs.YtkmbagocakiefaaGreatDoor.Wb
open Go Go.Jv
set_option maxHeartbeats 4000000
open Go.Proofs
set_option maxHeartbeats 4000000
attribute [local irreducible] EW EX PAt con
theorem G0 (text r) (h : su text = some r) : aL C 55 [(.str text)] = some [(.int .i64 r)] := by
 refine aB (bu _ _ rfl) PW rfl (jmp 0 (.d (.str text)) rfl ?_)
 refine Z ?_
 refine FC rfl LN.1 Nj rfl ?_
 refine Z ?_
 exact J fun g => CU _ _ _ h g _ _
theorem H4 (s_ r) (h : De s_ = some r) : aL C 57 [(.str s_)] = some [(.int .i64 r)] := by
 refine aB (bu _ _ rfl) PY rfl (jmp 0 (.d (.str s_)) rfl ?_)
 refine Z ?_
 exact J fun g => E0 _ _ _ h g _ _
theorem qw (s_ base under r) (h : lz s_ base under = some r) : aL C 71 [(.str s_), (.int .i64 base), (.bool under)] = some [(.int .i64 r.1), (.bool r.2)] := by
 refine aB (bu _ _ rfl) Qc rfl (jmp 0 (.d (.str s_)) rfl (jmp 1 (.d (.int .i64 base)) rfl (jmp 2 (.d (.bool under)) rfl ?_)))
 refine Z ?_
 exact J fun g => AI _ _ _ _ _ _ h g _ _
theorem Ie (s_ sep r) (h : FP s_ sep = some r) : aL C 96 [(.str s_), (.str sep)] = some [(.str r.1), (.str r.2.1), (.bool r.2.2)] := by
 refine aB (bu _ _ rfl) QB rfl (jmp 0 (.d (.str s_)) rfl (jmp 1 (.d (.str sep)) rfl ?_))
 refine Z ?_
 refine al h rfl Od (sc rfl (sc rfl (sn))) (fun y hy => FW _ _ y hy) (fun _ => rfl) (fun t10 h => ?_)
 refine Z ?_
 refine Wc h rfl rfl ?_ ?_ <;> intro _ h
 refine Z ?_
 refine cB rfl (by kernel_rfl) ?_
 refine Z ?_
 refine uR h rfl ty9 rfl (iD) (fun t15 h => ?_)
 refine Z ?_
 refine du rfl (dsc ty9) rfl ?_
 refine Z ?_
 refine uR h rfl ty9 rfl (Eu) (fun t21 h => ?_)
 refine Z ?_
 cases h; exact Pq rfl rfl
 refine Z ?_
 cases h; exact Pq rfl rfl
theorem DO (s_F n_ t16F t17 r) (h : lB s_F n_ t16F t17 = some r) : sa s_F t16F (.c0 n_ t17) r := zu s_F t16F (.c0 n_ t17) r h
theorem xj (e i r) (h : qn e i = some r) : aL C 60 [(.lst (e.map ae.enc)), (.int .i64 i)] = some [(.int .i64 r)] := by
 refine aB (bu _ _ rfl) Q1 rfl (jmp 0 (.d (.lst (e.map ae.enc))) rfl (jmp 1 (.d (.int .i64 i)) rfl ?_))
 refine Z ?_
 refine Wc h rfl rfl ?_ ?_ <;> intro _ h
 refine Z ?_
 cases h; exact Pq rfl rfl
 refine Z ?_
 refine Wc h rfl rfl ?_ ?_ <;> intro _ h
 refine Z ?_
 cases h; exact Pq rfl rfl
 refine Z ?_
 exact J fun g => B5 _ _ _ _ h g _ _
theorem EF (op r) (h : lc op = some r) : aL C 75 [(.int .i64 op)] = some [((A2.enc (Dat.int .i64)) r)] := by
 refine aB (bu _ _ rfl) Qg rfl (jmp 0 (.d (.int .i64 op)) rfl ?_)
 refine Z ?_
 refine aQ rfl rC (HP.nil _ _) (fun b13685 H' n' hH => ?_)
 refine Z ?_
 refine Wc h rfl rfl ?_ ?_ <;> intro _ h
 iterate 2 refine Zs ?_
 exact J fun g => sU _ _ _ h b13685 g _ _ hH
 refine Z ?_
 refine Wc h rfl rfl ?_ ?_ <;> intro _ h
 iterate 2 refine Zs ?_
 exact J fun g => sU _ _ _ h b13685 g _ _ hH
 refine Z ?_
 refine Wc h rfl rfl ?_ ?_ <;> intro _ h
 refine Z ?_
 refine Wc h rfl rfl ?_ ?_ <;> intro _ h
 refine Z ?_
 refine iu (cs := [.d (.int .i64 5), .d (.int .i64 5)]) rfl rC xW bZ.1 rfl ?_
 refine ax (new := [.d (.int .i64 5), .d (.int .i64 5)]) rfl nU.1 hH (i := 0) rfl rfl rfl rfl rfl (Nat.le_of_ble_eq_true rfl) (fun H' hH => ?_)
 refine Z ?_
 refine Pt rfl (Cr ?_)
 obtain rfl := si h
 exact pdF (.inl rfl) (iI (.agg [.d (.int .i64 5), .d (.int .i64 5)]) nU.1 hH (i := 0) rfl rfl rfl (aJ)) (FS.agg (FS.d (FS.d (FS.nil hH))) (fun _ hH => FS.nil hH))
 iterate 2 refine Zs ?_
 exact J fun g => sV _ _ _ h b13685 g _ _ hH
 iterate 2 refine Zs ?_
 exact J fun g => sV _ _ _ h b13685 g _ _ hH
theorem G1 (stack op r) (h : pu stack op = some r) (we0 H n L) (hH : HP H n (gw we0 stack :: L)) : Raw C 63 [we0, .d (.int .i64 op)] H n (fun rs H' n' => ∃ (w'0 : AV), rs = [w'0, .d (.bool r.2)] ∧ HP H' n' (gw w'0 r.1 :: L)) := by
 refine fa Q4 rfl (jmp 0 (we0) rfl (jmp 1 (.d (.int .i64 op)) rfl ?_))
 refine Z ?_
 refine Wc h rfl rfl ?_ ?_ <;> intro _ h
 refine Z ?_
 refine bO h rfl cp.1 bZ.1 hH (j := 0) rfl rfl rfl (fun i12716 t17 h hl12716 hv12716 => ?_)
 refine cD rfl bZ.1 hH (j := 0) rfl hl12716 rfl hv12716 rfl ?_
 refine Zs ?_
 exact J fun g => uq _ _ _ _ _ _ h we0 _ g _ _ hH
 refine Z ?_
 refine cB rfl (by kernel_rfl) ?_
 refine Z ?_
 refine bO h rfl cp.1 bZ.1 hH (j := 0) rfl rfl rfl (fun i12717 t24 h hl12717 hv12717 => ?_)
 refine cD rfl bZ.1 hH (j := 0) rfl hl12717 rfl hv12717 rfl ?_
 refine Z ?_
 refine bO h rfl cp.1 bZ.1 hH (j := 0) rfl rfl rfl (fun i12718 t29 h hl12718 hv12718 => ?_)
 refine cD rfl bZ.1 hH (j := 0) rfl hl12718 rfl hv12718 rfl ?_
 refine Zs ?_
 exact J fun g => uq _ _ _ _ _ _ h we0 _ g _ _ hH
theorem Bg (e r) (h : rF e = some r) : aL C 34 [(.lst (e.map ae.enc))] = some [(.bool r)] := by
 refine aB (bu _ _ rfl) PA rfl (jmp 0 (.d (.lst (e.map ae.enc))) rfl ?_)
 refine Z ?_
 exact J fun g => DM _ _ _ _ h g _ _
theorem wc (t e r) (h : om t e = some r) (be0 H n L) (hH : HP H n (.box be0 (ab.av t) :: L)) : Raw C 36 [.pt be0 0, .d (.lst (e.map ae.enc))] H n (fun rs H' n' => ∃ (w'0 : AV), rs = [w'0] ∧ HP H' n' (iV w'0 r :: .box be0 (ab.av t) :: L)) := by
 refine fa PC rfl (jmp 0 (.pt be0 0) rfl (jmp 1 (.d (.lst (e.map ae.enc))) rfl ?_))
 refine Z ?_
 exact J fun g => Am _ _ _ _ _ _ h .nil _ _ g _ _ ((hH.addNil (z := ⟨107, 5⟩)).sl 2 [1, 0])
theorem DP (t n_ i r) (h : jg t n_ i = some r) : xM t n_ i r := by
 refine jg.partial_correctness t n_ (fun i r => xM t n_ i r) (fun jg ih_jg i r h b0 g H n hH => ?_) i r h
 refine Po rfl ?_
 refine Z ?_
 refine Wc h rfl rfl ?_ ?_ <;> intro _ h
 refine Z ?_
 refine aA h rfl dj.1 cq.1 (fun _ => rfl) rfl rfl (fun t22 h => ?_)
 refine aR (d := (ak.enc t22)) rfl cq.1 rfl rfl ?_
 refine aQ rfl pZ hH (fun b14002 H' n' hH => ?_)
 refine ax (new := (ak.av t22)) rfl cq.1 hH (i := 0) rfl rfl rfl rfl rfl (Nat.le_of_ble_eq_true rfl) (fun H' hH => ?_)
 refine Z ?_
 refine al h rfl pI (sc rfl (sc rfl (sc rfl (sn)))) (fun y hy => eE _ _ _ y hy) (fun _ => rfl) (fun t26 h => ?_)
 revert h; cases t26 <;> intro h
 replace h := if0 h
 refine ba rfl rfl rfl ?_
 refine Z ?_
 cases h; exact Pq rfl rfl
 replace h := if1 h
 refine ba rfl rfl rfl ?_
 refine Z ?_
 refine al h rfl pI (sc rfl (sc rfl (sc rfl (sn)))) (fun y hy => eE _ _ _ y hy) (fun _ => rfl) (fun t31 h => ?_)
 revert h; cases t31 <;> intro h
 replace h := if0 h
 refine ba rfl rfl rfl ?_
 refine Z ?_
 cases h; exact Pq rfl rfl
 replace h := if1 h
 refine ba rfl rfl rfl ?_
 refine Z ?_
 refine al h rfl pI (sc rfl (sc rfl (sc rfl (sn)))) (fun y hy => eE _ _ _ y hy) (fun _ => rfl) (fun t37 h => ?_)
 revert h; cases t37 <;> intro h
 replace h := if0 h
 refine ba rfl rfl rfl ?_
 refine Z ?_
 cases h; exact Pq rfl rfl
 replace h := if1 h
 refine ba rfl rfl rfl ?_
 refine Z ?_
 refine al h rfl pI (sc rfl (sc rfl (sc rfl (sn)))) (fun y hy => eE _ _ _ y hy) (fun _ => rfl) (fun t43 h => ?_)
 revert h; cases t43 <;> intro h
 replace h := if0 h
 refine ba rfl rfl rfl ?_
 refine Z ?_
 cases h; exact Pq rfl rfl
 replace h := if1 h
 refine ba rfl rfl rfl ?_
 refine Z ?_
 exact J fun g => ih_jg _ _ h b0 g _ _ (hH.sl 2 [1])
 refine Z ?_
 exact J fun g => DN _ _ _ _ h b0 g _ _ hH
theorem EG (s_ i r) (h : tM s_ i = some r) : aL C 64 [(.str s_), (.int .i64 i)] = some [(.int .i64 r)] := by
 refine aB (bu _ _ rfl) Q5 rfl (jmp 0 (.d (.str s_)) rfl (jmp 1 (.d (.int .i64 i)) rfl ?_))
 refine Z ?_
 exact J fun g => B6 _ _ _ h g _ _
theorem Bh (wF baseF gapsF n_ i r) (h : jC wF baseF gapsF n_ i = some r) : oW wF baseF gapsF (.c0 n_ i) r := wJ wF baseF gapsF (.c0 n_ i) r h
theorem Bi (t l i r) (h : fF t l i = some r) : uH t l i r := by
 refine fF.partial_correctness t (fun l i r => uH t l i r) (fun fF ih_fF l i r h b0 w1 g H n hH => ?_) l i r h
 refine Po rfl ?_
 refine Z ?_
 refine Wc h rfl rfl ?_ ?_ <;> intro _ h
 refine Z ?_
 refine aA h rfl ej.1 df.1 (fun _ => rfl) rfl rfl (fun t37 h => ?_)
 refine Z ?_
 refine cN (enc := Dat.str) (xs := [t37.Name]) [.d (.str t37.Name)] rfl bv.1 bM.1 mz ⟨by decide, Nat.le_of_ble_eq_true rfl⟩ zd9 (fun _ => rfl) (fun _ => rfl) rfl rfl hH (fun w14037 H' n' hH => ?_)
 refine bl (enc := Dat.str) h rfl bv.1 bM.1 gV (by decide) (fun _ => rfl) hH (j := 2) rfl rfl (aM hH (j := 0) rfl) (fun t41 w14038 H' n' h hH => ?_)
 refine Z ?_
 exact J fun g => ih_fF _ _ _ h b0 w14038 g _ _ (hH.sl 3 [2, 0])
 refine Z ?_
 refine bl (enc := Dat.str) h rfl bv.1 bM.1 gV (by decide) (fun _ => rfl) hH (j := 1) rfl rfl kw (fun t45 w14039 H' n' h hH => ?_)
 refine Z ?_
 refine bl (enc := Dat.str) h rfl bv.1 bM.1 gV (by decide) (fun _ => rfl) hH (j := 0) rfl rfl kw (fun t49 w14040 H' n' h hH => ?_)
 refine Z ?_
 exact J fun g => B7 _ _ _ _ h b0 w14040 g _ _ (hH.sl 2 [1, 0])
theorem uw (op r) (h : pQ op = some r) (g H n) : PAt C (aj Tryz.f82) (.b (.b (.a (.a (.b .o))))) ⟨upd g 0 (.d (.int .i64 op)), H, n⟩ (aq C Tryz.f82 [(.int .i64 r)]) := by
 refine Z ?_
 refine Wc h rfl rfl ?_ ?_ <;> intro _ h
 refine Z ?_
 refine Wc h rfl rfl ?_ ?_ <;> intro _ h
 refine Z ?_
 cases h; exact Pq rfl rfl
 iterate 2 refine Zs ?_
 exact J fun g => ur _ _ h g _ _
 iterate 2 refine Zs ?_
 exact J fun g => ur _ _ h g _ _
theorem H5 (t n_ r) (h : rG t n_ = some r) : aL C 87 [(ab.enc t), (ae.enc n_)] = some [(.int .i64 r)] := by
 refine aB (bu _ _ rfl) Qs rfl (jmp 0 (.d (ab.enc t)) rfl (jmp 1 (.d (ae.enc n_)) rfl ?_))
 refine Z ?_
 refine cu (cs := (ab.av t)) rfl bJ.1 rfl rfl rfl (HP.nil _ _) (fun b14069 H' n' hH => ?_)
 refine cu (cs := (ae.av n_)) rfl bm.1 rfl rfl rfl hH (fun b14070 H' n' hH => ?_)
 refine Z ?_
 refine Wc h rfl rfl ?_ ?_ <;> intro _ h
 refine Z ?_
 cases h; exact Pq rfl rfl
 refine Z ?_
 refine Wc h rfl rfl ?_ ?_ <;> intro _ h
 refine Z ?_
 refine Wc h rfl rfl ?_ ?_ <;> intro _ h
 refine Z ?_
 cases h; exact Pq rfl rfl
 refine Z ?_
 refine Wc h rfl rfl ?_ ?_ <;> intro _ h
 refine Z ?_
 cases h; exact Pq rfl rfl
 refine Z ?_
 cases h; exact Pq rfl rfl
 refine Z ?_
 refine Wc h rfl rfl ?_ ?_ <;> intro _ h
 refine Z ?_
 refine Wc h rfl rfl ?_ ?_ <;> intro _ h
 refine Z ?_
 cases h; exact Pq rfl rfl
 refine Z ?_
 cases h; exact Pq rfl rfl
 refine Z ?_
 refine Wc h rfl rfl ?_ ?_ <;> intro _ h
 iterate 4 refine Zs ?_
 exact J fun g => qt _ _ _ _ h b14069 b14070 g _ _ (hH.sl 2 [1, 0])
 refine Z ?_
 refine Wc h rfl rfl ?_ ?_ <;> intro _ h
 iterate 4 refine Zs ?_
 exact J fun g => qt _ _ _ _ h b14069 b14070 g _ _ (hH.sl 2 [1, 0])
 refine Z ?_
 refine Wc h rfl rfl ?_ ?_ <;> intro _ h
 iterate 2 refine Zs ?_
 exact J fun g => qt _ _ _ _ h b14069 b14070 g _ _ (hH.sl 2 [1, 0])
 refine Z ?_
 refine Wc h rfl rfl ?_ ?_ <;> intro _ h
 iterate 4 refine Zs ?_
 exact J fun g => qu _ _ _ _ h b14069 b14070 g _ _ (hH.sl 2 [1, 0])
 refine Z ?_
 refine Wc h rfl rfl ?_ ?_ <;> intro _ h
 iterate 4 refine Zs ?_
 exact J fun g => qu _ _ _ _ h b14069 b14070 g _ _ (hH.sl 2 [1, 0])
 refine Z ?_
 refine Wc h rfl rfl ?_ ?_ <;> intro _ h
 iterate 2 refine Zs ?_
 exact J fun g => qu _ _ _ _ h b14069 b14070 g _ _ (hH.sl 2 [1, 0])
 refine Z ?_
 cases h; exact Pq rfl rfl
theorem xk (op a b r) (h : gG op a b = some r) : aL C 88 [(.int .i64 op), (.int .i64 a), (.int .i64 b)] = some [(.int .i64 r)] := by
 refine aB (bu _ _ rfl) Qt rfl (jmp 0 (.d (.int .i64 op)) rfl (jmp 1 (.d (.int .i64 a)) rfl (jmp 2 (.d (.int .i64 b)) rfl ?_)))
 refine Z ?_
 refine Wc h rfl rfl ?_ ?_ <;> intro _ h
 iterate 2 refine Zs ?_
 exact J fun g => tf _ _ h g _ _
 refine Z ?_
 refine Wc h rfl rfl ?_ ?_ <;> intro _ h
 iterate 2 refine Zs ?_
 exact J fun g => tf _ _ h g _ _
 refine Z ?_
 refine Wc h rfl rfl ?_ ?_ <;> intro _ h
 refine Z ?_
 refine Wc h rfl rfl ?_ ?_ <;> intro _ h
 refine Z ?_
 cases h; exact Pq rfl rfl
 refine Z ?_
 cases h; exact Pq rfl rfl
 refine Z ?_
 refine Wc h rfl rfl ?_ ?_ <;> intro _ h
 refine Z ?_
 refine Wc h rfl rfl ?_ ?_ <;> intro _ h
 refine Z ?_
 refine Wc h rfl rfl ?_ ?_ <;> intro _ h
 refine Z ?_
 refine Wc h rfl rfl ?_ ?_ <;> intro _ h
 refine Z ?_
 cases h; exact Pq rfl rfl
 refine Z ?_
 cases h; exact Pq rfl rfl
 refine Z ?_
 cases h; exact Pq rfl rfl
 iterate 2 refine Zs ?_
 exact J fun g => sW _ _ _ _ h g _ _
 iterate 2 refine Zs ?_
 exact J fun g => sW _ _ _ _ h g _ _
theorem A5 (e r) (h : sO e = some r) : aL C 43 [(.lst (e.map ae.enc))] = some [(.bool r)] := by
 refine aB (bu _ _ rfl) PJ rfl (jmp 0 (.d (.lst (e.map ae.enc))) rfl ?_)
 refine Z ?_
 exact J fun g => Cy _ _ _ h g _ _
theorem wd (t e r) (h : oE t e = some r) : aL C 45 [(ab.enc t), (.lst (e.map ae.enc))] = some [(.lst (r.map ae.enc))] := by
 refine aB (bu _ _ rfl) PM rfl (jmp 0 (.d (ab.enc t)) rfl (jmp 1 (.d (.lst (e.map ae.enc))) rfl ?_))
 refine Z ?_
 refine cu (cs := (ab.av t)) rfl bJ.1 rfl rfl rfl (HP.nil _ _) (fun b14158 H' n' hH => ?_)
 refine Z ?_
 exact J fun g => Ao _ _ _ _ _ h b14158 .nil g _ _ ((hH.addNil (z := ⟨107, 5⟩)).sl 2 [1, 0])
theorem xl (a b i r) (h : cS a b i = some r) : qM a b i r := by
 refine cS.partial_correctness a b (fun i r => qM a b i r) (fun cS ih_cS i r h g H n => ?_) i r h
 refine Po rfl ?_
 refine Z ?_
 refine Wc h rfl rfl ?_ ?_ <;> intro _ h
 refine Z ?_
 refine cB rfl (by kernel_rfl) ?_
 refine Z ?_
 refine aA h rfl cf.1 bj.1 (fun _ => rfl) rfl rfl (fun t19 h => ?_)
 refine Z ?_
 refine aA h rfl cf.1 bj.1 (fun _ => rfl) rfl rfl (fun t24 h => ?_)
 refine Z ?_
 refine Wd h rfl rfl ?_ ?_ <;> intro _ h
 refine Z ?_
 refine aA h rfl cf.1 bj.1 (fun _ => rfl) rfl rfl (fun t31 h => ?_)
 refine Z ?_
 refine aA h rfl cf.1 bj.1 (fun _ => rfl) rfl rfl (fun t36 h => ?_)
 refine Z ?_
 refine Wd h rfl rfl ?_ ?_ <;> intro _ h
 refine Z ?_
 refine aA h rfl cf.1 bj.1 (fun _ => rfl) rfl rfl (fun t44 h => ?_)
 refine Z ?_
 refine aA h rfl cf.1 bj.1 (fun _ => rfl) rfl rfl (fun t49 h => ?_)
 refine Z ?_
 refine Wd h rfl rfl ?_ ?_ <;> intro _ h
 refine Z ?_
 refine aA h rfl cf.1 bj.1 (fun _ => rfl) rfl rfl (fun t57 h => ?_)
 refine Z ?_
 refine aR (d := (bd.enc t57.At)) rfl tv.1 rfl rfl ?_
 refine Z ?_
 refine aA h rfl cf.1 bj.1 (fun _ => rfl) rfl rfl (fun t62 h => ?_)
 refine Z ?_
 refine aR (d := (bd.enc t62.At)) rfl tv.1 rfl rfl ?_
 refine bA (b := (!(decide (t57.At.Line = t62.At.Line) && (decide (t57.At.Col = t62.At.Col) && true)))) h rfl (kW xX BV rfl rfl rfl) rfl (fun _ => ⟨rfl, rfl⟩) ?_ ?_ <;> intro _ h
 refine Z ?_
 cases h; exact Pq rfl rfl
 refine Z ?_
 refine aA h rfl cf.1 bj.1 (fun _ => rfl) rfl rfl (fun t70 h => ?_)
 refine Z ?_
 refine aA h rfl cf.1 bj.1 (fun _ => rfl) rfl rfl (fun t75 h => ?_)
 refine Z ?_
 refine al h rfl Em (sc rfl (sc rfl (sn))) (fun y hy => kF _ _ y hy) (fun _ => rfl) (fun t78 h => ?_)
 revert h; cases t78 <;> intro h
 replace h := if0 h
 refine ba rfl rfl rfl ?_
 refine Z ?_
 cases h; exact Pq rfl rfl
 replace h := if1 h
 refine ba rfl rfl rfl ?_
 refine Z ?_
 exact J fun g => ih_cS _ _ h g _ _
 refine Z ?_
 cases h; exact Pq rfl rfl
 refine Z ?_
 cases h; exact Pq rfl rfl
 refine Z ?_
 cases h; exact Pq rfl rfl
 refine Z ?_
 cases h; exact Pq rfl rfl
theorem Au (a b r) (h : mL a b = some r) : aL C 24 [(aI.enc a), (aI.enc b)] = some [(.bool r)] := by
 refine aB (bu _ _ rfl) Pi rfl (jmp 0 (.d (aI.enc a)) rfl (jmp 1 (.d (aI.enc b)) rfl ?_))
 refine Z ?_
 refine cu (cs := (aI.av a)) rfl my.1 rfl rfl rfl (HP.nil _ _) (fun b14371 H' n' hH => ?_)
 refine cu (cs := (aI.av b)) rfl my.1 rfl rfl rfl hH (fun b14372 H' n' hH => ?_)
 refine Z ?_
 refine Wd h rfl rfl ?_ ?_ <;> intro _ h
 refine Z ?_
 refine Wd h rfl rfl ?_ ?_ <;> intro _ h
 refine Z ?_
 exact J fun g => wK _ _ _ _ h b14371 b14372 g _ _ (hH.sl 2 [1, 0])
 refine Z ?_
 cases h; exact Pq rfl rfl
 refine Z ?_
 cases h; exact Pq rfl rfl
theorem wM (nodes stmts tnexts stages groups pairs dets vars texts i r) (h : cV nodes stmts tnexts stages groups pairs dets vars texts i = some r) : qh nodes stmts tnexts stages groups pairs dets vars texts i r := by
 refine cV.partial_correctness nodes stmts tnexts stages groups pairs dets vars texts (fun i r => qh nodes stmts tnexts stages groups pairs dets vars texts i r) (fun cV ih_cV i r h w1 w2 w3 w4 w5 w6 w7 w8 w9 be0 L g H n hH => ?_) i r h
 refine Po rfl ?_
 refine Z ?_
 refine Wc h rfl rfl ?_ ?_ <;> intro _ h
 refine Z ?_
 refine bO h rfl Fl.1 BY.1 hH (j := 3) rfl rfl rfl (fun i13400 t97 h hl13400 hv13400 => ?_)
 refine cD rfl BY.1 hH (j := 3) rfl hl13400 rfl hv13400 rfl ?_
 refine Z ?_
 refine aA h rfl ek.1 cZ.1 (fun _ => rfl) rfl rfl (fun t103 h => ?_)
 refine Z ?_
 refine Wd h rfl rfl ?_ ?_ <;> intro _ h
 refine Z ?_
 refine aA h rfl ek.1 cZ.1 (fun _ => rfl) rfl rfl (fun t112 h => ?_)
 refine Z ?_
 refine Wd h rfl rfl ?_ ?_ <;> intro _ h
 refine Z ?_
 exact J fun g => ih_cV _ _ h w1 w2 w3 w4 w5 w6 w7 w8 w9 _ _ g _ _ hH
 refine Z ?_
 refine Pt rfl (Cr ?_)
 obtain rfl := si h
 exact prF (.inl rfl) (aS (.d (.bool false)) rfl (aJ)) ⟨w1, w2, w3, w4, w5, w6, w7, w8, w9, rfl, hH⟩
 refine Z ?_
 refine Pt rfl (Cr ?_)
 obtain rfl := si h
 exact prF (.inl rfl) (aS (.d (.bool false)) rfl (aJ)) ⟨w1, w2, w3, w4, w5, w6, w7, w8, w9, rfl, hH⟩
 refine Z ?_
 exact J fun g => wL _ _ _ _ _ _ _ _ _ _ _ h w1 w2 w3 w4 w5 w6 w7 w8 w9 _ _ g _ _ hH
theorem vq (nodes stmts tnexts stages groups pairs dets vars texts i r) (h : cJ nodes stmts tnexts stages groups pairs dets vars texts i = some r) : oK nodes stmts tnexts stages groups pairs dets vars texts i r := by
 refine cJ.partial_correctness nodes stmts tnexts stages groups pairs dets vars texts (fun i r => oK nodes stmts tnexts stages groups pairs dets vars texts i r) (fun cJ ih_cJ i r h w1 w2 w3 w4 w5 w6 w7 w8 w9 be0 L g H n hH => ?_) i r h
 refine Po rfl ?_
 refine Z ?_
 refine Wc h rfl rfl ?_ ?_ <;> intro _ h
 refine Z ?_
 refine bO h rfl Fp.1 Eq.1 hH (j := 7) rfl rfl rfl (fun i13417 t90 h hl13417 hv13417 => ?_)
 refine cD rfl Eq.1 hH (j := 7) rfl hl13417 rfl hv13417 rfl ?_
 refine Z ?_
 refine aA h rfl ej.1 df.1 (fun _ => rfl) rfl rfl (fun t96 h => ?_)
 refine Z ?_
 refine Wd h rfl rfl ?_ ?_ <;> intro _ h
 refine Z ?_
 refine aA h rfl ej.1 df.1 (fun _ => rfl) rfl rfl (fun t105 h => ?_)
 refine Z ?_
 refine Wd h rfl rfl ?_ ?_ <;> intro _ h
 refine Z ?_
 exact J fun g => ih_cJ _ _ h w1 w2 w3 w4 w5 w6 w7 w8 w9 _ _ g _ _ hH
 refine Z ?_
 refine Pt rfl (Cr ?_)
 obtain rfl := si h
 exact prF (.inl rfl) (aS (.d (.bool false)) rfl (aJ)) ⟨w1, w2, w3, w4, w5, w6, w7, w8, w9, rfl, hH⟩
 refine Z ?_
 refine Pt rfl (Cr ?_)
 obtain rfl := si h
 exact prF (.inl rfl) (aS (.d (.bool false)) rfl (aJ)) ⟨w1, w2, w3, w4, w5, w6, w7, w8, w9, rfl, hH⟩
 refine Z ?_
 exact J fun g => vi _ _ _ _ _ _ _ _ _ _ _ h w1 w2 w3 w4 w5 w6 w7 w8 w9 _ _ g _ _ hH
end Go.Proofs.YtkmbagocakiefaaGreatDoor.Wb
namespace Go.Proofs.YtkmbagocakiefaaGreatDoor.Wb
open Go Go.Jv
set_option maxHeartbeats 4000000
open Go.Proofs
set_option maxHeartbeats 4000000
attribute [local irreducible] EW EX PAt con
theorem sS (tF : ab) (NameF : ByteArray) (StartF : Int) (Name1F : ByteArray) (Tables_GroupsF : List ak) (Tables_ConflictsF : List ai) (DetsF : List aE) (TimersF : List ByteArray) (CountersF : List ByteArray) (VarsF : List aN) (Start1F : Int) (st : kZ) (r : ByteArray × (List ak) × (List ai) × (List aE) × (List ByteArray) × (List ByteArray) × (List aN) × (List ah) × Int × R9) (h : cA tF NameF StartF Name1F Tables_GroupsF Tables_ConflictsF DetsF TimersF CountersF VarsF Start1F st = some r) : kT tF NameF StartF Name1F Tables_GroupsF Tables_ConflictsF DetsF TimersF CountersF VarsF Start1F st r := by
 refine cA.partial_correctness tF NameF StartF Name1F Tables_GroupsF Tables_ConflictsF DetsF TimersF CountersF VarsF Start1F (kT tF NameF StartF Name1F Tables_GroupsF Tables_ConflictsF DetsF TimersF CountersF VarsF Start1F) (fun r5_Room_Typed_L1_run' ih_ st r h => ?_) st r h
 cases st with
 | c0 nodes stmts tnexts groups pairs dets vars texts full i =>
  intro w1 w2 w3 w4 w5 w6 w7 w8 b9 b10 b11 w12 w13 w14 w15 w16 w17 w18 be0 L g H n hH
  refine Po rfl ?_
  refine Z ?_
  refine Wc h rfl rfl ?_ ?_ <;> intro _ h
  refine Z ?_
  refine aA h rfl dr.1 bK.1 (fun _ => rfl) rfl rfl (fun t70 h => ?_)
  refine aR (d := (ah.enc t70)) rfl bK.1 rfl rfl ?_
  refine aQ rfl kf hH (fun b13597 H' n' hH => ?_)
  refine ax (new := (ah.av t70)) rfl bK.1 hH (i := 0) rfl rfl rfl rfl rfl (Nat.le_of_ble_eq_true rfl) (fun H' hH => ?_)
  refine Z ?_
  refine fw [.pt be0 0, .d (.lst (t70.Enter.map ac.enc))] h rfl rfl Hw rfl (fun y hy => mQ _ _ _ _ _ _ _ _ _ y hy be0 w1 w2 w3 w4 w5 w6 w7 w8 _ _ (.box b13597 (ah.av t70) :: .box b9 (ab.av tF) :: .box b10 [.d (.str NameF), .nil, .nil, .nil, .nil, .nil, .nil, .nil, .d (.int .i64 StartF)] :: .box b11 [.d (.str Name1F), w12, w13, w14, w15, w16, w17, .nil, .d (.int .i64 Start1F)] :: .imm w12 ⟨88, 5⟩ (Tables_GroupsF.map ak.enc) :: .imm w13 ⟨90, 4⟩ (Tables_ConflictsF.map ai.enc) :: .imm w14 ⟨92, 4⟩ (DetsF.map aE.enc) :: .imm w15 ⟨9, 1⟩ (TimersF.map Dat.str) :: .imm w16 ⟨9, 1⟩ (CountersF.map Dat.str) :: .imm w17 ⟨67, 2⟩ (VarsF.map aN.enc) :: zm w18 full :: L) (hH.sl 20 [1, 2, 3, 4, 5, 6, 7, 8, 9, 0, 10, 11, 12, 13, 14, 15, 16, 17, 18, 19])) (fun t75 rs H' n' h hP => ?_)
  obtain ⟨w12598_0, w12598_2, w12598_3, w12598_4, w12598_5, w12598_6, w12598_7, w12598_8, w12598_9, rfl, hH⟩ := hP
  refine Z ?_
  refine cx w12598_0 rfl kK.1 hH (i := 10) rfl rfl rfl (hH.okImm (j := 0) rfl).2 (hH.okImm (j := 0) rfl).1 (Nat.le_of_ble_eq_true rfl) (fun H' hH => ?_)
  refine Z ?_
  refine fw [.pt be0 0, .d (.lst (t70.During.map ac.enc))] h rfl rfl Hw rfl (fun y hy => mQ _ _ _ _ _ _ _ _ _ y hy be0 w12598_2 w12598_3 w12598_4 w12598_5 w12598_6 w12598_7 w12598_8 w12598_9 _ _ (.imm w12598_0 ⟨105, 6⟩ (t75.1.map ac.enc) :: .box b13597 [.d (.str t70.Name), .d (.int .i64 t70.Id), .d (.int .u64 t70.Green), w12598_0, .d (.lst (t70.During.map ac.enc)), .d (.lst (t70.Leave.map ac.enc)), .d (.lst (t70.Nexts.map aw.enc))] :: .box b9 (ab.av tF) :: .box b10 [.d (.str NameF), .nil, .nil, .nil, .nil, .nil, .nil, .nil, .d (.int .i64 StartF)] :: .box b11 [.d (.str Name1F), w12, w13, w14, w15, w16, w17, .nil, .d (.int .i64 Start1F)] :: .imm w12 ⟨88, 5⟩ (Tables_GroupsF.map ak.enc) :: .imm w13 ⟨90, 4⟩ (Tables_ConflictsF.map ai.enc) :: .imm w14 ⟨92, 4⟩ (DetsF.map aE.enc) :: .imm w15 ⟨9, 1⟩ (TimersF.map Dat.str) :: .imm w16 ⟨9, 1⟩ (CountersF.map Dat.str) :: .imm w17 ⟨67, 2⟩ (VarsF.map aN.enc) :: zm w18 full :: L) (hH.sl 21 [1, 2, 3, 4, 5, 6, 7, 8, 9, 0, 10, 11, 12, 13, 14, 15, 16, 17, 18, 19, 20])) (fun t80 rs H' n' h hP => ?_)
  obtain ⟨w12599_0, w12599_2, w12599_3, w12599_4, w12599_5, w12599_6, w12599_7, w12599_8, w12599_9, rfl, hH⟩ := hP
  refine Z ?_
  refine cx w12599_0 rfl kK.1 hH (i := 11) rfl rfl rfl (hH.okImm (j := 0) rfl).2 (hH.okImm (j := 0) rfl).1 (Nat.le_of_ble_eq_true rfl) (fun H' hH => ?_)
  refine Z ?_
  refine fw [.pt be0 0, .d (.lst (t70.Leave.map ac.enc))] h rfl rfl Hw rfl (fun y hy => mQ _ _ _ _ _ _ _ _ _ y hy be0 w12599_2 w12599_3 w12599_4 w12599_5 w12599_6 w12599_7 w12599_8 w12599_9 _ _ (.imm w12599_0 ⟨105, 6⟩ (t80.1.map ac.enc) :: .imm w12598_0 ⟨105, 6⟩ (t75.1.map ac.enc) :: .box b13597 [.d (.str t70.Name), .d (.int .i64 t70.Id), .d (.int .u64 t70.Green), w12598_0, w12599_0, .d (.lst (t70.Leave.map ac.enc)), .d (.lst (t70.Nexts.map aw.enc))] :: .box b9 (ab.av tF) :: .box b10 [.d (.str NameF), .nil, .nil, .nil, .nil, .nil, .nil, .nil, .d (.int .i64 StartF)] :: .box b11 [.d (.str Name1F), w12, w13, w14, w15, w16, w17, .nil, .d (.int .i64 Start1F)] :: .imm w12 ⟨88, 5⟩ (Tables_GroupsF.map ak.enc) :: .imm w13 ⟨90, 4⟩ (Tables_ConflictsF.map ai.enc) :: .imm w14 ⟨92, 4⟩ (DetsF.map aE.enc) :: .imm w15 ⟨9, 1⟩ (TimersF.map Dat.str) :: .imm w16 ⟨9, 1⟩ (CountersF.map Dat.str) :: .imm w17 ⟨67, 2⟩ (VarsF.map aN.enc) :: zm w18 full :: L) (hH.sl 22 [1, 2, 3, 4, 5, 6, 7, 8, 9, 0, 10, 11, 12, 13, 14, 15, 16, 17, 18, 19, 20, 21])) (fun t85 rs H' n' h hP => ?_)
  obtain ⟨w12600_0, w12600_2, w12600_3, w12600_4, w12600_5, w12600_6, w12600_7, w12600_8, w12600_9, rfl, hH⟩ := hP
  refine Z ?_
  refine cx w12600_0 rfl kK.1 hH (i := 12) rfl rfl rfl (hH.okImm (j := 0) rfl).2 (hH.okImm (j := 0) rfl).1 (Nat.le_of_ble_eq_true rfl) (fun H' hH => ?_)
  refine Z ?_
  refine cr (cs := [.d (.int .i64 4444), .nil]) rfl mi Fs rfl ?_
  refine aQ rfl mi hH (fun b13601 H' n' hH => ?_)
  refine ax (new := [.d (.int .i64 4444), .nil]) rfl cZ.1 hH (i := 0) rfl rfl rfl rfl rfl (Nat.le_of_ble_eq_true rfl) (fun H' hH => ?_)
  refine Z ?_
  exact J fun g => ih_ (.c1 _ _ _ _ _ _ _ _ _ _ _ _ _ _ _ _ _ _ _ _) _ h w12600_2 w12600_3 w12600_4 w12600_5 w12600_6 w12600_7 w12600_8 w12600_9 b9 b10 b11 w12 w13 w14 w15 w16 w17 w18 b13597 w12598_0 w12599_0 w12600_0 b13601 .nil _ _ g _ _ ((hH.addNil (z := ⟨76, 2⟩)).sl 25 [3, 4, 5, 6, 7, 8, 9, 10, 11, 15, 16, 17, 18, 19, 20, 21, 22, 23, 24, 14, 13, 12, 2, 1, 0])
  refine Z ?_
  refine cr (cs := [.d (.str ⟨#[]⟩), .d (.int .i64 4444), .d (.int .u64 0), .nil, .nil, .nil, .nil]) rfl kf JN rfl ?_
  refine aQ rfl kf hH (fun b13602 H' n' hH => ?_)
  refine ax (new := [.d (.str ⟨#[]⟩), .d (.int .i64 4444), .d (.int .u64 0), .nil, .nil, .nil, .nil]) rfl bK.1 hH (i := 0) rfl rfl rfl rfl rfl (Nat.le_of_ble_eq_true rfl) (fun H' hH => ?_)
  refine Z ?_
  refine aF (v := .agg [.d (.str ⟨#[]⟩), .d (.int .i64 4444), .d (.int .u64 0), .nil, .nil, .nil, .nil]) rfl bK.1 hH (i := 0) rfl rfl rfl (aF (v := .agg [.d (.str ⟨#[]⟩), .d (.int .i64 4444), .d (.int .u64 0), .nil, .nil, .nil, .nil]) rfl bK.1 hH (i := 0) rfl rfl rfl ?_)
  refine cN (enc := ah.enc) (xs := [(⟨⟨#[]⟩, 4444, 0, [], [], [], []⟩ : ah), (⟨⟨#[]⟩, 4444, 0, [], [], [], []⟩ : ah)]) [.agg [.d (.str ⟨#[]⟩), .d (.int .i64 4444), .d (.int .u64 0), .nil, .nil, .nil, .nil], .agg [.d (.str ⟨#[]⟩), .d (.int .i64 4444), .d (.int .u64 0), .nil, .nil, .nil, .nil]] rfl dr.1 bK.1 kf ⟨by decide, Nat.le_of_ble_eq_true rfl⟩ LQ (fun _ => rfl) (fun _ => rfl) rfl rfl hH (fun w13603 H' n' hH => ?_)
  refine bl (enc := ah.enc) h rfl dr.1 bK.1 GG (by decide) (fun _ => rfl) hH (j := 20) rfl rfl (aM hH (j := 0) rfl) (fun t143 w13604 H' n' h hH => ?_)
  refine Z ?_
  refine de (enc := (eL ah.enc)) (e := t143) (w13604) rfl Fm.1 BX.1 LX (by decide) QP (fun _ => rfl) (fun _ => rfl) rfl (FS.own hH (j := 0) rfl (fun _ hH => FS.nil hH)) (fun w13605 H' n' hH => ?_)
  have hH := hH.addNil (z := ⟨29, 1⟩)
  refine bl (enc := (eL ah.enc)) h rfl Fm.1 BX.1 KT (by decide) (fun _ => rfl) hH (j := 0) rfl rfl (aM hH (j := 1) rfl) (fun t151 w13606 H' n' h hH => ?_)
  refine Z ?_
  refine cx w13606 rfl Oi.1 hH (i := 5) rfl rfl rfl (hH.okOwn (j := 0) rfl).2 (hH.okOwn (j := 0) rfl).1 (Nat.le_of_ble_eq_true rfl) (fun H' hH => ?_)
  refine Z ?_
  refine kX h rfl dr.1 bK.1 hH (j := 2) rfl rfl (iD) (fun t158 w13607 h hH => ?_)
  refine Z ?_
  refine cx w13607 rfl BX.1 hH (i := 17) rfl rfl rfl (hH.okImm (j := 0) rfl).2 (hH.okImm (j := 0) rfl).1 (Nat.le_of_ble_eq_true rfl) (fun H' hH => ?_)
  refine Z ?_
  refine aF (v := .agg [.d (.str Name1F), w12, w13, w14, w15, w16, w17, w13607, .d (.int .i64 Start1F)]) rfl bJ.1 hH (i := 17) rfl rfl rfl ?_
  refine ax (new := [.d (.str Name1F), w12, w13, w14, w15, w16, w17, w13607, .d (.int .i64 Start1F)]) rfl bJ.1 hH (i := 16) rfl rfl rfl rfl (by simp only [List.all_cons, List.all_nil, (hH.okImm (j := 18) rfl).1, (hH.okImm (j := 19) rfl).1, (hH.okImm (j := 20) rfl).1, (hH.okImm (j := 21) rfl).1, (hH.okImm (j := 22) rfl).1, (hH.okImm (j := 23) rfl).1, (hH.okImm (j := 0) rfl).1]; rfl) (Nat.le_of_ble_eq_true rfl) (fun H' hH => ?_)
  refine Z ?_
  refine Pt rfl (Cr ?_)
  obtain rfl := si h
  exact prF (.inl rfl) (iI (.agg [.d (.str Name1F), w12, w13, w14, w15, w16, w17, w13607, .d (.int .i64 Start1F)]) bJ.1 hH (i := 16) rfl rfl rfl (aJ)) ⟨w12, w13, w14, w15, w16, w17, w13607, w1, w2, w3, w13606, w4, w5, w6, w7, w8, rfl, (hH.sl 24 [18, 19, 20, 21, 22, 23, 0, 6, 7, 8, 9, 1, 10, 11, 12, 13, 14])⟩
 | c1 nodes stmts tnexts groups pairs dets vars texts full i Name2 Id Green Enter During Leave Nexts To nexts j =>
  intro w1 w2 w3 w4 w5 w6 w7 w8 b9 b10 b11 w12 w13 w14 w15 w16 w17 w18 b19 w20 w21 w22 b23 w24 be0 L g H n hH
  refine Po rfl ?_
  refine Z ?_
  refine Wc h rfl rfl ?_ ?_ <;> intro _ h
  refine Z ?_
  refine ct (pz := [(2, 9), (4, 9), (6, 9), (2, 11), (4, 11), (6, 11), (2, 13), (4, 13), (6, 13), (2, 14), (4, 14), (6, 14)]) rfl rfl (by kernel_rfl) (by kernel_rfl) ?_
  refine Z ?_
  refine bQ (fv := fun v => .d (.ptr (aw.enc v).cells)) (az) h rfl (bR ek.1 cZ.1 (fun _ => rfl) rfl rfl) ⟨rfl, rfl⟩ (fun t99 h => ?_)
  refine Z ?_
  refine bQ (fv := fun v => .d (.ptr (aw.enc v).cells)) (az) h rfl (bR ek.1 cZ.1 (fun _ => rfl) rfl rfl) ⟨rfl, rfl⟩ (fun t106 h => ?_)
  refine Z ?_
  have hHr := hH
  refine vl (A := [.box be0 [w1, w2, w3, .nil, .nil, .nil, w4, w5, w6, w7, .nil, w8, .nil, .nil, .nil, .nil, .nil], bS w1 nodes, bT w2 stmts, bU w3 tnexts, bw w4 groups, bz w5 pairs, bF w6 dets, bV w7 vars, bL w8 texts]) (L := .box b9 (ab.av tF) :: .box b10 [.d (.str NameF), .nil, .nil, .nil, .nil, .nil, .nil, .nil, .d (.int .i64 StartF)] :: .box b11 [.d (.str Name1F), w12, w13, w14, w15, w16, w17, .nil, .d (.int .i64 Start1F)] :: .imm w12 ⟨88, 5⟩ (Tables_GroupsF.map ak.enc) :: .imm w13 ⟨90, 4⟩ (Tables_ConflictsF.map ai.enc) :: .imm w14 ⟨92, 4⟩ (DetsF.map aE.enc) :: .imm w15 ⟨9, 1⟩ (TimersF.map Dat.str) :: .imm w16 ⟨9, 1⟩ (CountersF.map Dat.str) :: .imm w17 ⟨67, 2⟩ (VarsF.map aN.enc) :: zm w18 full :: .box b19 [.d (.str Name2), .d (.int .i64 Id), .d (.int .u64 Green), w20, w21, w22, .d (.lst (Nexts.map aw.enc))] :: .imm w20 ⟨105, 6⟩ (Enter.map ac.enc) :: .imm w21 ⟨105, 6⟩ (During.map ac.enc) :: .imm w22 ⟨105, 6⟩ (Leave.map ac.enc) :: .box b23 [.d (.int .i64 To), .nil] :: KJ w24 nexts :: L) (P := fun y rs As => ∃ w'0 w'2 w'3 w'4 w'5 w'6 w'7 w'8 w'9 : AV, rs = [w'0] ∧ As = [.imm w'0 ⟨107, 5⟩ (y.1.map ae.enc), .box be0 [w'2, w'3, w'4, .nil, .nil, .nil, w'5, w'6, w'7, w'8, .nil, w'9, .nil, .nil, .nil, .nil, .nil], bS w'2 y.2.1, bT w'3 y.2.2.1, bU w'4 y.2.2.2.1, bw w'5 y.2.2.2.2.1, bz w'6 y.2.2.2.2.2.1, bF w'7 y.2.2.2.2.2.2.1, bV w'8 y.2.2.2.2.2.2.2.1, bL w'9 y.2.2.2.2.2.2.2.2]) [.pt be0 0, .d (.lst (t106.When.map ae.enc))] h rfl rfl Ki rfl hHr (mcc (.pt (j := 0) rfl) (mcc (.d _) (mcn))) (cbb (mcc (.own (j := 1) rfl) (mcc (.own (j := 2) rfl) (mcc (.own (j := 3) rfl) (mcc (.nil) (mcc (.nil) (mcc (.nil) (mcc (.own (j := 4) rfl) (mcc (.own (j := 5) rfl) (mcc (.own (j := 6) rfl) (mcc (.own (j := 7) rfl) (mcc (.nil) (mcc (.own (j := 8) rfl) (mcc (.nil) (mcc (.nil) (mcc (.nil) (mcc (.nil) (mcc (.nil) (mcn)))))))))))))))))) (cbo (cbo (cbo (cbo (cbo (cbo (cbo (cbo (cbn)))))))))) (rcc (cc 0 rfl (dl)) (rcc (fm 0 hHr rfl (cc 0 rfl (dl)) 0 rfl (dI)) (rcc (fm 0 hHr rfl (cc 0 rfl (dl)) 1 rfl (dI)) (rcc (fm 0 hHr rfl (cc 0 rfl (dl)) 2 rfl (dI)) (rcc (fm 0 hHr rfl (cc 0 rfl (dl)) 6 rfl (dI)) (rcc (fm 0 hHr rfl (cc 0 rfl (dl)) 7 rfl (dI)) (rcc (fm 0 hHr rfl (cc 0 rfl (dl)) 8 rfl (dI)) (rcc (fm 0 hHr rfl (cc 0 rfl (dl)) 9 rfl (dI)) (rcc (fm 0 hHr rfl (cc 0 rfl (dl)) 11 rfl (dI)) (rcn)))))))))) (fun y hy H n L' hH => (rU _ _ _ _ _ _ _ _ _ y hy be0 w1 w2 w3 w4 w5 w6 w7 w8 _ _ _ hH).to (fun rs H' n' ⟨w0, w1, w2, w3, w4, w5, w6, w7, w8, e, hp⟩ => ⟨_, ⟨w0, w1, w2, w3, w4, w5, w6, w7, w8, e, rfl⟩, hp⟩)) (fun t109 rs As H' n12608 h hP hH hoff12608 hn12608 => ?_)
  obtain ⟨w12608_0, w12608_2, w12608_3, w12608_4, w12608_5, w12608_6, w12608_7, w12608_8, w12608_9, rfl, rfl⟩ := hP
  clear hHr
  have hof12608_10 := hoff12608.box (k := 10) rfl
  clear hoff12608
  refine bi (v := .agg [.d (.int .i64 t99.To), w12608_0]) (az) rfl (cy mi Fs (by show er dD _ _ [(0, .d (.int .i64 t99.To)), (1, w12608_0)] = _; simp only [er, eH (hH.okImm (j := 0) rfl)]; rfl)) ⟨rfl, rfl⟩ ?_
  refine IX (enc := aw.enc) (e := (⟨t99.To, t109.1⟩ : aw)) (.agg [.d (.int .i64 t99.To), w12608_0]) rfl ek.1 cZ.1 mi (by decide) LR (fun _ => rfl) (fun _ => rfl) rfl (FS.agg (FS.d (FS.imm hH (j := 0) rfl (FS.nil hH))) (fun _ hH => FS.nil hH)) (fun w13609 i12609 H' n12609 hH hoff12609 hn12609 hi12609 => ?_)
  clear hoff12609
  refine cG (enc := aw.enc) (w13609) h rfl ek.1 cZ.1 GH (by decide) (fun _ => rfl) hH (j := 26) rfl rfl rfl (aM hH (j := 0) rfl) (fun t112 w13610 i12610 H' n12610 h hH hoff12610 hn12610 hi12610 => ?_)
  clear hoff12610
  refine bi (v := w13610) (az) rfl (jS) ⟨rfl, rfl⟩ (xn (pk rfl rfl aG (pk rfl rfl ao (pk rfl rfl ao (pk rfl rfl aY (pk rfl rfl ao (pk rfl rfl ao (pk rfl rfl aY (pk rfl rfl ao (pk rfl rfl ao (pk rfl rfl (mn hof12608_10) (pk rfl rfl ao (pk rfl rfl ao (pkn))))))))))))) ?_)
  refine Z ?_
  exact J fun g => ih_ (.c1 _ _ _ _ _ _ _ _ _ _ _ _ _ _ _ _ _ _ _ _) _ h w12608_2 w12608_3 w12608_4 w12608_5 w12608_6 w12608_7 w12608_8 w12608_9 b9 b10 b11 w12 w13 w14 w15 w16 w17 w18 b19 w20 w21 w22 b23 w13610 _ _ g _ _ (hH.sl 27 [3, 4, 5, 6, 7, 8, 9, 10, 11, 12, 13, 14, 15, 16, 17, 18, 19, 20, 21, 22, 23, 24, 25, 26, 0])
  refine Z ?_
  refine aF (v := .agg [.d (.int .i64 To), .nil]) rfl cZ.1 hH (i := 23) rfl rfl rfl (aF (v := .agg [.d (.int .i64 To), .nil]) rfl cZ.1 hH (i := 23) rfl rfl rfl ?_)
  refine cN (enc := aw.enc) (xs := [(⟨To, []⟩ : aw), (⟨To, []⟩ : aw)]) [.agg [.d (.int .i64 To), .nil], .agg [.d (.int .i64 To), .nil]] rfl ek.1 cZ.1 mi ⟨by decide, Nat.le_of_ble_eq_true rfl⟩ LR (fun _ => rfl) (fun _ => rfl) rfl rfl hH (fun w13611 H' n' hH => ?_)
  refine bl (enc := aw.enc) h rfl ek.1 cZ.1 GH (by decide) (fun _ => rfl) hH (j := 25) rfl rfl (aM hH (j := 0) rfl) (fun t117 w13612 H' n' h hH => ?_)
  refine Z ?_
  refine de (enc := (eL aw.enc)) (e := t117) (w13612) rfl Fl.1 BY.1 M0 (by decide) QS (fun _ => rfl) (fun _ => rfl) rfl (FS.own hH (j := 0) rfl (fun _ hH => FS.nil hH)) (fun w13613 H' n' hH => ?_)
  refine bl (enc := (eL aw.enc)) h rfl Fl.1 BY.1 KV (by decide) (fun _ => rfl) hH (j := 6) rfl rfl (aM hH (j := 0) rfl) (fun t125 w13614 H' n' h hH => ?_)
  refine Z ?_
  refine cx w13614 rfl Oh.1 hH (i := 4) rfl rfl rfl (hH.okOwn (j := 0) rfl).2 (hH.okOwn (j := 0) rfl).1 (Nat.le_of_ble_eq_true rfl) (fun H' hH => ?_)
  refine Z ?_
  refine J5 rfl ek.1 hH (j := 2) rfl rfl ?_
  refine Z ?_
  refine kX h rfl ek.1 cZ.1 hH (j := 2) rfl rfl (iD) (fun t132 w13615 h hH => ?_)
  refine Z ?_
  refine cx w13615 rfl BY.1 hH (i := 23) rfl rfl rfl (hH.okImm (j := 0) rfl).2 (hH.okImm (j := 0) rfl).1 (Nat.le_of_ble_eq_true rfl) (fun H' hH => ?_)
  refine Z ?_
  refine aF (v := .agg [.d (.str Name2), .d (.int .i64 Id), .d (.int .u64 Green), w20, w21, w22, w13615]) rfl bK.1 hH (i := 23) rfl rfl rfl ?_
  refine de (enc := ah.enc) (e := (⟨Name2, Id, Green, Enter, During, Leave, t132⟩ : ah)) (.agg [.d (.str Name2), .d (.int .i64 Id), .d (.int .u64 Green), w20, w21, w22, w13615]) rfl dr.1 bK.1 kf (by decide) LQ (fun _ => rfl) (fun _ => rfl) rfl (FS.agg (FS.d (FS.d (FS.d (FS.imm hH (j := 24) rfl (FS.imm hH (j := 25) rfl (FS.imm hH (j := 26) rfl (FS.imm hH (j := 0) rfl (FS.nil hH)))))))) (fun _ hH => FS.nil hH)) (fun w13616 H' n' hH => ?_)
  refine bl (enc := ah.enc) h rfl dr.1 bK.1 GG (by decide) (fun _ => rfl) hH (j := 23) rfl rfl (aM hH (j := 0) rfl) (fun t137 w13617 H' n' h hH => ?_)
  refine Z ?_
  exact J fun g => ih_ (.c0 _ _ _ _ _ _ _ _ _ _) _ h w1 w2 w13614 w4 w5 w6 w7 w8 b9 b10 b11 w12 w13 w14 w15 w16 w17 w13617 _ _ g _ _ (hH.sl 29 [7, 8, 9, 3, 10, 11, 12, 13, 14, 15, 16, 17, 18, 19, 20, 21, 22, 23, 0])
theorem Iw (t r) (h : yJ t = some r) : aL C 29 [(aI.enc t)] = some [(.bool r)] := by
 refine aB (bu _ _ rfl) Pu rfl (jmp 0 (.d (aI.enc t)) rfl ?_)
 refine Z ?_
 refine cu (cs := (aI.av t)) rfl my.1 rfl rfl rfl (HP.nil _ _) (fun b13624 H' n' hH => ?_)
 refine Z ?_
 refine Wc h rfl rfl ?_ ?_ <;> intro _ h
 refine Z ?_
 cases h; exact Pq rfl rfl
 refine Z ?_
 exact J fun g => EB _ _ _ _ _ h b13624 g _ _ hH
theorem CN (t l t26 t27 t28 r) (h : gf t l t26 t27 t28 = some r) : wq t l t26 t27 t28 r := by
 refine gf.partial_correctness t t26 t27 (fun l t28 r => wq t l t26 t27 t28 r) (fun gf ih_gf l t28 r h w1 be0 L g H n hH => ?_) l t28 r h
 refine Po rfl ?_
 refine Z ?_
 refine Wc h rfl rfl ?_ ?_ <;> intro _ h
 refine Z ?_
 refine aA h rfl dj.1 cq.1 (fun _ => rfl) rfl rfl (fun t30 h => ?_)
 refine aR (d := (ak.enc t30)) rfl cq.1 rfl rfl ?_
 refine aQ rfl pZ hH (fun b13655 H' n' hH => ?_)
 refine ax (new := (ak.av t30)) rfl cq.1 hH (i := 0) rfl rfl rfl rfl rfl (Nat.le_of_ble_eq_true rfl) (fun H' hH => ?_)
 refine Z ?_
 refine cN (enc := Dat.str) (xs := [t30.Name]) [.d (.str t30.Name)] rfl bv.1 bM.1 mz ⟨by decide, Nat.le_of_ble_eq_true rfl⟩ zd9 (fun _ => rfl) (fun _ => rfl) rfl rfl hH (fun w13656 H' n' hH => ?_)
 refine bl (enc := Dat.str) h rfl bv.1 bM.1 gV (by decide) (fun _ => rfl) hH (j := 3) rfl rfl (aM hH (j := 0) rfl) (fun t36 w13657 H' n' h hH => ?_)
 refine Z ?_
 exact J fun g => ih_gf _ _ _ h w13657 _ _ g _ _ (hH.sl 4 [3, 0])
 refine Z ?_
 exact J fun g => Cz _ _ _ _ _ _ h w1 _ _ g _ _ hH
theorem CO (s_ sep r) (h : mq s_ sep = some r) : aL C 91 [(.str s_), (.str sep)] = some [(.str r.1), (.str r.2.1), (.bool r.2.2)] := by
 refine aB (bu _ _ rfl) Qw rfl (jmp 0 (.d (.str s_)) rfl (jmp 1 (.d (.str sep)) rfl ?_))
 refine Z ?_
 refine al h rfl Oc (sc rfl (sc rfl (sn))) (fun y hy => Ie _ _ y hy) (fun _ => rfl) (fun t9 h => ?_)
 refine Z ?_
 refine ub rfl rfl rfl ?_
 refine Z ?_
 cases h; exact Pq rfl rfl
theorem Hk (s_ r) (h : zo s_ = some r) : aL C 32 [(ah.enc s_)] = some [(.int .i64 r)] := by
 refine aB (bu _ _ rfl) Py rfl (jmp 0 (.d (ah.enc s_)) rfl ?_)
 refine Z ?_
 refine cu (cs := (ah.av s_)) rfl bK.1 rfl rfl rfl (HP.nil _ _) (fun b13681 H' n' hH => ?_)
 refine Z ?_
 refine iu (cs := [.d (.lst (s_.Enter.map ac.enc)), .d (.lst (s_.During.map ac.enc)), .d (.lst (s_.Leave.map ac.enc))]) rfl GL BU kK.1 rfl ?_
 refine Z ?_
 exact J fun g => DO _ _ _ _ _ h b13681 g _ _ hH
theorem wR (t18F : List ae) (t19F : Int) (st : pp) (r : Int) (h : bb t18F t19F st = some r) : pg t18F t19F st r := by
 refine bb.partial_correctness t18F t19F (pg t18F t19F) (fun tree_Nest_L1_run' ih_ st r h => ?_) st r h
 cases st with
 | c0 stack t20 =>
  intro w0 g H n hH
  refine Po rfl ?_
  refine Z ?_
  refine Wc h rfl rfl ?_ ?_ <;> intro _ h
  refine Z ?_
  refine aA h rfl dQ.1 bm.1 (fun _ => rfl) rfl rfl (fun t22 h => ?_)
  refine aR (d := (ae.enc t22)) rfl bm.1 rfl rfl ?_
  refine aQ rfl dE hH (fun b13698 H' n' hH => ?_)
  refine ax (new := (ae.av t22)) rfl bm.1 hH (i := 0) rfl rfl rfl rfl rfl (Nat.le_of_ble_eq_true rfl) (fun H' hH => ?_)
  refine Z ?_
  refine al h rfl Kt (sc rfl (sn)) (fun y hy => uX _ y hy) (fun _ => rfl) (fun t26 h => ?_)
  refine Z ?_
  refine cr (cs := [.d (.int .i64 t22.Op), .d (.int .i64 0)]) rfl zg IP rfl ?_
  refine aQ rfl zg hH (fun b13699 H' n' hH => ?_)
  refine ax (new := [.d (.int .i64 t22.Op), .d (.int .i64 0)]) rfl mg.1 hH (i := 0) rfl rfl rfl rfl rfl (Nat.le_of_ble_eq_true rfl) (fun H' hH => ?_)
  refine Z ?_
  refine al h rfl O0 (sc rfl (sn)) (fun y hy => EF _ y hy) (fun _ => rfl) (fun t32 h => ?_)
  refine aQ rfl rC hH (fun b13700 H' n' hH => ?_)
  refine ax (new := [.d (.int .i64 t32.e0), .d (.int .i64 t32.e1)]) rfl nU.1 hH (i := 0) rfl rfl rfl rfl rfl (Nat.le_of_ble_eq_true rfl) (fun H' hH => ?_)
  refine Z ?_
  refine Mi h rfl pc.1 mg.1 hH (j := 3) rfl rfl rfl (fun h => ?_)
  refine HZ rfl pc.1 hH (j := 3) rfl rfl ?_
  refine Z ?_
  exact J fun g => ih_ (.c1 _ _ _ _ _ _ _ _ _) _ h w0 b13698 b13699 b13700 g _ _ (hH.sl 4 [3, 2, 1, 0])
  refine Z ?_
  refine bO h rfl pc.1 mg.1 hH (j := 0) rfl rfl rfl (fun i12701 t86 h hl12701 hv12701 => ?_)
  refine Z ?_
  refine cD rfl bZ.1 hH (j := 0) rfl hl12701 rfl hv12701 rfl ?_
  refine Z ?_
  cases h; exact Pq rfl rfl
 | c1 stack n_ k d want t20 t38lo t39 t40 =>
  intro w0 b1 b2 b3 g H n hH
  refine Po rfl ?_
  refine Z ?_
  refine Wc h rfl rfl ?_ ?_ <;> intro _ h
  refine Z ?_
  refine I0 h rfl pc.1 mg.1 hH (j := 0) rfl rfl rfl (fun i12702 t43 h hl12702 hv12702 => ?_)
  refine cD (d := (aP.enc t43)) rfl mg.1 hH (j := 0) rfl hl12702 rfl hv12702 rfl ?_
  refine aQ rfl zg hH (fun b13703 H' n' hH => ?_)
  refine Z ?_
  refine ax (new := (aP.av t43)) rfl mg.1 hH (i := 0) rfl rfl rfl rfl rfl (Nat.le_of_ble_eq_true rfl) (fun H' hH => ?_)
  refine Z ?_
  refine cB rfl (by kernel_rfl) ?_
  refine Z ?_
  refine al h rfl En (sc rfl (sn)) (fun y hy => mB _ y hy) (fun _ => rfl) (fun t49 h => ?_)
  refine Z ?_
  refine I1 (f := (Dat.int .i64)) (cs := [.d (.int .i64 want.e0), .d (.int .i64 want.e1)]) h rfl xW LJ bZ.1 rfl rfl rfl (fun t51 o12704 h hx12704 => ?_)
  refine FE rfl bZ.1 hH (i := 4) rfl rfl hx12704 ?_
  refine Wc h rfl rfl ?_ ?_ <;> intro _ h
  iterate 3 refine Zs ?_
  exact J fun g => ih_ (.c2 _ _ _ _ _ _ _ _ _ _) _ h w0 b1 b2 b3 g _ _ (hH.sl 5 [1, 2, 3, 4])
  iterate 3 refine Zs ?_
  exact J fun g => ih_ (.c2 _ _ _ _ _ _ _ _ _ _) _ h w0 b1 b2 b3 g _ _ (hH.sl 5 [1, 2, 3, 4])
  refine Z ?_
  refine kV h rfl pc.1 mg.1 hH (j := 0) rfl rfl iD (fun t67 w13705 H' n' h hH => ?_)
  refine Z ?_
  refine Wc h rfl rfl ?_ ?_ <;> intro _ h
  iterate 4 refine Zs ?_
  exact J fun g => ih_ (.c3 _ _ _) _ h w13705 b2 g _ _ (hH.sl 4 [0, 2])
  refine Z ?_
  refine Wc h rfl rfl ?_ ?_ <;> intro _ h
  iterate 4 refine Zs ?_
  exact J fun g => ih_ (.c3 _ _ _) _ h w13705 b2 g _ _ (hH.sl 4 [0, 2])
  refine Z ?_
  refine Wc h rfl rfl ?_ ?_ <;> intro _ h
  iterate 4 refine Zs ?_
  exact J fun g => ih_ (.c3 _ _ _) _ h w13705 b2 g _ _ (hH.sl 4 [0, 2])
  refine Z ?_
  refine Wc h rfl rfl ?_ ?_ <;> intro _ h
  iterate 4 refine Zs ?_
  exact J fun g => ih_ (.c3 _ _ _) _ h w13705 b2 g _ _ (hH.sl 4 [0, 2])
  refine Z ?_
  refine Wc h rfl rfl ?_ ?_ <;> intro _ h
  iterate 2 refine Zs ?_
  exact J fun g => ih_ (.c3 _ _ _) _ h w13705 b2 g _ _ (hH.sl 4 [0, 2])
  iterate 3 refine Zs ?_
  exact J fun g => ih_ (.c4 _ _ _) _ h w13705 b2 g _ _ (hH.sl 4 [0, 2])
 | c2 stack n_ k d want nest t20 t38lo t39 t40 =>
  intro w0 b1 b2 b3 g H n hH
  refine Z ?_
  refine Ot rfl rfl rfl ?_
  refine Z ?_
  refine iO rfl bZ.1 hH (i := 2) rfl rfl rfl rfl rfl (Nat.le_of_ble_eq_true rfl) (fun H' hH => ?_)
  refine Z ?_
  exact J fun g => ih_ (.c1 _ _ _ _ _ _ _ _ _) _ h w0 b1 b2 b3 g _ _ hH
 | c3 stack d t20 =>
  intro w0 b1 g H n hH
  refine Z ?_
  refine iO rfl bZ.1 hH (i := 1) rfl rfl rfl rfl rfl (Nat.le_of_ble_eq_true rfl) (fun H' hH => ?_)
  refine Zs ?_
  exact J fun g => ih_ (.c4 _ _ _) _ h w0 b1 g _ _ hH
 | c4 stack d t20 =>
  intro w0 b1 g H n hH
  refine Z ?_
  refine aF (v := .agg (aP.av d)) rfl mg.1 hH (i := 1) rfl rfl rfl ?_
  refine de (enc := aP.enc) (e := d) (.agg (aP.av d)) rfl pc.1 mg.1 zg (by decide) Oq (fun _ => rfl) (fun _ => rfl) rfl (FS.agg (FS.d (FS.d (FS.nil hH))) (fun _ hH => FS.nil hH)) (fun w13706 H' n' hH => ?_)
  refine bl (enc := aP.enc) h rfl pc.1 mg.1 JI (by decide) (fun _ => rfl) hH (j := 1) rfl rfl (aM hH (j := 0) rfl) (fun t83 w13707 H' n' h hH => ?_)
  refine Z ?_
  exact J fun g => ih_ (.c0 _ _) _ h w13707 g _ _ (hH.sl 3 [0])
end Go.Proofs.YtkmbagocakiefaaGreatDoor.Wb
