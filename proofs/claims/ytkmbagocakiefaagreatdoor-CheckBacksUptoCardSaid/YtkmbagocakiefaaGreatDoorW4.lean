/- The abstract machine computes these functions. Printed by decomp.py. -/
import Derived.Test.YtkmbagocakiefaaGreatDoorD2
import Derived.Test.YtkmbagocakiefaaGreatDoorW1
import Derived.Test.YtkmbagocakiefaaGreatDoorW2
import Derived.Test.YtkmbagocakiefaaGreatDoorW3
namespace Go.Proofs.YtkmbagocakiefaaGreatDoor.Wb
open Go Go.Jv
set_option maxHeartbeats 4000000
open Go.Proofs
set_option maxHeartbeats 4000000
attribute [local irreducible] EW EX PAt con
theorem vH (tF : ab) (t8F : List ae) (t9F : Int) (st : ol) (r : List ae) (h : bC tF t8F t9F st = some r) : nI tF t8F t9F st r := by
 refine bC.partial_correctness tF t8F t9F (nI tF t8F t9F) (fun c_exprBack_L1_run' ih_ st r h => ?_) st r h
 cases st with
 | c0 out t10 =>
  intro w1 be0 L g H n hH
  refine Po rfl ?_
  refine Z ?_
  refine Wc h rfl rfl ?_ ?_ <;> intro _ h
  refine Z ?_
  refine aA h rfl dQ.1 bm.1 (fun _ => rfl) rfl rfl (fun t12 h => ?_)
  refine aR (d := (ae.enc t12)) rfl bm.1 rfl rfl ?_
  refine aQ rfl dE hH (fun b13811 H' n' hH => ?_)
  refine ax (new := (ae.av t12)) rfl bm.1 hH (i := 0) rfl rfl rfl rfl rfl (Nat.le_of_ble_eq_true rfl) (fun H' hH => ?_)
  refine Z ?_
  refine Wc h rfl rfl ?_ ?_ <;> intro _ h
  iterate 4 refine Zs ?_
  exact J fun g => ih_ (.c1 _ _ _) _ h w1 b13811 _ _ g _ _ (hH.sl 3 [1, 2, 0])
  refine Z ?_
  refine Wc h rfl rfl ?_ ?_ <;> intro _ h
  iterate 2 refine Zs ?_
  exact J fun g => ih_ (.c1 _ _ _) _ h w1 b13811 _ _ g _ _ (hH.sl 3 [1, 2, 0])
  refine Z ?_
  refine Wc h rfl rfl ?_ ?_ <;> intro _ h
  refine Z ?_
  refine ct (pz := [(3, 5)]) rfl rfl (by kernel_rfl) (by kernel_rfl) ?_
  refine Z ?_
  refine bi (v := .pt be0 0) (az) rfl (dm rfl) ⟨rfl, rfl⟩ ?_
  refine Z ?_
  refine bQ (fv := fun v => .d (.ptr (aN.enc v).cells)) (az) h rfl (bR fq.1 dB.1 (fun _ => rfl) rfl rfl) ⟨rfl, rfl⟩ (fun t40 h => ?_)
  refine Z ?_
  refine bi (v := .agg [.d (.int .i64 3), .d (.int .i32 0), .d (.str t40.Name), .d (.int .i64 0), .d (.int .i64 0)]) (az) rfl (cy dE gu rfl) ⟨rfl, rfl⟩ ?_
  refine bX (new := [.d (.int .i64 3), .d (.int .i32 0), .d (.str t40.Name), .d (.int .i64 0), .d (.int .i64 0)]) [.d (.int .i64 3), .d (.int .i32 0), .d (.str t40.Name), .d (.int .i64 0), .d (.int .i64 0)] rfl bm.1 hH (i := 0) rfl rfl rfl rfl rfl (Nat.le_of_ble_eq_true rfl) rfl (fun H' hH => ?_)
  refine xn (pk rfl rfl aG (pkn)) ?_
  refine Zs ?_
  exact J fun g => ih_ (.c2 _ _ _) _ h w1 b13811 _ _ g _ _ (hH.sl 3 [1, 2, 0])
  refine Z ?_
  refine Wc h rfl rfl ?_ ?_ <;> intro _ h
  refine Z ?_
  refine ct (pz := [(3, 5)]) rfl rfl (by kernel_rfl) (by kernel_rfl) ?_
  refine Z ?_
  refine bi (v := .pt be0 0) (az) rfl (dm rfl) ⟨rfl, rfl⟩ ?_
  refine Z ?_
  refine bQ (fv := fun v => .d (.ptr (Dat.str v).cells)) (az) h rfl (bR bv.1 bM.1 (fun _ => rfl) rfl rfl) ⟨rfl, rfl⟩ (fun t52 h => ?_)
  refine Z ?_
  refine bi (v := .agg [.d (.int .i64 3), .d (.int .i32 0), .d (.str t52), .d (.int .i64 0), .d (.int .i64 0)]) (az) rfl (cy dE gu rfl) ⟨rfl, rfl⟩ ?_
  refine bX (new := [.d (.int .i64 3), .d (.int .i32 0), .d (.str t52), .d (.int .i64 0), .d (.int .i64 0)]) [.d (.int .i64 3), .d (.int .i32 0), .d (.str t52), .d (.int .i64 0), .d (.int .i64 0)] rfl bm.1 hH (i := 0) rfl rfl rfl rfl rfl (Nat.le_of_ble_eq_true rfl) rfl (fun H' hH => ?_)
  refine xn (pk rfl rfl aG (pkn)) ?_
  refine Zs ?_
  exact J fun g => ih_ (.c2 _ _ _) _ h w1 b13811 _ _ g _ _ (hH.sl 3 [1, 2, 0])
  refine Z ?_
  refine Wc h rfl rfl ?_ ?_ <;> intro _ h
  refine Z ?_
  refine ct (pz := [(3, 5)]) rfl rfl (by kernel_rfl) (by kernel_rfl) ?_
  refine Z ?_
  refine bi (v := .pt be0 0) (az) rfl (dm rfl) ⟨rfl, rfl⟩ ?_
  refine Z ?_
  refine bQ (fv := fun v => .d (.ptr (Dat.str v).cells)) (az) h rfl (bR bv.1 bM.1 (fun _ => rfl) rfl rfl) ⟨rfl, rfl⟩ (fun t63 h => ?_)
  refine Z ?_
  refine bi (v := .agg [.d (.int .i64 3), .d (.int .i32 0), .d (.str t63), .d (.int .i64 0), .d (.int .i64 0)]) (az) rfl (cy dE gu rfl) ⟨rfl, rfl⟩ ?_
  refine bX (new := [.d (.int .i64 3), .d (.int .i32 0), .d (.str t63), .d (.int .i64 0), .d (.int .i64 0)]) [.d (.int .i64 3), .d (.int .i32 0), .d (.str t63), .d (.int .i64 0), .d (.int .i64 0)] rfl bm.1 hH (i := 0) rfl rfl rfl rfl rfl (Nat.le_of_ble_eq_true rfl) rfl (fun H' hH => ?_)
  refine xn (pk rfl rfl aG (pkn)) ?_
  refine Zs ?_
  exact J fun g => ih_ (.c2 _ _ _) _ h w1 b13811 _ _ g _ _ (hH.sl 3 [1, 2, 0])
  refine Z ?_
  refine Wc h rfl rfl ?_ ?_ <;> intro _ h
  refine Z ?_
  refine ct (pz := [(3, 5)]) rfl rfl (by kernel_rfl) (by kernel_rfl) ?_
  refine Z ?_
  refine bi (v := .pt be0 0) (az) rfl (dm rfl) ⟨rfl, rfl⟩ ?_
  refine Z ?_
  refine bQ (fv := fun v => .d (.ptr (aE.enc v).cells)) (az) h rfl (bR ej.1 df.1 (fun _ => rfl) rfl rfl) ⟨rfl, rfl⟩ (fun t74 h => ?_)
  refine Z ?_
  refine bi (v := .agg [.d (.int .i64 3), .d (.int .i32 0), .d (.str t74.Name), .d (.int .i64 0), .d (.int .i64 0)]) (az) rfl (cy dE gu rfl) ⟨rfl, rfl⟩ ?_
  refine bX (new := [.d (.int .i64 3), .d (.int .i32 0), .d (.str t74.Name), .d (.int .i64 0), .d (.int .i64 0)]) [.d (.int .i64 3), .d (.int .i32 0), .d (.str t74.Name), .d (.int .i64 0), .d (.int .i64 0)] rfl bm.1 hH (i := 0) rfl rfl rfl rfl rfl (Nat.le_of_ble_eq_true rfl) rfl (fun H' hH => ?_)
  refine xn (pk rfl rfl aG (pkn)) ?_
  refine Zs ?_
  exact J fun g => ih_ (.c2 _ _ _) _ h w1 b13811 _ _ g _ _ (hH.sl 3 [1, 2, 0])
  iterate 3 refine Zs ?_
  exact J fun g => ih_ (.c2 _ _ _) _ h w1 b13811 _ _ g _ _ (hH.sl 3 [1, 2, 0])
  refine Z ?_
  refine Pt rfl (Cr ?_)
  obtain rfl := si h
  exact prF (.inl rfl) (aS (w1) rfl (aJ)) ⟨w1, rfl, (hH.sl 2 [1, 0])⟩
 | c1 out n_ t10 =>
  intro w1 b2 be0 L g H n hH
  refine ct (pz := [(1, 6), (1, 8), (6, 8), (1, 9), (1, 11)]) rfl rfl (by kernel_rfl) (by kernel_rfl) ?_
  refine Z ?_
  refine bi (v := .pt be0 0) (az) rfl (dm rfl) ⟨rfl, rfl⟩ ?_
  refine Z ?_
  refine bQ (fv := fun v => .d (.ptr (ak.enc v).cells)) (az) h rfl (bR dj.1 cq.1 (fun _ => rfl) rfl rfl) ⟨rfl, rfl⟩ (fun t28 h => ?_)
  refine Z ?_
  refine bi (v := .agg [.d (.int .i64 n_.Op), .d (.int .i32 0), .d (.str t28.Name), .d (.int .i64 0), .d (.int .i64 0)]) (az) rfl (cy dE gu rfl) ⟨rfl, rfl⟩ ?_
  refine bX (new := [.d (.int .i64 n_.Op), .d (.int .i32 0), .d (.str t28.Name), .d (.int .i64 0), .d (.int .i64 0)]) [.d (.int .i64 n_.Op), .d (.int .i32 0), .d (.str t28.Name), .d (.int .i64 0), .d (.int .i64 0)] rfl bm.1 hH (i := 2) rfl rfl rfl rfl rfl (Nat.le_of_ble_eq_true rfl) rfl (fun H' hH => ?_)
  refine xn (pk rfl rfl aG (pk rfl rfl aG (pk rfl rfl aG (pk rfl rfl aY (pk rfl rfl aY (pkn)))))) ?_
  refine Zs ?_
  exact J fun g => ih_ (.c2 _ _ _) _ h w1 b2 _ _ g _ _ hH
 | c2 out n_ t10 =>
  intro w1 b2 be0 L g H n hH
  refine Z ?_
  refine aF (v := .agg (ae.av n_)) rfl bm.1 hH (i := 2) rfl rfl rfl ?_
  refine de (enc := ae.enc) (e := n_) (.agg (ae.av n_)) rfl dQ.1 bm.1 dE (by decide) HJ (fun _ => rfl) (fun _ => rfl) rfl (FS.agg (FS.d (FS.d (FS.d (FS.d (FS.d (FS.nil hH)))))) (fun _ hH => FS.nil hH)) (fun w13817 H' n' hH => ?_)
  refine bl (enc := ae.enc) h rfl dQ.1 bm.1 vM (by decide) (fun _ => rfl) hH (j := 2) rfl rfl (aM hH (j := 0) rfl) (fun t81 w13818 H' n' h hH => ?_)
  refine Z ?_
  exact J fun g => ih_ (.c0 _ _) _ h w13818 _ _ g _ _ (hH.sl 4 [2, 0])
theorem zH (tF : aI) (n_F : Int) (st : sL) (r : Bool) (h : dG tF n_F st = some r) : rP tF n_F st r := by
 refine dG.partial_correctness tF n_F (rP tF n_F) (fun r5_Grid_L2_run' ih_ st r h => ?_) st r h
 cases st with
 | c0 i =>
  intro b0 g H n hH
  refine Po rfl ?_
  refine Z ?_
  refine Wc h rfl rfl ?_ ?_ <;> intro _ h
  refine Z ?_
  refine aA h rfl iS.1 dO.1 (fun _ => rfl) rfl rfl (fun t56 h => ?_)
  refine aR (d := (ai.enc t56)) rfl dO.1 rfl rfl ?_
  refine aQ rfl qa hH (fun b14003 H' n' hH => ?_)
  refine ax (new := (ai.av t56)) rfl dO.1 hH (i := 0) rfl rfl rfl rfl rfl (Nat.le_of_ble_eq_true rfl) (fun H' hH => ?_)
  refine Z ?_
  refine Wc h rfl rfl ?_ ?_ <;> intro _ h
  refine Z ?_
  cases h; exact Pq rfl rfl
  refine Z ?_
  refine Wc h rfl rfl ?_ ?_ <;> intro _ h
  refine Z ?_
  cases h; exact Pq rfl rfl
  refine Z ?_
  refine Wc h rfl rfl ?_ ?_ <;> intro _ h
  refine Z ?_
  cases h; exact Pq rfl rfl
  refine Z ?_
  refine al h rfl pI (sc rfl (sc rfl (sc rfl (sn)))) (fun y hy => eE _ _ _ y hy) (fun _ => rfl) (fun t77 h => ?_)
  revert h; cases t77 <;> intro h
  replace h := if0 h
  refine ba rfl rfl rfl ?_
  refine Z ?_
  cases h; exact Pq rfl rfl
  replace h := if1 h
  refine ba rfl rfl rfl ?_
  refine Z ?_
  refine al h rfl pI (sc rfl (sc rfl (sc rfl (sn)))) (fun y hy => eE _ _ _ y hy) (fun _ => rfl) (fun t83 h => ?_)
  revert h; cases t83 <;> intro h
  replace h := if0 h
  refine ba rfl rfl rfl ?_
  refine Z ?_
  cases h; exact Pq rfl rfl
  replace h := if1 h
  refine ba rfl rfl rfl ?_
  refine Z ?_
  refine Wc h rfl rfl ?_ ?_ <;> intro _ h
  refine Z ?_
  refine aA h rfl iS.1 dO.1 (fun _ => rfl) rfl rfl (fun t92 h => ?_)
  refine aR (d := (ai.enc t92)) rfl dO.1 rfl rfl ?_
  refine aQ rfl qa hH (fun b14004 H' n' hH => ?_)
  refine ax (new := (ai.av t92)) rfl dO.1 hH (i := 0) rfl rfl rfl rfl rfl (Nat.le_of_ble_eq_true rfl) (fun H' hH => ?_)
  refine Z ?_
  refine Wc h rfl rfl ?_ ?_ <;> intro _ h
  refine Z ?_
  cases h; exact Pq rfl rfl
  refine Z ?_
  refine Wc h rfl rfl ?_ ?_ <;> intro _ h
  refine Z ?_
  refine Wc h rfl rfl ?_ ?_ <;> intro _ h
  refine Z ?_
  cases h; exact Pq rfl rfl
  iterate 3 refine Zs ?_
  exact J fun g => ih_ (.c1 _) _ h b0 g _ _ (hH.sl 3 [2])
  iterate 3 refine Zs ?_
  exact J fun g => ih_ (.c1 _) _ h b0 g _ _ (hH.sl 3 [2])
  iterate 3 refine Zs ?_
  exact J fun g => ih_ (.c1 _) _ h b0 g _ _ (hH.sl 2 [1])
  refine Z ?_
  cases h; exact Pq rfl rfl
 | c1 i =>
  intro b0 g H n hH
  refine Z ?_
  exact J fun g => ih_ (.c0 _) _ h b0 g _ _ hH
theorem Gi (c r) (h : AZ c = some r) : aL C 79 [(.int .u8 c)] = some [(.bool r)] := by
 refine aB (bu _ _ rfl) Qk rfl (jmp 0 (.d (.int .u8 c)) rfl ?_)
 refine Z ?_
 refine al h rfl Kr (sc rfl (sn)) (fun y hy => xN _ y hy) (fun _ => rfl) (fun t4 h => ?_)
 revert h; cases t4 <;> intro h
 replace h := if0 h
 refine Z ?_
 refine al h rfl HI (sc rfl (sn)) (fun y hy => ua _ y hy) (fun _ => rfl) (fun t7 h => ?_)
 revert h; cases t7 <;> intro h
 replace h := if0 h
 refine Z ?_
 refine Wb rfl rfl ?_
 refine Z ?_
 cases h; exact Pq rfl rfl
 replace h := if1 h
 refine Z ?_
 cases h; exact Pq rfl rfl
 replace h := if1 h
 refine Z ?_
 cases h; exact Pq rfl rfl
theorem Gj (c base r) (h : sM c base = some r) : aL C 93 [(.int .u8 c), (.int .i64 base)] = some [(.int .i64 r)] := by
 refine aB (bu _ _ rfl) Qy rfl (jmp 0 (.d (.int .u8 c)) rfl (jmp 1 (.d (.int .i64 base)) rfl ?_))
 refine Z ?_
 refine al h rfl HI (sc rfl (sn)) (fun y hy => ua _ y hy) (fun _ => rfl) (fun t6 h => ?_)
 revert h; cases t6 <;> intro h
 replace h := if0 h
 refine Z ?_
 refine Wc h rfl rfl ?_ ?_ <;> intro _ h
 refine Z ?_
 refine Wc h rfl rfl ?_ ?_ <;> intro _ h
 refine Z ?_
 refine Wc h rfl rfl ?_ ?_ <;> intro _ h
 refine Z ?_
 cases h; exact Pq rfl rfl
 iterate 3 refine Zs ?_
 exact J fun g => oV _ _ _ h g _ _
 iterate 3 refine Zs ?_
 exact J fun g => oV _ _ _ h g _ _
 iterate 3 refine Zs ?_
 exact J fun g => oV _ _ _ h g _ _
 replace h := if1 h
 refine Z ?_
 cases h; exact Pq rfl rfl
theorem BQ (t l i r) (h : fD t l i = some r) : uF t l i r := by
 refine fD.partial_correctness t (fun l i r => uF t l i r) (fun fD ih_fD l i r h b0 w1 g H n hH => ?_) l i r h
 refine Po rfl ?_
 refine Z ?_
 refine Wc h rfl rfl ?_ ?_ <;> intro _ h
 refine Z ?_
 refine aA h rfl dr.1 bK.1 (fun _ => rfl) rfl rfl (fun t77 h => ?_)
 refine Z ?_
 refine cN (enc := Dat.str) (xs := [t77.Name]) [.d (.str t77.Name)] rfl bv.1 bM.1 mz ⟨by decide, Nat.le_of_ble_eq_true rfl⟩ zd9 (fun _ => rfl) (fun _ => rfl) rfl rfl hH (fun w14043 H' n' hH => ?_)
 refine bl (enc := Dat.str) h rfl bv.1 bM.1 gV (by decide) (fun _ => rfl) hH (j := 2) rfl rfl (aM hH (j := 0) rfl) (fun t81 w14044 H' n' h hH => ?_)
 refine Z ?_
 exact J fun g => ih_fD _ _ _ h b0 w14044 g _ _ (hH.sl 3 [2, 0])
 refine Z ?_
 refine Pt rfl (Cr ?_)
 obtain rfl := si h
 exact pdF (.inl rfl) (aS (w1) rfl (aJ)) (FS.own hH (j := 1) rfl (fun _ hH => FS.nil hH))
theorem uM (op r) (h : pO op = some r) (g H n) : PAt C (aj Tryz.f82) (.b (.b (.a (.b (.b (.b (.b (.a (.a (.b .o)))))))))) ⟨upd g 0 (.d (.int .i64 op)), H, n⟩ (aq C Tryz.f82 [(.int .i64 r)]) := by
 refine Z ?_
 refine Wc h rfl rfl ?_ ?_ <;> intro _ h
 refine Z ?_
 refine Wc h rfl rfl ?_ ?_ <;> intro _ h
 refine Z ?_
 cases h; exact Pq rfl rfl
 iterate 2 refine Zs ?_
 exact J fun g => uJ _ _ h g _ _
 iterate 2 refine Zs ?_
 exact J fun g => uJ _ _ h g _ _
theorem BR (t op r) (h : zr t op = some r) : aL C 94 [(ab.enc t), (.int .i64 op)] = some [(.int .i64 r)] := by
 refine aB (bu _ _ rfl) Qz rfl (jmp 0 (.d (ab.enc t)) rfl (jmp 1 (.d (.int .i64 op)) rfl ?_))
 refine Z ?_
 refine cu (cs := (ab.av t)) rfl bJ.1 rfl rfl rfl (HP.nil _ _) (fun b14066 H' n' hH => ?_)
 refine Z ?_
 refine Wc h rfl rfl ?_ ?_ <;> intro _ h
 iterate 4 refine Zs ?_
 exact J fun g => wh _ _ h b14066 g _ _ hH
 refine Z ?_
 refine Wc h rfl rfl ?_ ?_ <;> intro _ h
 iterate 2 refine Zs ?_
 exact J fun g => wh _ _ h b14066 g _ _ hH
 refine Z ?_
 refine Wc h rfl rfl ?_ ?_ <;> intro _ h
 refine Z ?_
 cases h; exact Pq rfl rfl
 refine Z ?_
 refine Wc h rfl rfl ?_ ?_ <;> intro _ h
 refine Z ?_
 cases h; exact Pq rfl rfl
 refine Z ?_
 refine Wc h rfl rfl ?_ ?_ <;> intro _ h
 refine Z ?_
 cases h; exact Pq rfl rfl
 refine Z ?_
 refine Wc h rfl rfl ?_ ?_ <;> intro _ h
 refine Z ?_
 cases h; exact Pq rfl rfl
 refine Z ?_
 cases h; exact Pq rfl rfl
theorem tq (op a b r) (h : oA op a b = some r) (g H n) : PAt C (aj Tryz.f88) (.b (.b (.b (.b (.b (.b (.b (.b (.b (.b (.a (.a (.b .o))))))))))))) ⟨upd (upd (upd g 0 (.d (.int .i64 op))) 1 (.d (.int .i64 a))) 2 (.d (.int .i64 b)), H, n⟩ (aq C Tryz.f88 [(.int .i64 r)]) := by
 refine Z ?_
 refine Wc h rfl rfl ?_ ?_ <;> intro _ h
 iterate 2 refine Zs ?_
 exact J fun g => tj _ _ _ h g _ _
 refine Z ?_
 refine Wc h rfl rfl ?_ ?_ <;> intro _ h
 iterate 2 refine Zs ?_
 exact J fun g => tj _ _ _ h g _ _
 refine Z ?_
 cases h; exact Pq rfl rfl
theorem CS (l n_ i r) (h : ic l n_ i = some r) : wi l n_ i r := by
 refine ic.partial_correctness l (fun n_ i r => wi l n_ i r) (fun ic ih_ic n_ i r h g H n => ?_) n_ i r h
 refine Po rfl ?_
 refine Z ?_
 refine Wc h rfl rfl ?_ ?_ <;> intro _ h
 refine Z ?_
 refine aA h rfl cf.1 bj.1 (fun _ => rfl) rfl rfl (fun t14 h => ?_)
 refine Z ?_
 exact J fun g => ih_ic _ _ _ h g _ _
 refine Z ?_
 cases h; exact Pq rfl rfl
theorem xU (eF : List ae) (st : qE) (r : Bool) (h : dM eF st = some r) : qz eF st r := by
 refine dM.partial_correctness eF (qz eF) (fun r5_plain_L1_run' ih_ st r h => ?_) st r h
 cases st with
 | c0 i =>
  intro g H n
  refine Po rfl ?_
  refine Z ?_
  refine Wc h rfl rfl ?_ ?_ <;> intro _ h
  refine Z ?_
  refine aA h rfl dQ.1 bm.1 (fun _ => rfl) rfl rfl (fun t12 h => ?_)
  refine Z ?_
  refine Wc h rfl rfl ?_ ?_ <;> intro _ h
  refine Z ?_
  refine aA h rfl dQ.1 bm.1 (fun _ => rfl) rfl rfl (fun t19 h => ?_)
  refine Z ?_
  refine Wc h rfl rfl ?_ ?_ <;> intro _ h
  refine Z ?_
  cases h; exact Pq rfl rfl
  iterate 3 refine Zs ?_
  exact J fun g => ih_ (.c1 _) _ h g _ _
  iterate 3 refine Zs ?_
  exact J fun g => ih_ (.c1 _) _ h g _ _
  refine Z ?_
  cases h; exact Pq rfl rfl
 | c1 i =>
  intro g H n
  refine Z ?_
  exact J fun g => ih_ (.c0 _) _ h g _ _
theorem vI (eF : List ae) (tF : ab) (st : oD) (r : List ae) (h : bD eF tF st = some r) : nP eF tF st r := by
 refine bD.partial_correctness eF tF (nP eF tF) (fun r5_written_L1_run' ih_ st r h => ?_) st r h
 cases st with
 | c0 l i =>
  intro b0 w1 g H n hH
  refine Po rfl ?_
  refine Z ?_
  refine Wc h rfl rfl ?_ ?_ <;> intro _ h
  refine Z ?_
  refine aA h rfl dQ.1 bm.1 (fun _ => rfl) rfl rfl (fun t17 h => ?_)
  refine aR (d := (ae.enc t17)) rfl bm.1 rfl rfl ?_
  refine aQ rfl dE hH (fun b14159 H' n' hH => ?_)
  refine ax (new := (ae.av t17)) rfl bm.1 hH (i := 0) rfl rfl rfl rfl rfl (Nat.le_of_ble_eq_true rfl) (fun H' hH => ?_)
  refine Z ?_
  refine Wc h rfl rfl ?_ ?_ <;> intro _ h
  refine Z ?_
  refine aA h rfl fq.1 dB.1 (fun _ => rfl) rfl rfl (fun t29 h => ?_)
  refine Z ?_
  refine cr (cs := [.d (.int .i64 3), .d (.int .i32 0), .d (.str t29.Name), .d (.int .i64 0), .d (.int .i64 0)]) rfl dE gu rfl ?_
  refine ax (new := [.d (.int .i64 3), .d (.int .i32 0), .d (.str t29.Name), .d (.int .i64 0), .d (.int .i64 0)]) rfl bm.1 hH (i := 0) rfl rfl rfl rfl rfl (Nat.le_of_ble_eq_true rfl) (fun H' hH => ?_)
  refine Zs ?_
  exact J fun g => ih_ (.c2 _ _ _) _ h b0 w1 b14159 g _ _ (hH.sl 3 [1, 2, 0])
  refine Z ?_
  refine Wc h rfl rfl ?_ ?_ <;> intro _ h
  refine Z ?_
  refine aA h rfl bv.1 bM.1 (fun _ => rfl) rfl rfl (fun t38 h => ?_)
  refine Z ?_
  refine cr (cs := [.d (.int .i64 3), .d (.int .i32 0), .d (.str t38), .d (.int .i64 0), .d (.int .i64 0)]) rfl dE gu rfl ?_
  refine ax (new := [.d (.int .i64 3), .d (.int .i32 0), .d (.str t38), .d (.int .i64 0), .d (.int .i64 0)]) rfl bm.1 hH (i := 0) rfl rfl rfl rfl rfl (Nat.le_of_ble_eq_true rfl) (fun H' hH => ?_)
  refine Zs ?_
  exact J fun g => ih_ (.c2 _ _ _) _ h b0 w1 b14159 g _ _ (hH.sl 3 [1, 2, 0])
  refine Z ?_
  refine Wc h rfl rfl ?_ ?_ <;> intro _ h
  refine Z ?_
  refine aA h rfl bv.1 bM.1 (fun _ => rfl) rfl rfl (fun t46 h => ?_)
  refine Z ?_
  refine cr (cs := [.d (.int .i64 3), .d (.int .i32 0), .d (.str t46), .d (.int .i64 0), .d (.int .i64 0)]) rfl dE gu rfl ?_
  refine ax (new := [.d (.int .i64 3), .d (.int .i32 0), .d (.str t46), .d (.int .i64 0), .d (.int .i64 0)]) rfl bm.1 hH (i := 0) rfl rfl rfl rfl rfl (Nat.le_of_ble_eq_true rfl) (fun H' hH => ?_)
  refine Zs ?_
  exact J fun g => ih_ (.c2 _ _ _) _ h b0 w1 b14159 g _ _ (hH.sl 3 [1, 2, 0])
  refine Z ?_
  refine Wc h rfl rfl ?_ ?_ <;> intro _ h
  refine Z ?_
  refine aA h rfl ej.1 df.1 (fun _ => rfl) rfl rfl (fun t54 h => ?_)
  refine Z ?_
  refine cr (cs := [.d (.int .i64 3), .d (.int .i32 0), .d (.str t54.Name), .d (.int .i64 0), .d (.int .i64 0)]) rfl dE gu rfl ?_
  refine ax (new := [.d (.int .i64 3), .d (.int .i32 0), .d (.str t54.Name), .d (.int .i64 0), .d (.int .i64 0)]) rfl bm.1 hH (i := 0) rfl rfl rfl rfl rfl (Nat.le_of_ble_eq_true rfl) (fun H' hH => ?_)
  refine Zs ?_
  exact J fun g => ih_ (.c2 _ _ _) _ h b0 w1 b14159 g _ _ (hH.sl 3 [1, 2, 0])
  refine Z ?_
  refine Wc h rfl rfl ?_ ?_ <;> intro _ h
  iterate 4 refine Zs ?_
  exact J fun g => ih_ (.c1 _ _ _ _) _ h b0 w1 b14159 g _ _ (hH.sl 3 [1, 2, 0])
  refine Z ?_
  refine Wc h rfl rfl ?_ ?_ <;> intro _ h
  iterate 2 refine Zs ?_
  exact J fun g => ih_ (.c1 _ _ _ _) _ h b0 w1 b14159 g _ _ (hH.sl 3 [1, 2, 0])
  iterate 3 refine Zs ?_
  exact J fun g => ih_ (.c2 _ _ _) _ h b0 w1 b14159 g _ _ (hH.sl 3 [1, 2, 0])
  refine Z ?_
  refine Pt rfl (Cr ?_)
  obtain rfl := si h
  exact pdF (.inl rfl) (aS (w1) rfl (aJ)) (FS.own hH (j := 1) rfl (fun _ hH => FS.nil hH))
 | c1 l i n_ v =>
  intro b0 w1 b2 g H n hH
  refine ct (pz := [(1, 4), (1, 6), (1, 8)]) rfl rfl (by kernel_rfl) (by kernel_rfl) ?_
  refine Z ?_
  refine bQ (fv := fun v => .d (.ptr (ak.enc v).cells)) (az) h rfl (bR dj.1 cq.1 (fun _ => rfl) rfl rfl) ⟨rfl, rfl⟩ (fun t67 h => ?_)
  refine Z ?_
  refine bi (v := .agg [.d (.int .i64 n_.Op), .d (.int .i32 0), .d (.str t67.Name), .d (.int .i64 0), .d (.int .i64 0)]) (az) rfl (cy dE gu rfl) ⟨rfl, rfl⟩ ?_
  refine bX (new := [.d (.int .i64 n_.Op), .d (.int .i32 0), .d (.str t67.Name), .d (.int .i64 0), .d (.int .i64 0)]) [.d (.int .i64 n_.Op), .d (.int .i32 0), .d (.str t67.Name), .d (.int .i64 0), .d (.int .i64 0)] rfl bm.1 hH (i := 2) rfl rfl rfl rfl rfl (Nat.le_of_ble_eq_true rfl) rfl (fun H' hH => ?_)
  refine xn (pk rfl rfl aG (pk rfl rfl aY (pk rfl rfl aY (pkn)))) ?_
  refine Zs ?_
  exact J fun g => ih_ (.c2 _ _ _) _ h b0 w1 b2 g _ _ hH
 | c2 l i n_ =>
  intro b0 w1 b2 g H n hH
  refine Z ?_
  refine aF (v := .agg (ae.av n_)) rfl bm.1 hH (i := 2) rfl rfl rfl ?_
  refine de (enc := ae.enc) (e := n_) (.agg (ae.av n_)) rfl dQ.1 bm.1 dE (by decide) HJ (fun _ => rfl) (fun _ => rfl) rfl (FS.agg (FS.d (FS.d (FS.d (FS.d (FS.d (FS.nil hH)))))) (fun _ hH => FS.nil hH)) (fun w14161 H' n' hH => ?_)
  refine bl (enc := ae.enc) h rfl dQ.1 bm.1 vM (by decide) (fun _ => rfl) hH (j := 2) rfl rfl (aM hH (j := 0) rfl) (fun t74 w14162 H' n' h hH => ?_)
  refine Z ?_
  exact J fun g => ih_ (.c0 _ _) _ h b0 w14162 g _ _ (hH.sl 4 [2, 0])
theorem xV (a b i r) (h : ew a b i = some r) : qL a b i r := by
 refine ew.partial_correctness a b (fun i r => qL a b i r) (fun ew ih_ew i r h g H n => ?_) i r h
 refine Po rfl ?_
 refine Z ?_
 refine Wc h rfl rfl ?_ ?_ <;> intro _ h
 refine Z ?_
 refine cB rfl (by kernel_rfl) ?_
 refine Z ?_
 refine aA h rfl dQ.1 bm.1 (fun _ => rfl) rfl rfl (fun t19 h => ?_)
 refine aR (d := (ae.enc t19)) rfl bm.1 rfl rfl ?_
 refine Z ?_
 refine aA h rfl dQ.1 bm.1 (fun _ => rfl) rfl rfl (fun t23 h => ?_)
 refine aR (d := (ae.enc t23)) rfl bm.1 rfl rfl ?_
 refine bA (b := (!(decide (t19.Op = t23.Op) && (decide (t19.Val = t23.Val) && (decide (t19.Name = t23.Name) && (decide (t19.At.Line = t23.At.Line) && (decide (t19.At.Col = t23.At.Col) && true))))))) h rfl (kW KX LA rfl rfl rfl) rfl (fun _ => ⟨rfl, rfl⟩) ?_ ?_ <;> intro _ h
 refine Z ?_
 cases h; exact Pq rfl rfl
 refine Z ?_
 exact J fun g => ih_ew _ _ h g _ _
 refine Z ?_
 cases h; exact Pq rfl rfl
theorem vJ (a b i r) (h : dH a b i = some r) : oM a b i r := by
 refine dH.partial_correctness a b (fun i r => oM a b i r) (fun dH ih_dH i r h g H n => ?_) i r h
 refine Po rfl ?_
 refine Z ?_
 refine Wc h rfl rfl ?_ ?_ <;> intro _ h
 refine Z ?_
 refine cB rfl (by kernel_rfl) ?_
 refine Z ?_
 refine aA h rfl bv.1 bM.1 (fun _ => rfl) rfl rfl (fun t19 h => ?_)
 refine Z ?_
 refine aA h rfl bv.1 bM.1 (fun _ => rfl) rfl rfl (fun t23 h => ?_)
 refine Z ?_
 refine Wd h rfl rfl ?_ ?_ <;> intro _ h
 refine Z ?_
 exact J fun g => ih_dH _ _ h g _ _
 refine Z ?_
 cases h; exact Pq rfl rfl
 refine Z ?_
 cases h; exact Pq rfl rfl
theorem wS (a b i r) (h : dX a b i = some r) : qe a b i r := by
 refine dX.partial_correctness a b (fun i r => qe a b i r) (fun dX ih_dX i r h b0 b1 g H n hH => ?_) i r h
 refine Po rfl ?_
 refine Z ?_
 refine Wc h rfl rfl ?_ ?_ <;> intro _ h
 refine Z ?_
 refine cB rfl (by kernel_rfl) ?_
 refine Z ?_
 refine aA h rfl iS.1 dO.1 (fun _ => rfl) rfl rfl (fun t51 h => ?_)
 refine aR (d := (ai.enc t51)) rfl dO.1 rfl rfl ?_
 refine Z ?_
 refine aA h rfl iS.1 dO.1 (fun _ => rfl) rfl rfl (fun t56 h => ?_)
 refine aR (d := (ai.enc t56)) rfl dO.1 rfl rfl ?_
 refine bA (b := (!(decide (t51.A = t56.A) && (decide (t51.B = t56.B) && (decide (t51.AB = t56.AB) && (decide (t51.BA = t56.BA) && true)))))) h rfl (kW LE Nf rfl rfl rfl) rfl (fun _ => ⟨rfl, rfl⟩) ?_ ?_ <;> intro _ h
 refine Z ?_
 cases h; exact Pq rfl rfl
 refine Z ?_
 exact J fun g => ih_dX _ _ h b0 b1 g _ _ hH
 refine Z ?_
 cases h; exact Pq rfl rfl
theorem wT (nodes stmts tnexts stages groups pairs dets vars texts i r) (h : cU nodes stmts tnexts stages groups pairs dets vars texts i = some r) : qg nodes stmts tnexts stages groups pairs dets vars texts i r := by
 refine cU.partial_correctness nodes stmts tnexts stages groups pairs dets vars texts (fun i r => qg nodes stmts tnexts stages groups pairs dets vars texts i r) (fun cU ih_cU i r h w1 w2 w3 w4 w5 w6 w7 w8 w9 be0 L g H n hH => ?_) i r h
 refine Po rfl ?_
 refine Z ?_
 refine Wc h rfl rfl ?_ ?_ <;> intro _ h
 refine Z ?_
 refine bO h rfl Fm.1 BX.1 hH (j := 4) rfl rfl rfl (fun i13401 t165 h hl13401 hv13401 => ?_)
 refine cD rfl BX.1 hH (j := 4) rfl hl13401 rfl hv13401 rfl ?_
 refine Z ?_
 refine aA h rfl dr.1 bK.1 (fun _ => rfl) rfl rfl (fun t171 h => ?_)
 refine Z ?_
 refine Wd h rfl rfl ?_ ?_ <;> intro _ h
 refine Z ?_
 refine aA h rfl dr.1 bK.1 (fun _ => rfl) rfl rfl (fun t180 h => ?_)
 refine Z ?_
 refine Wd h rfl rfl ?_ ?_ <;> intro _ h
 refine Z ?_
 exact J fun g => ih_cU _ _ h w1 w2 w3 w4 w5 w6 w7 w8 w9 _ _ g _ _ hH
 refine Z ?_
 refine Pt rfl (Cr ?_)
 obtain rfl := si h
 exact prF (.inl rfl) (aS (.d (.bool false)) rfl (aJ)) ⟨w1, w2, w3, w4, w5, w6, w7, w8, w9, rfl, hH⟩
 refine Z ?_
 refine Pt rfl (Cr ?_)
 obtain rfl := si h
 exact prF (.inl rfl) (aS (.d (.bool false)) rfl (aJ)) ⟨w1, w2, w3, w4, w5, w6, w7, w8, w9, rfl, hH⟩
 refine Z ?_
 exact J fun g => xc _ _ _ _ _ _ _ _ _ _ _ h w1 w2 w3 w4 w5 w6 w7 w8 w9 _ _ g _ _ hH
theorem vK (nodes stmts tnexts stages groups pairs dets vars texts i r) (h : lY nodes stmts tnexts stages groups pairs dets vars texts i = some r) (w1 w2 w3 w4 w5 w6 w7 w8 w9 be0 L g H n) (hH : HP H n (.box be0 [w1, w2, w3, .nil, w4, .nil, w5, w6, w7, w8, .nil, w9, .nil, .nil, .nil, .nil, .nil] :: bS w1 nodes :: bT w2 stmts :: bU w3 tnexts :: cz w4 stages :: bw w5 groups :: bz w6 pairs :: bF w7 dets :: bV w8 vars :: bL w9 texts :: L)) : PAt C (aj Tryz.f28) (.a (.b (.a (.b (.b (.b (.b .o))))))) ⟨upd (upd g 0 (.pt be0 0)) 10 (.d (.int .i64 i)), H, n⟩ (cb C Tryz.f28 (fun rs H' n' => ∃ w'1 w'2 w'3 w'4 w'5 w'6 w'7 w'8 w'9 : AV, rs = [.d (.bool r.1)] ∧ HP H' n' (.box be0 [w'1, w'2, w'3, .nil, w'4, .nil, w'5, w'6, w'7, w'8, .nil, w'9, .nil, .nil, .nil, .nil, .nil] :: bS w'1 r.2.1 :: bT w'2 r.2.2.1 :: bU w'3 r.2.2.2.1 :: cz w'4 r.2.2.2.2.1 :: bw w'5 r.2.2.2.2.2.1 :: bz w'6 r.2.2.2.2.2.2.1 :: bF w'7 r.2.2.2.2.2.2.2.1 :: bV w'8 r.2.2.2.2.2.2.2.2.1 :: bL w'9 r.2.2.2.2.2.2.2.2.2 :: L))) := by
 refine Po rfl ?_
 refine Z ?_
 refine pf rfl Lt.1 rfl ?_
 refine Wc h rfl rfl ?_ ?_ <;> intro _ h
 refine Z ?_
 cases h
 refine Z ?_
 exact J fun g => vV _ _ _ _ _ _ _ _ _ _ _ h w1 w2 w3 w4 w5 w6 w7 w8 w9 _ _ g _ _ hH
theorem wU (nodes stmts tnexts groups pairs dets vars texts l Kind Name Ix At_Line At_Col full i r) (h : fX nodes stmts tnexts groups pairs dets vars texts l Kind Name Ix At_Line At_Col full i = some r) : kS l Kind Name Ix At_Line At_Col (.c0 nodes stmts tnexts groups pairs dets vars texts full i) r := sT l Kind Name Ix At_Line At_Col (.c0 nodes stmts tnexts groups pairs dets vars texts full i) r h
theorem Fg (tF a b t44F t45F t46 r) (h : iW tF a b t44F t45F t46 = some r) : ug tF t44F t45F (.c0 a b t46) r := AP tF t44F t45F (.c0 a b t46) r h
theorem CT (t l t56 t57 t58 r) (h : gd t l t56 t57 t58 = some r) : wn t l t56 t57 t58 r := by
 refine gd.partial_correctness t t56 t57 (fun l t58 r => wn t l t56 t57 t58 r) (fun gd ih_gd l t58 r h w1 be0 L g H n hH => ?_) l t58 r h
 refine Po rfl ?_
 refine Z ?_
 refine Wc h rfl rfl ?_ ?_ <;> intro _ h
 refine Z ?_
 refine aA h rfl fq.1 dB.1 (fun _ => rfl) rfl rfl (fun t60 h => ?_)
 refine aR (d := (aN.enc t60)) rfl dB.1 rfl rfl ?_
 refine aQ rfl uO hH (fun b13661 H' n' hH => ?_)
 refine ax (new := (aN.av t60)) rfl dB.1 hH (i := 0) rfl rfl rfl rfl rfl (Nat.le_of_ble_eq_true rfl) (fun H' hH => ?_)
 refine Z ?_
 refine cN (enc := Dat.str) (xs := [t60.Name]) [.d (.str t60.Name)] rfl bv.1 bM.1 mz ⟨by decide, Nat.le_of_ble_eq_true rfl⟩ zd9 (fun _ => rfl) (fun _ => rfl) rfl rfl hH (fun w13662 H' n' hH => ?_)
 refine bl (enc := Dat.str) h rfl bv.1 bM.1 gV (by decide) (fun _ => rfl) hH (j := 3) rfl rfl (aM hH (j := 0) rfl) (fun t66 w13663 H' n' h hH => ?_)
 refine Z ?_
 exact J fun g => ih_gd _ _ _ h w13663 _ _ g _ _ (hH.sl 4 [3, 0])
 refine Z ?_
 exact J fun g => D7 _ _ _ _ _ _ h w1 _ _ g _ _ (hH.sl 2 [1, 0])
theorem CU (text t8 r) (h : gi text t8 = some r) : ws text t8 r := by
 refine gi.partial_correctness text (fun t8 r => ws text t8 r) (fun gi ih_gi t8 r h g H n => ?_) t8 r h
 refine Po rfl ?_
 refine Z ?_
 refine Wc h rfl rfl ?_ ?_ <;> intro _ h
 refine Z ?_
 refine DJ (enc := Dat.str) h rfl II bM.1 rfl rfl rfl (fun t11 h => ?_)
 refine Z ?_
 refine Wc h rfl rfl ?_ ?_ <;> intro _ h
 refine Z ?_
 cases h; exact Pq rfl rfl
 refine Z ?_
 exact J fun g => ih_gi _ _ h g _ _
 refine Z ?_
 refine FC rfl LO.1 Nn rfl ?_
 refine Z ?_
 exact J fun g => D8 _ _ _ h g _ _
theorem E0 (s_ n_ r) (h : iY s_ n_ = some r) : yh s_ n_ r := by
 refine iY.partial_correctness s_ (fun n_ r => yh s_ n_ r) (fun iY ih_iY n_ r h g H n => ?_) n_ r h
 refine Po rfl ?_
 refine Z ?_
 refine du rfl (dsc ty9) rfl ?_
 refine Wc h rfl rfl ?_ ?_ <;> intro _ h
 refine Z ?_
 refine ir h rfl ty9 rfl rfl (fun t11 h => ?_)
 refine al h rfl NX (sc rfl (sn)) (fun y hy => FA _ y hy) (fun _ => rfl) (fun t12 h => ?_)
 revert h; cases t12 <;> intro h
 replace h := if0 h
 refine Z ?_
 cases h; exact Pq rfl rfl
 replace h := if1 h
 refine Z ?_
 exact J fun g => ih_iY _ _ h g _ _
 refine Z ?_
 cases h; exact Pq rfl rfl
theorem AI (s_F baseF under v i r) (h : iJ s_F baseF under v i = some r) : nX s_F baseF (.c0 under v i) r := vT s_F baseF (.c0 under v i) r h
end Go.Proofs.YtkmbagocakiefaaGreatDoor.Wb
namespace Go.Proofs.YtkmbagocakiefaaGreatDoor.Wb
open Go Go.Jv
set_option maxHeartbeats 4000000
open Go.Proofs
set_option maxHeartbeats 4000000
attribute [local irreducible] EW EX PAt con
theorem vh (s_ prefix_ r) (h : jq s_ prefix_ = some r) : aL C 72 [(.str s_), (.str prefix_)] = some [(.str r.1), (.bool r.2)] := by
 refine aB (bu _ _ rfl) Qd rfl (jmp 0 (.d (.str s_)) rfl (jmp 1 (.d (.str prefix_)) rfl ?_))
 refine Z ?_
 refine al h rfl O8 (sc rfl (sc rfl (sn))) (fun y hy => Ch _ _ y hy) (fun _ => rfl) (fun t8 h => ?_)
 refine Z ?_
 refine ub rfl rfl rfl ?_
 refine Z ?_
 cases h; exact Pq rfl rfl
theorem FW (s_ substr r) (h : vX s_ substr = some r) : aL C 97 [(.str s_), (.str substr)] = some [(.int .i64 r)] := by
 refine aB (bu _ _ rfl) QC rfl (jmp 0 (.d (.str s_)) rfl (jmp 1 (.d (.str substr)) rfl ?_))
 refine Z ?_
 refine du rfl (dsc ty9) rfl ?_
 refine Z ?_
 refine Wc h rfl rfl ?_ ?_ <;> intro _ h
 refine Z ?_
 cases h; exact Pq rfl rfl
 refine Z ?_
 refine Wc h rfl rfl ?_ ?_ <;> intro _ h
 refine Z ?_
 cases h; exact Pq rfl rfl
 refine Z ?_
 refine Wc h rfl rfl ?_ ?_ <;> intro _ h
 refine Z ?_
 refine ir h rfl ty9 rfl rfl (fun t29 h => ?_)
 refine al h rfl Oe (sc rfl (sc rfl (sn))) (fun y hy => Ci _ _ y hy) (fun _ => rfl) (fun t30 h => ?_)
 refine Z ?_
 cases h; exact Pq rfl rfl
 refine Z ?_
 refine du rfl (dsc ty9) rfl ?_
 refine Wc h rfl rfl ?_ ?_ <;> intro _ h
 refine Z ?_
 cases h; exact Pq rfl rfl
 refine Z ?_
 cases h
theorem zu (s_F : ah) (t16F : A3 (List ac)) (st : sD) (r : Int) (h : ee s_F t16F st = some r) : sa s_F t16F st r := by
 refine ee.partial_correctness s_F t16F (sa s_F t16F) (fun c_nodes_L1_run' ih_ st r h => ?_) st r h
 cases st with
 | c0 n_ t17 =>
  intro b0 g H n hH
  refine Po rfl ?_
  refine Z ?_
  refine Wc h rfl rfl ?_ ?_ <;> intro _ h
  refine Z ?_
  refine Fx (f := (eL ac.enc)) (w := t16F) h rfl BU kK.1 (.inr rfl) rfl (fun _ => rfl) (fun _ => rfl) (fun t19 h => ?_)
  refine Z ?_
  exact J fun g => ih_ (.c1 _ _ _ _ _) _ h b0 g _ _ hH
  refine Z ?_
  exact J fun g => E7 _ _ _ _ _ h g _ _
 | c1 n_ t17 t20 t21 t22 =>
  intro b0 g H n hH
  refine Po rfl ?_
  refine Z ?_
  refine Wc h rfl rfl ?_ ?_ <;> intro _ h
  refine Z ?_
  refine aA h rfl cf.1 bj.1 (fun _ => rfl) rfl rfl (fun t24 h => ?_)
  refine aR (d := (ac.enc t24)) rfl bj.1 rfl rfl ?_
  refine aQ rfl fM hH (fun b13682 H' n' hH => ?_)
  refine ax (new := (ac.av t24)) rfl bj.1 hH (i := 0) rfl rfl rfl rfl rfl (Nat.le_of_ble_eq_true rfl) (fun H' hH => ?_)
  refine Z ?_
  exact J fun g => ih_ (.c1 _ _ _ _ _) _ h b0 g _ _ (hH.sl 2 [1])
  refine Z ?_
  exact J fun g => ih_ (.c0 _ _) _ h b0 g _ _ hH
theorem B5 (e wanted j r) (h : gy e wanted j = some r) : uT e wanted j r := by
 refine gy.partial_correctness e (fun wanted j r => uT e wanted j r) (fun gy ih_gy wanted j r h g H n => ?_) wanted j r h
 refine Po rfl ?_
 refine Z ?_
 refine Wc h rfl rfl ?_ ?_ <;> intro _ h
 refine Z ?_
 refine aA h rfl dQ.1 bm.1 (fun _ => rfl) rfl rfl (fun t23 h => ?_)
 refine Z ?_
 refine al h rfl Kt (sc rfl (sn)) (fun y hy => uX _ y hy) (fun _ => rfl) (fun t26 h => ?_)
 refine Z ?_
 refine Wc h rfl rfl ?_ ?_ <;> intro _ h
 refine Z ?_
 cases h; exact Pq rfl rfl
 refine Z ?_
 refine Wc h rfl rfl ?_ ?_ <;> intro _ h
 refine Z ?_
 cases h; exact Pq rfl rfl
 refine Z ?_
 exact J fun g => ih_gy _ _ _ h g _ _
 refine Z ?_
 cases h; exact Pq rfl rfl
theorem sU (op t2 r) (h : sE op t2 = some r) (b0 g H n) (hH : HP H n [.box b0 [.d (.int .i64 t2.e0), .d (.int .i64 t2.e1)]]) : PAt C (aj Tryz.f75) (.a (.b (.a (.a (.b .o))))) ⟨upd (upd g 0 (.d (.int .i64 op))) 2 (.pt b0 0), H, n⟩ (aq C Tryz.f75 [((A2.enc (Dat.int .i64)) r)]) := by
 refine Z ?_
 refine al h rfl En (sc rfl (sn)) (fun y hy => mB _ y hy) (fun _ => rfl) (fun t11 h => ?_)
 refine iu (cs := [.d (.int .i64 t11), .d (.int .i64 0)]) rfl rC xW bZ.1 rfl ?_
 refine ax (new := [.d (.int .i64 t11), .d (.int .i64 0)]) rfl nU.1 hH (i := 0) rfl rfl rfl rfl rfl (Nat.le_of_ble_eq_true rfl) (fun H' hH => ?_)
 refine Z ?_
 refine Pt rfl (Cr ?_)
 obtain rfl := si h
 exact pdF (.inl rfl) (iI (.agg [.d (.int .i64 t11), .d (.int .i64 0)]) nU.1 hH (i := 0) rfl rfl rfl (aJ)) (FS.agg (FS.d (FS.d (FS.nil hH))) (fun _ hH => FS.nil hH))
theorem sV (op t2 r) (h : og op t2 = some r) (b0 g H n) (hH : HP H n [.box b0 [.d (.int .i64 t2.e0), .d (.int .i64 t2.e1)]]) : PAt C (aj Tryz.f75) (.b (.b (.b (.b (.a (.a (.b .o))))))) ⟨upd (upd g 0 (.d (.int .i64 op))) 2 (.pt b0 0), H, n⟩ (aq C Tryz.f75 [((A2.enc (Dat.int .i64)) r)]) := by
 refine Z ?_
 refine Wc h rfl rfl ?_ ?_ <;> intro _ h
 iterate 2 refine Zs ?_
 exact J fun g => nY _ _ h b0 g _ _ hH
 refine Z ?_
 refine Wc h rfl rfl ?_ ?_ <;> intro _ h
 iterate 2 refine Zs ?_
 exact J fun g => nY _ _ h b0 g _ _ hH
 refine Z ?_
 refine Wc h rfl rfl ?_ ?_ <;> intro _ h
 iterate 2 refine Zs ?_
 exact J fun g => nY _ _ h b0 g _ _ hH
 refine Z ?_
 refine al h rfl En (sc rfl (sn)) (fun y hy => mB _ y hy) (fun _ => rfl) (fun t34 h => ?_)
 refine Z ?_
 refine al h rfl En (sc rfl (sn)) (fun y hy => mB _ y hy) (fun _ => rfl) (fun t36 h => ?_)
 refine Z ?_
 refine iu (cs := [.d (.int .i64 t34), .d (.int .i64 (w64 (t36 + 1)))]) rfl rC xW bZ.1 rfl ?_
 refine ax (new := [.d (.int .i64 t34), .d (.int .i64 (w64 (t36 + 1)))]) rfl nU.1 hH (i := 0) rfl rfl rfl rfl rfl (Nat.le_of_ble_eq_true rfl) (fun H' hH => ?_)
 refine Z ?_
 refine Pt rfl (Cr ?_)
 obtain rfl := si h
 exact pdF (.inl rfl) (iI (.agg [.d (.int .i64 t34), .d (.int .i64 (w64 (t36 + 1)))]) nU.1 hH (i := 0) rfl rfl rfl (aJ)) (FS.agg (FS.d (FS.d (FS.nil hH))) (fun _ hH => FS.nil hH))
theorem GU (t n_ r) (h : pq t n_ = some r) (be0 H n L) (hH : HP H n (.box be0 (ab.av t) :: L)) : Raw C 62 [.pt be0 0, .agg (ae.av n_)] H n (fun rs H' n' => rs = [.d (.bool r)] ∧ HP H' n' (.box be0 (ab.av t) :: L)) := by
 refine fa Q3 rfl (jmp 0 (.pt be0 0) rfl (jmp 1 (.agg (ae.av n_)) rfl ?_))
 refine Z ?_
 refine cu (cs := (ae.av n_)) rfl bm.1 rfl rfl rfl hH (fun b13709 H' n' hH => ?_)
 refine Z ?_
 refine Wc h rfl rfl ?_ ?_ <;> intro _ h
 refine Z ?_
 refine Pt rfl (Cr ?_)
 obtain rfl := si h
 exact prF (.inl rfl) (aS (.d (.bool true)) rfl (aJ)) ⟨rfl, (hH.sl 2 [1])⟩
 refine Z ?_
 refine Wc h rfl rfl ?_ ?_ <;> intro _ h
 refine Z ?_
 refine al h rfl zc (sc rfl (sc rfl (sn))) (fun y hy => ls _ _ y hy) (fun _ => rfl) (fun t13 h => ?_)
 refine Z ?_
 refine Pt rfl (Cr ?_)
 obtain rfl := si h
 exact prF (.inl rfl) (aS (.d (.bool t13)) rfl (aJ)) ⟨rfl, (hH.sl 2 [1])⟩
 refine Z ?_
 refine Wc h rfl rfl ?_ ?_ <;> intro _ h
 iterate 4 refine Zs ?_
 exact J fun g => wx _ _ _ h b13709 _ _ g _ _ (hH.sl 2 [1, 0])
 refine Z ?_
 refine Wc h rfl rfl ?_ ?_ <;> intro _ h
 iterate 2 refine Zs ?_
 exact J fun g => wx _ _ _ h b13709 _ _ g _ _ (hH.sl 2 [1, 0])
 refine Z ?_
 refine Wc h rfl rfl ?_ ?_ <;> intro _ h
 refine Z ?_
 refine cB rfl (by kernel_rfl) ?_
 refine Z ?_
 refine al h rfl zc (sc rfl (sc rfl (sn))) (fun y hy => ls _ _ y hy) (fun _ => rfl) (fun t35 h => ?_)
 refine Z ?_
 refine Pt rfl (Cr ?_)
 obtain rfl := si h
 exact prF (.inl rfl) (aS (.d (.bool t35)) rfl (aJ)) ⟨rfl, (hH.sl 2 [1])⟩
 refine Z ?_
 refine Wc h rfl rfl ?_ ?_ <;> intro _ h
 refine Z ?_
 refine cB rfl (by kernel_rfl) ?_
 refine Z ?_
 refine al h rfl zc (sc rfl (sc rfl (sn))) (fun y hy => ls _ _ y hy) (fun _ => rfl) (fun t45 h => ?_)
 refine Z ?_
 refine Pt rfl (Cr ?_)
 obtain rfl := si h
 exact prF (.inl rfl) (aS (.d (.bool t45)) rfl (aJ)) ⟨rfl, (hH.sl 2 [1])⟩
 refine Z ?_
 refine Wc h rfl rfl ?_ ?_ <;> intro _ h
 refine Z ?_
 refine cB rfl (by kernel_rfl) ?_
 refine Z ?_
 refine al h rfl zc (sc rfl (sc rfl (sn))) (fun y hy => ls _ _ y hy) (fun _ => rfl) (fun t55 h => ?_)
 refine Z ?_
 refine Pt rfl (Cr ?_)
 obtain rfl := si h
 exact prF (.inl rfl) (aS (.d (.bool t55)) rfl (aJ)) ⟨rfl, (hH.sl 2 [1])⟩
 refine Z ?_
 refine Wc h rfl rfl ?_ ?_ <;> intro _ h
 refine Z ?_
 refine cB rfl (by kernel_rfl) ?_
 refine Z ?_
 refine al h rfl zc (sc rfl (sc rfl (sn))) (fun y hy => ls _ _ y hy) (fun _ => rfl) (fun t65 h => ?_)
 refine Z ?_
 refine Pt rfl (Cr ?_)
 obtain rfl := si h
 exact prF (.inl rfl) (aS (.d (.bool t65)) rfl (aJ)) ⟨rfl, (hH.sl 2 [1])⟩
 refine Z ?_
 refine Wc h rfl rfl ?_ ?_ <;> intro _ h
 refine Z ?_
 refine Pt rfl (Cr ?_)
 obtain rfl := si h
 exact prF (.inl rfl) (aS (.d (.bool false)) rfl (aJ)) ⟨rfl, (hH.sl 2 [1])⟩
 refine Z ?_
 refine Wb rfl rfl ?_
 refine Z ?_
 refine Pt rfl (Cr ?_)
 obtain rfl := si h
 exact prF (.inl rfl) (aS (.d (.bool (decide (n_.Val = 0)))) rfl (aJ)) ⟨rfl, (hH.sl 2 [1])⟩
theorem uq (stack op a b n_ r) (h : mr stack op a b n_ = some r) (w0 L g H n) (hH : HP H n (gw w0 stack :: L)) : PAt C (aj Tryz.f63) (.b (.b (.b .o))) ⟨upd (upd (upd (upd (upd g 0 (w0)) 1 (.d (.int .i64 op))) 6 (.d (.int .i64 a))) 7 (.d (.int .i64 b))) 8 (.d (.int .i64 n_)), H, n⟩ (cb C Tryz.f63 (fun rs H' n' => ∃ (w'0 : AV), rs = [w'0, .d (.bool r.2)] ∧ HP H' n' (gw w'0 r.1 :: L))) := by
 refine Z ?_
 refine al h rfl O1 (sc rfl (sc rfl (sc rfl (sn)))) (fun y hy => E8 _ _ _ y hy) (fun _ => rfl) (fun t36 h => ?_)
 refine Z ?_
 refine kV h rfl cp.1 bZ.1 hH (j := 0) rfl rfl iD (fun t39 w13719 H' n' h hH => ?_)
 refine Z ?_
 refine cN (enc := (Dat.int .i64)) (xs := [t36]) [.d (.int .i64 t36)] rfl cp.1 bZ.1 zi ⟨by decide, Nat.le_of_ble_eq_true rfl⟩ zd3 (fun _ => rfl) (fun _ => rfl) rfl rfl hH (fun w13720 H' n' hH => ?_)
 refine bl (enc := (Dat.int .i64)) h rfl cp.1 bZ.1 uN (by decide) (fun _ => rfl) hH (j := 1) rfl rfl (aM hH (j := 0) rfl) (fun t42 w13721 H' n' h hH => ?_)
 refine Z ?_
 refine Wb rfl rfl ?_
 refine Z ?_
 refine Pt rfl (Cr ?_)
 obtain rfl := si h
 exact prF (.inl rfl) (aS (w13721) rfl (aS (.d (.bool (!decide (t36 = 0)))) rfl (aJ))) ⟨w13721, rfl, (hH.sl 2 [0])⟩
theorem DM (t5F t6F t7 r) (h : jW t5F t6F t7 = some r) : rN t5F t6F (.c0 t7) r := zO t5F t6F (.c0 t7) r h
theorem Am (tF out t8F t9F t10 r) (h : dZ tF out t8F t9F t10 = some r) : nI tF t8F t9F (.c0 out t10) r := vH tF t8F t9F (.c0 out t10) r h
theorem DN (tF n_F i r) (h : lI tF n_F i = some r) : rP tF n_F (.c0 i) r := zH tF n_F (.c0 i) r h
theorem B6 (s_ i r) (h : gF s_ i = some r) : uC s_ i r := by
 refine gF.partial_correctness s_ (fun i r => uC s_ i r) (fun gF ih_gF i r h g H n => ?_) i r h
 refine Po rfl ?_
 refine Z ?_
 refine du rfl (dsc ty9) rfl ?_
 refine Wc h rfl rfl ?_ ?_ <;> intro _ h
 refine Z ?_
 refine ir h rfl ty9 rfl rfl (fun t12 h => ?_)
 refine al h rfl O2 (sc rfl (sn)) (fun y hy => Gi _ y hy) (fun _ => rfl) (fun t13 h => ?_)
 revert h; cases t13 <;> intro h
 replace h := if0 h
 refine Z ?_
 cases h; exact Pq rfl rfl
 replace h := if1 h
 refine Z ?_
 exact J fun g => ih_gF _ _ h g _ _
 refine Z ?_
 cases h; exact Pq rfl rfl
theorem wJ (wF : ByteArray) (baseF : Int) (gapsF : Bool) (st : px) (r : Int × Bool) (h : cT wF baseF gapsF st = some r) : oW wF baseF gapsF st r := by
 refine cT.partial_correctness wF baseF gapsF (oW wF baseF gapsF) (fun r2_digits_L1_run' ih_ st r h => ?_) st r h
 cases st with
 | c0 n_ i =>
  intro g H n
  refine Po rfl ?_
  refine Z ?_
  refine du rfl (dsc ty9) rfl ?_
  refine Wc h rfl rfl ?_ ?_ <;> intro _ h
  refine Z ?_
  refine ir h rfl ty9 rfl rfl (fun t19 h => ?_)
  refine Wc h rfl rfl ?_ ?_ <;> intro _ h
  refine Z ?_
  refine bA (b := (!gapsF)) h rfl (kC rfl rfl) rfl (fun _ => ⟨rfl, rfl⟩) ?_ ?_ <;> intro _ h
  refine Z ?_
  cases h; exact Pq rfl rfl
  refine Z ?_
  refine Wc h rfl rfl ?_ ?_ <;> intro _ h
  refine Z ?_
  cases h; exact Pq rfl rfl
  refine Z ?_
  refine du rfl (dsc ty9) rfl ?_
  refine Z ?_
  refine Wc h rfl rfl ?_ ?_ <;> intro _ h
  refine Z ?_
  cases h; exact Pq rfl rfl
  refine Z ?_
  refine ir h rfl ty9 rfl rfl (fun t38 h => ?_)
  refine Wc h rfl rfl ?_ ?_ <;> intro _ h
  refine Z ?_
  cases h; exact Pq rfl rfl
  iterate 4 refine Zs ?_
  exact J fun g => ih_ (.c1 _ _) _ h g _ _
  refine Z ?_
  refine ir h rfl ty9 rfl rfl (fun t43 h => ?_)
  refine Z ?_
  refine al h rfl Oa (sc rfl (sc rfl (sn))) (fun y hy => Gj _ _ y hy) (fun _ => rfl) (fun t45 h => ?_)
  refine Z ?_
  refine Wc h rfl rfl ?_ ?_ <;> intro _ h
  refine Z ?_
  cases h; exact Pq rfl rfl
  refine Z ?_
  refine Wc h rfl rfl ?_ ?_ <;> intro _ h
  iterate 3 refine Zs ?_
  exact J fun g => ih_ (.c1 _ _) _ h g _ _
  iterate 3 refine Zs ?_
  exact J fun g => ih_ (.c1 _ _) _ h g _ _
  refine Z ?_
  refine du rfl (dsc ty9) rfl (Wb rfl rfl ?_)
  refine Z ?_
  cases h; exact Pq rfl rfl
 | c1 n_ i =>
  intro g H n
  refine Z ?_
  exact J fun g => ih_ (.c0 _ _) _ h g _ _
theorem B7 (t l i r) (h : fE t l i = some r) : uG t l i r := by
 refine fE.partial_correctness t (fun l i r => uG t l i r) (fun fE ih_fE l i r h b0 w1 g H n hH => ?_) l i r h
 refine Po rfl ?_
 refine Z ?_
 refine Wc h rfl rfl ?_ ?_ <;> intro _ h
 refine Z ?_
 refine aA h rfl fq.1 dB.1 (fun _ => rfl) rfl rfl (fun t61 h => ?_)
 refine Z ?_
 refine cN (enc := Dat.str) (xs := [t61.Name]) [.d (.str t61.Name)] rfl bv.1 bM.1 mz ⟨by decide, Nat.le_of_ble_eq_true rfl⟩ zd9 (fun _ => rfl) (fun _ => rfl) rfl rfl hH (fun w14041 H' n' hH => ?_)
 refine bl (enc := Dat.str) h rfl bv.1 bM.1 gV (by decide) (fun _ => rfl) hH (j := 2) rfl rfl (aM hH (j := 0) rfl) (fun t65 w14042 H' n' h hH => ?_)
 refine Z ?_
 exact J fun g => ih_fE _ _ _ h b0 w14042 g _ _ (hH.sl 3 [2, 0])
 refine Z ?_
 exact J fun g => BQ _ _ _ _ h b0 w1 g _ _ hH
theorem ur (op r) (h : pP op = some r) (g H n) : PAt C (aj Tryz.f82) (.b (.b (.b (.b (.a (.a (.b .o))))))) ⟨upd g 0 (.d (.int .i64 op)), H, n⟩ (aq C Tryz.f82 [(.int .i64 r)]) := by
 refine Z ?_
 refine Wc h rfl rfl ?_ ?_ <;> intro _ h
 refine Z ?_
 refine Wc h rfl rfl ?_ ?_ <;> intro _ h
 refine Z ?_
 cases h; exact Pq rfl rfl
 iterate 2 refine Zs ?_
 exact J fun g => uM _ _ h g _ _
 iterate 2 refine Zs ?_
 exact J fun g => uM _ _ h g _ _
theorem qt (t n_ v r) (h : ov t n_ v = some r) (b0 b1 g H n) (hH : HP H n [.box b0 (ab.av t), .box b1 (ae.av n_)]) : PAt C (aj Tryz.f87) (.a (.b (.b (.b (.b (.b (.b (.b (.a (.b (.a (.b (.b .o))))))))))))) ⟨upd (upd (upd g 2 (.pt b0 0)) 3 (.pt b1 0)) 5 (.d (.int .i64 v)), H, n⟩ (aq C Tryz.f87 [(.int .i64 r)]) := by
 refine Z ?_
 refine Wc h rfl rfl ?_ ?_ <;> intro _ h
 refine Z ?_
 refine aF (v := .agg (ab.av t)) rfl bJ.1 hH (i := 0) rfl rfl rfl ?_
 refine Z ?_
 refine al h rfl Ky (sc rfl (sc rfl (sn))) (fun y hy => BR _ _ y hy) (fun _ => rfl) (fun t36 h => ?_)
 refine Wc h rfl rfl ?_ ?_ <;> intro _ h
 refine Z ?_
 cases h; exact Pq rfl rfl
 refine Z ?_
 cases h; exact Pq rfl rfl
 refine Z ?_
 cases h; exact Pq rfl rfl
theorem qu (t n_ v r) (h : ow t n_ v = some r) (b0 b1 g H n) (hH : HP H n [.box b0 (ab.av t), .box b1 (ae.av n_)]) : PAt C (aj Tryz.f87) (.a (.b (.b (.b (.b (.b (.b (.b (.b (.b (.a (.b (.a (.b (.b .o))))))))))))))) ⟨upd (upd (upd g 2 (.pt b0 0)) 3 (.pt b1 0)) 5 (.d (.int .i64 v)), H, n⟩ (aq C Tryz.f87 [(.int .i64 r)]) := by
 refine Z ?_
 refine Wc h rfl rfl ?_ ?_ <;> intro _ h
 refine Z ?_
 refine aF (v := .agg (ab.av t)) rfl bJ.1 hH (i := 0) rfl rfl rfl ?_
 refine Z ?_
 refine al h rfl Ky (sc rfl (sc rfl (sn))) (fun y hy => BR _ _ y hy) (fun _ => rfl) (fun t50 h => ?_)
 refine Wc h rfl rfl ?_ ?_ <;> intro _ h
 refine Z ?_
 cases h; exact Pq rfl rfl
 refine Z ?_
 cases h; exact Pq rfl rfl
 refine Z ?_
 cases h; exact Pq rfl rfl
theorem sW (op a b r) (h : oB op a b = some r) (g H n) : PAt C (aj Tryz.f88) (.b (.b (.b (.b (.b (.b (.a (.a (.b .o))))))))) ⟨upd (upd (upd g 0 (.d (.int .i64 op))) 1 (.d (.int .i64 a))) 2 (.d (.int .i64 b)), H, n⟩ (aq C Tryz.f88 [(.int .i64 r)]) := by
 refine Z ?_
 refine Wc h rfl rfl ?_ ?_ <;> intro _ h
 iterate 2 refine Zs ?_
 exact J fun g => tg _ _ _ h g _ _
 refine Z ?_
 refine Wc h rfl rfl ?_ ?_ <;> intro _ h
 iterate 2 refine Zs ?_
 exact J fun g => tg _ _ _ h g _ _
 refine Z ?_
 refine Wc h rfl rfl ?_ ?_ <;> intro _ h
 refine Z ?_
 refine Wc h rfl rfl ?_ ?_ <;> intro _ h
 refine Z ?_
 refine Wc h rfl rfl ?_ ?_ <;> intro _ h
 refine Z ?_
 refine Wc h rfl rfl ?_ ?_ <;> intro _ h
 refine Z ?_
 cases h; exact Pq rfl rfl
 refine Z ?_
 cases h; exact Pq rfl rfl
 refine Z ?_
 cases h; exact Pq rfl rfl
 iterate 2 refine Zs ?_
 exact J fun g => tq _ _ _ _ h g _ _
 iterate 2 refine Zs ?_
 exact J fun g => tq _ _ _ _ h g _ _
theorem tT (l r) (h : jZ l = some r) : aL C 53 [(.lst (l.map ac.enc))] = some [(.int .i64 r)] := by
 refine aB (bu _ _ rfl) PU rfl (jmp 0 (.d (.lst (l.map ac.enc))) rfl ?_)
 refine Z ?_
 exact J fun g => CS _ _ _ _ h g _ _
theorem Cy (eF i r) (h : jo eF i = some r) : qz eF (.c0 i) r := xU eF (.c0 i) r h
theorem Ao (eF tF l i r) (h : ec eF tF l i = some r) : nP eF tF (.c0 l i) r := vI eF tF (.c0 l i) r h
theorem kF (a b r) (h : iA a b = some r) : aL C 22 [(.lst (a.map ae.enc)), (.lst (b.map ae.enc))] = some [(.bool r)] := by
 refine aB (bu _ _ rfl) Pg rfl (jmp 0 (.d (.lst (a.map ae.enc))) rfl (jmp 1 (.d (.lst (b.map ae.enc))) rfl ?_))
 refine Z ?_
 refine Wd h rfl rfl ?_ ?_ <;> intro _ h
 refine Z ?_
 exact J fun g => xV _ _ _ _ h g _ _
 refine Z ?_
 cases h; exact Pq rfl rfl
theorem lM (a b r) (h : im a b = some r) : aL C 25 [(.lst (a.map Dat.str)), (.lst (b.map Dat.str))] = some [(.bool r)] := by
 refine aB (bu _ _ rfl) Pj rfl (jmp 0 (.d (.lst (a.map Dat.str))) rfl (jmp 1 (.d (.lst (b.map Dat.str))) rfl ?_))
 refine Z ?_
 refine Wd h rfl rfl ?_ ?_ <;> intro _ h
 refine Z ?_
 exact J fun g => vJ _ _ _ _ h g _ _
 refine Z ?_
 cases h; exact Pq rfl rfl
theorem wK (a b i r) (h : dY a b i = some r) : qf a b i r := by
 refine dY.partial_correctness a b (fun i r => qf a b i r) (fun dY ih_dY i r h b0 b1 g H n hH => ?_) i r h
 refine Po rfl ?_
 refine Z ?_
 refine Wc h rfl rfl ?_ ?_ <;> intro _ h
 refine Z ?_
 refine cB rfl (by kernel_rfl) ?_
 refine Z ?_
 refine aA h rfl dj.1 cq.1 (fun _ => rfl) rfl rfl (fun t33 h => ?_)
 refine aR (d := (ak.enc t33)) rfl cq.1 rfl rfl ?_
 refine Z ?_
 refine aA h rfl dj.1 cq.1 (fun _ => rfl) rfl rfl (fun t38 h => ?_)
 refine aR (d := (ak.enc t38)) rfl cq.1 rfl rfl ?_
 refine bA (b := (!(decide (t33.Name = t38.Name) && (decide (t33.Sort_ = t38.Sort_) && (decide (t33.Min = t38.Min) && (decide (t33.Amber = t38.Amber) && (decide (t33.Lead = t38.Lead) && true))))))) h rfl (kW LD Nd rfl rfl rfl) rfl (fun _ => ⟨rfl, rfl⟩) ?_ ?_ <;> intro _ h
 refine Z ?_
 cases h; exact Pq rfl rfl
 refine Z ?_
 exact J fun g => ih_dY _ _ h b0 b1 g _ _ hH
 refine Z ?_
 exact J fun g => wS _ _ _ _ h b0 b1 g _ _ hH
theorem wL (nodes stmts tnexts stages groups pairs dets vars texts i r) (h : nq nodes stmts tnexts stages groups pairs dets vars texts i = some r) (w1 w2 w3 w4 w5 w6 w7 w8 w9 be0 L g H n) (hH : HP H n (.box be0 [w1, w2, w3, .nil, w4, .nil, w5, w6, w7, w8, .nil, w9, .nil, .nil, .nil, .nil, .nil] :: bS w1 nodes :: bT w2 stmts :: bU w3 tnexts :: cz w4 stages :: bw w5 groups :: bz w6 pairs :: bF w7 dets :: bV w8 vars :: bL w9 texts :: L)) : PAt C (aj Tryz.f27) (.a (.b (.a (.b (.b (.b (.b .o))))))) ⟨upd (upd g 0 (.pt be0 0)) 9 (.d (.int .i64 i)), H, n⟩ (cb C Tryz.f27 (fun rs H' n' => ∃ w'1 w'2 w'3 w'4 w'5 w'6 w'7 w'8 w'9 : AV, rs = [.d (.bool r.1)] ∧ HP H' n' (.box be0 [w'1, w'2, w'3, .nil, w'4, .nil, w'5, w'6, w'7, w'8, .nil, w'9, .nil, .nil, .nil, .nil, .nil] :: bS w'1 r.2.1 :: bT w'2 r.2.2.1 :: bU w'3 r.2.2.2.1 :: cz w'4 r.2.2.2.2.1 :: bw w'5 r.2.2.2.2.2.1 :: bz w'6 r.2.2.2.2.2.2.1 :: bF w'7 r.2.2.2.2.2.2.2.1 :: bV w'8 r.2.2.2.2.2.2.2.2.1 :: bL w'9 r.2.2.2.2.2.2.2.2.2 :: L))) := by
 refine Po rfl ?_
 refine Z ?_
 refine pf rfl Lr.1 rfl ?_
 refine Wc h rfl rfl ?_ ?_ <;> intro _ h
 refine Z ?_
 cases h
 refine Z ?_
 exact J fun g => wT _ _ _ _ _ _ _ _ _ _ _ h w1 w2 w3 w4 w5 w6 w7 w8 w9 _ _ g _ _ hH
theorem vi (nodes stmts tnexts stages groups pairs dets vars texts i r) (h : cI nodes stmts tnexts stages groups pairs dets vars texts i = some r) : oN nodes stmts tnexts stages groups pairs dets vars texts i r := by
 refine cI.partial_correctness nodes stmts tnexts stages groups pairs dets vars texts (fun i r => oN nodes stmts tnexts stages groups pairs dets vars texts i r) (fun cI ih_cI i r h w1 w2 w3 w4 w5 w6 w7 w8 w9 be0 L g H n hH => ?_) i r h
 refine Po rfl ?_
 refine Z ?_
 refine Wc h rfl rfl ?_ ?_ <;> intro _ h
 refine Z ?_
 refine bO h rfl Fq.1 BW.1 hH (j := 8) rfl rfl rfl (fun i13418 t124 h hl13418 hv13418 => ?_)
 refine cD rfl BW.1 hH (j := 8) rfl hl13418 rfl hv13418 rfl ?_
 refine Z ?_
 refine aA h rfl fq.1 dB.1 (fun _ => rfl) rfl rfl (fun t130 h => ?_)
 refine Z ?_
 refine Wd h rfl rfl ?_ ?_ <;> intro _ h
 refine Z ?_
 refine aA h rfl fq.1 dB.1 (fun _ => rfl) rfl rfl (fun t139 h => ?_)
 refine Z ?_
 refine Wd h rfl rfl ?_ ?_ <;> intro _ h
 refine Z ?_
 exact J fun g => ih_cI _ _ h w1 w2 w3 w4 w5 w6 w7 w8 w9 _ _ g _ _ hH
 refine Z ?_
 refine Pt rfl (Cr ?_)
 obtain rfl := si h
 exact prF (.inl rfl) (aS (.d (.bool false)) rfl (aJ)) ⟨w1, w2, w3, w4, w5, w6, w7, w8, w9, rfl, hH⟩
 refine Z ?_
 refine Pt rfl (Cr ?_)
 obtain rfl := si h
 exact prF (.inl rfl) (aS (.d (.bool false)) rfl (aJ)) ⟨w1, w2, w3, w4, w5, w6, w7, w8, w9, rfl, hH⟩
 refine Z ?_
 exact J fun g => vK _ _ _ _ _ _ _ _ _ _ _ h w1 w2 w3 w4 w5 w6 w7 w8 w9 _ _ g _ _ hH
theorem mQ (nodes stmts tnexts groups pairs dets vars texts l r) (h : fO nodes stmts tnexts groups pairs dets vars texts l = some r) (be0 we1 we2 we3 we4 we5 we6 we7 we8 H n L) (hH : HP H n (.box be0 [we1, we2, we3, .nil, .nil, .nil, we4, we5, we6, we7, .nil, we8, .nil, .nil, .nil, .nil, .nil] :: bS we1 nodes :: bT we2 stmts :: bU we3 tnexts :: bw we4 groups :: bz we5 pairs :: bF we6 dets :: bV we7 vars :: bL we8 texts :: L)) : Raw C 13 [.pt be0 0, .d (.lst (l.map ac.enc))] H n (fun rs H' n' => ∃ w'0 w'2 w'3 w'4 w'5 w'6 w'7 w'8 w'9 : AV, rs = [w'0] ∧ HP H' n' (.imm w'0 ⟨105, 6⟩ (r.1.map ac.enc) :: .box be0 [w'2, w'3, w'4, .nil, .nil, .nil, w'5, w'6, w'7, w'8, .nil, w'9, .nil, .nil, .nil, .nil, .nil] :: bS w'2 r.2.1 :: bT w'3 r.2.2.1 :: bU w'4 r.2.2.2.1 :: bw w'5 r.2.2.2.2.1 :: bz w'6 r.2.2.2.2.2.1 :: bF w'7 r.2.2.2.2.2.2.1 :: bV w'8 r.2.2.2.2.2.2.2.1 :: bL w'9 r.2.2.2.2.2.2.2.2 :: L)) := by
 refine fa P6 rfl (jmp 0 (.pt be0 0) rfl (jmp 1 (.d (.lst (l.map ac.enc))) rfl ?_))
 refine Z ?_
 refine cr (cs := [.d (.int .i64 4444), .d (.str ⟨#[]⟩), .d (.int .i64 0), .nil, .d (.int .i64 0), .d (.int .i64 0)]) rfl fM xY rfl ?_
 refine aQ rfl fM hH (fun b13469 H' n' hH => ?_)
 refine ax (new := [.d (.int .i64 4444), .d (.str ⟨#[]⟩), .d (.int .i64 0), .nil, .d (.int .i64 0), .d (.int .i64 0)]) rfl bj.1 hH (i := 0) rfl rfl rfl rfl rfl (Nat.le_of_ble_eq_true rfl) (fun H' hH => ?_)
 refine Z ?_
 exact J fun g => wU _ _ _ _ _ _ _ _ _ _ _ _ _ _ _ _ _ h we1 we2 we3 we4 we5 we6 we7 we8 b13469 .nil _ _ g _ _ ((hH.addNil (z := ⟨105, 6⟩)).sl 11 [2, 3, 4, 5, 6, 7, 8, 9, 10, 1, 0])
theorem EB (t t14 t15 t16 r) (h : gx t t14 t15 t16 = some r) : Ag t t14 t15 t16 r := by
 refine gx.partial_correctness t t14 t15 (fun t16 r => Ag t t14 t15 t16 r) (fun gx ih_gx t16 r h b0 g H n hH => ?_) t16 r h
 refine Po rfl ?_
 refine Z ?_
 refine Wc h rfl rfl ?_ ?_ <;> intro _ h
 refine Z ?_
 refine aA h rfl dj.1 cq.1 (fun _ => rfl) rfl rfl (fun t18 h => ?_)
 refine aR (d := (ak.enc t18)) rfl cq.1 rfl rfl ?_
 refine aQ rfl pZ hH (fun b13625 H' n' hH => ?_)
 refine ax (new := (ak.av t18)) rfl cq.1 hH (i := 0) rfl rfl rfl rfl rfl (Nat.le_of_ble_eq_true rfl) (fun H' hH => ?_)
 refine Z ?_
 refine al h rfl kJ (sc rfl (sc rfl (sc rfl (sn)))) (fun y hy => gK _ _ _ y hy) (fun _ => rfl) (fun t22 h => ?_)
 revert h; cases t22 <;> intro h
 replace h := if0 h
 refine ba rfl rfl rfl ?_
 refine Z ?_
 cases h; exact Pq rfl rfl
 replace h := if1 h
 refine ba rfl rfl rfl ?_
 refine Z ?_
 refine al h rfl kJ (sc rfl (sc rfl (sc rfl (sn)))) (fun y hy => gK _ _ _ y hy) (fun _ => rfl) (fun t27 h => ?_)
 revert h; cases t27 <;> intro h
 replace h := if0 h
 refine ba rfl rfl rfl ?_
 refine Z ?_
 cases h; exact Pq rfl rfl
 replace h := if1 h
 refine ba rfl rfl rfl ?_
 refine Z ?_
 refine al h rfl kJ (sc rfl (sc rfl (sc rfl (sn)))) (fun y hy => gK _ _ _ y hy) (fun _ => rfl) (fun t33 h => ?_)
 revert h; cases t33 <;> intro h
 replace h := if0 h
 refine ba rfl rfl rfl ?_
 refine Z ?_
 cases h; exact Pq rfl rfl
 replace h := if1 h
 refine ba rfl rfl rfl ?_
 refine Z ?_
 refine al h rfl kJ (sc rfl (sc rfl (sc rfl (sn)))) (fun y hy => gK _ _ _ y hy) (fun _ => rfl) (fun t39 h => ?_)
 revert h; cases t39 <;> intro h
 replace h := if0 h
 refine ba rfl rfl rfl ?_
 refine Z ?_
 cases h; exact Pq rfl rfl
 replace h := if1 h
 refine ba rfl rfl rfl ?_
 refine Z ?_
 exact J fun g => ih_gx _ _ h b0 g _ _ (hH.sl 2 [1])
 refine Z ?_
 exact J fun g => Fg _ _ _ _ _ _ _ h b0 g _ _ hH
theorem Cz (t l t41 t42 t43 r) (h : ge t l t41 t42 t43 = some r) : wo t l t41 t42 t43 r := by
 refine ge.partial_correctness t t41 t42 (fun l t43 r => wo t l t41 t42 t43 r) (fun ge ih_ge l t43 r h w1 be0 L g H n hH => ?_) l t43 r h
 refine Po rfl ?_
 refine Z ?_
 refine Wc h rfl rfl ?_ ?_ <;> intro _ h
 refine Z ?_
 refine aA h rfl ej.1 df.1 (fun _ => rfl) rfl rfl (fun t45 h => ?_)
 refine aR (d := (aE.enc t45)) rfl df.1 rfl rfl ?_
 refine aQ rfl uP hH (fun b13658 H' n' hH => ?_)
 refine ax (new := (aE.av t45)) rfl df.1 hH (i := 0) rfl rfl rfl rfl rfl (Nat.le_of_ble_eq_true rfl) (fun H' hH => ?_)
 refine Z ?_
 refine cN (enc := Dat.str) (xs := [t45.Name]) [.d (.str t45.Name)] rfl bv.1 bM.1 mz ⟨by decide, Nat.le_of_ble_eq_true rfl⟩ zd9 (fun _ => rfl) (fun _ => rfl) rfl rfl hH (fun w13659 H' n' hH => ?_)
 refine bl (enc := Dat.str) h rfl bv.1 bM.1 gV (by decide) (fun _ => rfl) hH (j := 3) rfl rfl (aM hH (j := 0) rfl) (fun t51 w13660 H' n' h hH => ?_)
 refine Z ?_
 exact J fun g => ih_ge _ _ _ h w13660 _ _ g _ _ (hH.sl 4 [3, 0])
 refine Z ?_
 exact J fun g => CT _ _ _ _ _ _ h w1 _ _ g _ _ hH
end Go.Proofs.YtkmbagocakiefaaGreatDoor.Wb
