/- The abstract machine computes these functions. Printed by decomp.py. -/
import Derived.Test.YtkmbagocakiefaaGreatDoorD2
import Derived.Test.YtkmbagocakiefaaGreatDoorW1
import Derived.Test.YtkmbagocakiefaaGreatDoorW2
import Derived.Test.YtkmbagocakiefaaGreatDoorW4
import Derived.Test.YtkmbagocakiefaaGreatDoorW5
import Derived.Test.YtkmbagocakiefaaGreatDoorW3
namespace Go.Proofs.YtkmbagocakiefaaGreatDoor.Wb
open Go Go.Jv
set_option maxHeartbeats 4000000
open Go.Proofs
set_option maxHeartbeats 4000000
attribute [local irreducible] EW EX PAt con
theorem uz (typF : Int) (tF : ab) (t33F : List ae) (t34F : Int) (st : nh) (r : Bool) (h : aO typF tF t33F t34F st = some r) : nf typF tF t33F t34F st r := by
 refine aO.partial_correctness typF tF t33F t34F (nf typF tF t33F t34F) (fun c_SoundExpr_L1_run' ih_ st r h => ?_) st r h
 cases st with
 | c0 stack t35 =>
  intro b0 w1 g H n hH
  refine Po rfl ?_
  refine Z ?_
  refine Wc h rfl rfl ?_ ?_ <;> intro _ h
  refine Z ?_
  refine aA h rfl dQ.1 bm.1 (fun _ => rfl) rfl rfl (fun t37 h => ?_)
  refine aR (d := (ae.enc t37)) rfl bm.1 rfl rfl ?_
  refine aQ rfl dE hH (fun b13737 H' n' hH => ?_)
  refine ax (new := (ae.av t37)) rfl bm.1 hH (i := 0) rfl rfl rfl rfl rfl (Nat.le_of_ble_eq_true rfl) (fun H' hH => ?_)
  refine Z ?_
  refine Wd h rfl rfl ?_ ?_ <;> intro _ h
  refine Z ?_
  refine aF (v := .agg (bd.av t37.At)) rfl tv.1 hH (i := 0) rfl rfl rfl (cr (cs := [.d (.int .i64 0), .d (.int .i64 0)]) rfl IR Fu rfl ?_)
  refine bA (b := (!(decide (t37.At.Line = 0) && (decide (t37.At.Col = 0) && true)))) h rfl (kW xX BV rfl rfl rfl) rfl (fun _ => ⟨rfl, rfl⟩) ?_ ?_ <;> intro _ h
  refine Z ?_
  cases h; exact Pq rfl rfl
  refine Z ?_
  refine aF (v := .agg (ae.av t37)) rfl bm.1 hH (i := 0) rfl rfl rfl ?_
  refine fw [.pt b0 0, .agg (ae.av t37)] h rfl rfl NR rfl (fun y hy => GU _ _ y hy b0 _ _ ([.box b13737 (ae.av t37), gw w1 stack]) (hH.sl 3 [1, 0, 2])) (fun t50 rs H' n' h hP => ?_)
  obtain ⟨rfl, hH⟩ := hP
  refine bA (b := (!t50)) h rfl (kC rfl rfl) rfl (fun _ => ⟨rfl, rfl⟩) ?_ ?_ <;> intro _ h
  refine Z ?_
  cases h; exact Pq rfl rfl
  refine Z ?_
  refine Wc h rfl rfl ?_ ?_ <;> intro _ h
  iterate 4 refine Zs ?_
  exact J fun g => ih_ (.c1 _ _) _ h b0 w1 g _ _ (hH.sl 3 [0, 2])
  refine Z ?_
  refine Wc h rfl rfl ?_ ?_ <;> intro _ h
  iterate 4 refine Zs ?_
  exact J fun g => ih_ (.c1 _ _) _ h b0 w1 g _ _ (hH.sl 3 [0, 2])
  refine Z ?_
  refine Wc h rfl rfl ?_ ?_ <;> intro _ h
  iterate 4 refine Zs ?_
  exact J fun g => ih_ (.c1 _ _) _ h b0 w1 g _ _ (hH.sl 3 [0, 2])
  refine Z ?_
  refine Wc h rfl rfl ?_ ?_ <;> intro _ h
  iterate 4 refine Zs ?_
  exact J fun g => ih_ (.c1 _ _) _ h b0 w1 g _ _ (hH.sl 3 [0, 2])
  refine Z ?_
  refine Wc h rfl rfl ?_ ?_ <;> intro _ h
  iterate 2 refine Zs ?_
  exact J fun g => ih_ (.c1 _ _) _ h b0 w1 g _ _ (hH.sl 3 [0, 2])
  refine Z ?_
  refine Wc h rfl rfl ?_ ?_ <;> intro _ h
  iterate 4 refine Zs ?_
  exact J fun g => ih_ (.c2 _ _) _ h b0 w1 g _ _ (hH.sl 3 [0, 2])
  refine Z ?_
  refine Wc h rfl rfl ?_ ?_ <;> intro _ h
  iterate 4 refine Zs ?_
  exact J fun g => ih_ (.c2 _ _) _ h b0 w1 g _ _ (hH.sl 3 [0, 2])
  refine Z ?_
  refine Wc h rfl rfl ?_ ?_ <;> intro _ h
  iterate 4 refine Zs ?_
  exact J fun g => ih_ (.c2 _ _) _ h b0 w1 g _ _ (hH.sl 3 [0, 2])
  refine Z ?_
  refine Wc h rfl rfl ?_ ?_ <;> intro _ h
  iterate 2 refine Zs ?_
  exact J fun g => ih_ (.c2 _ _) _ h b0 w1 g _ _ (hH.sl 3 [0, 2])
  refine Z ?_
  refine fw [w1, .d (.int .i64 t37.Op)] h rfl rfl NS rfl (fun y hy => G1 _ _ y hy w1 _ _ ([.box b0 (ab.av tF), .box b13737 (ae.av t37)]) (hH.sl 3 [2, 0, 1])) (fun t59 rs H' n' h hP => ?_)
  obtain ⟨w12739_0, rfl, hH⟩ := hP
  refine Z ?_
  refine bA (b := t59.2) h rfl (fN rfl rfl) rfl (fun _ => ⟨rfl, rfl⟩) ?_ ?_ <;> intro _ h
  refine Zs ?_
  exact J fun g => ih_ (.c3 _ _ _) _ h b0 w12739_0 g _ _ (hH.sl 3 [1, 0])
  refine Zs ?_
  exact J fun g => ih_ (.c3 _ _ _) _ h b0 w12739_0 g _ _ (hH.sl 3 [1, 0])
  refine Z ?_
  cases h; exact Pq rfl rfl
  refine Z ?_
  refine bO h rfl cp.1 bZ.1 hH (j := 1) rfl rfl rfl (fun i12740 t83 h hl12740 hv12740 => ?_)
  refine cD rfl bZ.1 hH (j := 1) rfl hl12740 rfl hv12740 rfl ?_
  refine Z ?_
  refine Wb rfl rfl ?_
  refine Z ?_
  cases h; exact Pq rfl rfl
 | c1 stack t35 =>
  intro b0 w1 g H n hH
  refine Z ?_
  refine cN (enc := (Dat.int .i64)) (xs := [1]) [.d (.int .i64 1)] rfl cp.1 bZ.1 zi ⟨by decide, Nat.le_of_ble_eq_true rfl⟩ zd3 (fun _ => rfl) (fun _ => rfl) rfl rfl hH (fun w13741 H' n' hH => ?_)
  refine bl (enc := (Dat.int .i64)) h rfl cp.1 bZ.1 uN (by decide) (fun _ => rfl) hH (j := 2) rfl rfl (aM hH (j := 0) rfl) (fun t72 w13742 H' n' h hH => ?_)
  refine Zs ?_
  exact J fun g => ih_ (.c4 _ _) _ h b0 w13742 g _ _ (hH.sl 3 [2, 0])
 | c2 stack t35 =>
  intro b0 w1 g H n hH
  refine Z ?_
  refine cN (enc := (Dat.int .i64)) (xs := [2]) [.d (.int .i64 2)] rfl cp.1 bZ.1 zi ⟨by decide, Nat.le_of_ble_eq_true rfl⟩ zd3 (fun _ => rfl) (fun _ => rfl) rfl rfl hH (fun w13743 H' n' hH => ?_)
  refine bl (enc := (Dat.int .i64)) h rfl cp.1 bZ.1 uN (by decide) (fun _ => rfl) hH (j := 2) rfl rfl (aM hH (j := 0) rfl) (fun t80 w13744 H' n' h hH => ?_)
  refine Zs ?_
  exact J fun g => ih_ (.c4 _ _) _ h b0 w13744 g _ _ (hH.sl 3 [2, 0])
 | c3 stack ok t35 =>
  intro b0 w1 g H n hH
  refine Z ?_
  refine bA (b := (!ok)) h rfl (kC rfl rfl) rfl (fun _ => ⟨rfl, rfl⟩) ?_ ?_ <;> intro _ h
  refine Z ?_
  cases h; exact Pq rfl rfl
  iterate 3 refine Zs ?_
  exact J fun g => ih_ (.c4 _ _) _ h b0 w1 g _ _ hH
 | c4 stack t35 =>
  intro b0 w1 g H n hH
  refine Z ?_
  exact J fun g => ih_ (.c0 _ _) _ h b0 w1 g _ _ hH
theorem vt (t25F : List ah) (t26F : Int) (st : oj) (r : Bool) (h : bB t25F t26F st = some r) : nH t25F t26F st r := by
 refine bB.partial_correctness t25F t26F (nH t25F t26F) (fun c_writable_L2_run' ih_ st r h => ?_) st r h
 cases st with
 | c0 t27 =>
  intro g H n
  refine Po rfl ?_
  refine Z ?_
  refine Wc h rfl rfl ?_ ?_ <;> intro _ h
  refine Z ?_
  refine aA h rfl dr.1 bK.1 (fun _ => rfl) rfl rfl (fun t30 h => ?_)
  refine aR (d := (ah.enc t30)) rfl bK.1 rfl rfl ?_
  refine aQ rfl kf (HP.nil _ _) (fun b13792 H' n' hH => ?_)
  refine Z ?_
  refine ax (new := (ah.av t30)) rfl bK.1 hH (i := 0) rfl rfl rfl rfl rfl (Nat.le_of_ble_eq_true rfl) (fun H' hH => ?_)
  refine Z ?_
  refine Wd h rfl rfl ?_ ?_ <;> intro _ h
  refine Z ?_
  refine iu (cs := [.d (.lst (t30.Enter.map ac.enc)), .d (.lst (t30.During.map ac.enc)), .d (.lst (t30.Leave.map ac.enc))]) rfl GL BU kK.1 rfl ?_
  refine Z ?_
  exact J fun g => ih_ (.c1 _ _ _ _) _ h b13792 g _ _ hH
  refine Z ?_
  cases h; exact Pq rfl rfl
  refine Z ?_
  cases h; exact Pq rfl rfl
 | c1 s_ t27 t42 t43 =>
  intro b0 g H n hH
  refine Po rfl ?_
  refine Z ?_
  refine Wc h rfl rfl ?_ ?_ <;> intro _ h
  refine Z ?_
  refine Fx (f := (eL ac.enc)) (w := t42) h rfl BU kK.1 (.inr rfl) rfl (fun _ => rfl) (fun _ => rfl) (fun t45 h => ?_)
  refine Z ?_
  exact J fun g => ih_ (.c2 _ _ _ _ _ _ _) _ h b0 g _ _ hH
  refine Z ?_
  exact J fun g => ih_ (.c3 _ _ _ _) _ h g _ _
 | c2 s_ t27 t42 t43 t46 t47 t48 =>
  intro b0 g H n hH
  refine Po rfl ?_
  refine Z ?_
  refine Wc h rfl rfl ?_ ?_ <;> intro _ h
  refine Z ?_
  refine aA h rfl cf.1 bj.1 (fun _ => rfl) rfl rfl (fun t50 h => ?_)
  refine aR (d := (ac.enc t50)) rfl bj.1 rfl rfl ?_
  refine aQ rfl fM hH (fun b13793 H' n' hH => ?_)
  refine ax (new := (ac.av t50)) rfl bj.1 hH (i := 0) rfl rfl rfl rfl rfl (Nat.le_of_ble_eq_true rfl) (fun H' hH => ?_)
  refine Z ?_
  refine al h rfl Kj (sc rfl (sn)) (fun y hy => Bg _ y hy) (fun _ => rfl) (fun t54 h => ?_)
  revert h; cases t54 <;> intro h
  replace h := if0 h
  refine Z ?_
  exact J fun g => ih_ (.c2 _ _ _ _ _ _ _) _ h b0 g _ _ (hH.sl 2 [1])
  replace h := if1 h
  refine Z ?_
  cases h; exact Pq rfl rfl
  refine Z ?_
  exact J fun g => ih_ (.c1 _ _ _ _) _ h b0 g _ _ hH
 | c3 t27 t58 t59 t60 =>
  intro g H n
  refine Po rfl ?_
  refine Z ?_
  refine Wc h rfl rfl ?_ ?_ <;> intro _ h
  refine Z ?_
  refine aA h rfl ek.1 cZ.1 (fun _ => rfl) rfl rfl (fun t62 h => ?_)
  refine aR (d := (aw.enc t62)) rfl cZ.1 rfl rfl ?_
  refine aQ rfl mi (HP.nil _ _) (fun b13794 H' n' hH => ?_)
  refine ax (new := (aw.av t62)) rfl cZ.1 hH (i := 0) rfl rfl rfl rfl rfl (Nat.le_of_ble_eq_true rfl) (fun H' hH => ?_)
  refine Z ?_
  refine al h rfl Kj (sc rfl (sn)) (fun y hy => Bg _ y hy) (fun _ => rfl) (fun t66 h => ?_)
  revert h; cases t66 <;> intro h
  replace h := if0 h
  refine Z ?_
  exact J fun g => ih_ (.c3 _ _ _ _) _ h g _ _
  replace h := if1 h
  refine Z ?_
  cases h; exact Pq rfl rfl
  refine Z ?_
  exact J fun g => ih_ (.c0 _) _ h g _ _
theorem vu (tF : ab) (t9F : List ac) (t10F : Int) (st : oo) (r : List ac) (h : bq tF t9F t10F st = some r) : nJ tF t9F t10F st r := by
 refine bq.partial_correctness tF t9F t10F (nJ tF t9F t10F) (fun c_listBack_L1_run' ih_ st r h => ?_) st r h
 cases st with
 | c0 out t11 =>
  intro w1 be0 L g H n hH
  refine Po rfl ?_
  refine Z ?_
  refine Wc h rfl rfl ?_ ?_ <;> intro _ h
  refine Z ?_
  refine aA h rfl cf.1 bj.1 (fun _ => rfl) rfl rfl (fun t13 h => ?_)
  refine aR (d := (ac.enc t13)) rfl bj.1 rfl rfl ?_
  refine aQ rfl fM hH (fun b13840 H' n' hH => ?_)
  refine ax (new := (ac.av t13)) rfl bj.1 hH (i := 0) rfl rfl rfl rfl rfl (Nat.le_of_ble_eq_true rfl) (fun H' hH => ?_)
  refine Z ?_
  refine ct (pz := [(1, 4), (1, 5), (1, 7), (4, 7), (5, 7)]) rfl rfl (by kernel_rfl) (by kernel_rfl) ?_
  refine Z ?_
  have hHr := (hH.selG 3 [1, 0, 2] (by decide) (by decide) (gc rfl (gc rfl (gc rfl (gt rfl)))))
  refine uW (A0 := [.box be0 (ab.av tF)]) (A1 := []) (L := .box b13840 (ac.av t13) :: br w1 out :: L) (P := fun y rs As => ∃ (w'0 : AV), rs = [w'0] ∧ As = [iV w'0 y, .box be0 (ab.av tF)]) [.pt be0 0, .d (.lst (t13.Expr.map ae.enc))] h rfl rfl Kk rfl hHr (mcc (.pt (j := 0) rfl) (mcc (.d _) (mcn))) (cbb (mcc (.d _) (mcc (.d _) (mcc (.d _) (mcc (.d _) (mcc (.d _) (mcc (.d _) (mcc (.d _) (mcc (.d _) (mcc (.d _) (mcn)))))))))) (cbn)) (rcc (cc 0 rfl (dl)) (rcn)) rfl (fun y hy H n L' hH => (wc _ _ y hy be0 _ _ _ hH).to (fun rs H' n' ⟨w0, e, hp⟩ => ⟨_, ⟨w0, e, rfl⟩, hp⟩)) (by rintro _ _ _ ⟨_, rfl, rfl⟩ _ hi; simp only [List.mem_cons, List.not_mem_nil, or_false] at hi; subst hi; simp) (fun t20 rs As H' n12841 h hP hH hoff12841 hoffk12841 hn12841 => ?_)
  obtain ⟨w12841_0, rfl, rfl⟩ := hP
  clear hHr
  have hof12841_0 := hoffk12841.box (k := 0) rfl
  have hof12841_1 := hoffk12841.box (k := 1) rfl
  have hof12841_2 := hoffk12841.own (k := 2) rfl
  have hof12841 := hoff12841.lt
  clear hoff12841 hoffk12841
  refine bi (v := .agg [.d (.int .i64 t13.Kind), .d (.str ⟨#[]⟩), .d (.int .i64 0), w12841_0, .d (.int .i64 0), .d (.int .i64 0)]) (az) rfl (cy fM xY (by show er dD _ _ [(0, .d (.int .i64 t13.Kind)), (3, w12841_0)] = _; simp only [er, eH (hH.okOwn (j := 0) rfl)]; rfl)) ⟨rfl, rfl⟩ ?_
  refine uZ rfl fM hH (fun b13842 H' n12842 hH hoff12842 hn12842 => ?_)
  have hof12842_0 := hoff12842.own (k := 0) rfl
  have hof12842_1 := hoff12842.box (k := 1) rfl
  have hof12842_2 := hoff12842.box (k := 2) rfl
  have hof12842_3 := hoff12842.own (k := 3) rfl
  have hof12842 := hoff12842.2
  clear hoff12842
  refine bX (new := [.d (.int .i64 t13.Kind), .d (.str ⟨#[]⟩), .d (.int .i64 0), w12841_0, .d (.int .i64 0), .d (.int .i64 0)]) [.d (.int .i64 t13.Kind), .d (.str ⟨#[]⟩), .d (.int .i64 0), w12841_0, .d (.int .i64 0), .d (.int .i64 0)] rfl bj.1 hH (i := 0) rfl rfl rfl rfl (by simp only [List.all_cons, List.all_nil, (hH.okOwn (j := 1) rfl).1]; rfl) (Nat.le_of_ble_eq_true rfl) rfl (fun H' hH => ?_)
  refine xn (pk rfl rfl aG (pk rfl rfl (Cd hof12841_1) (pk rfl rfl nco (pk rfl rfl nco (pk rfl rfl HU (pkn)))))) ?_
  refine Z ?_
  refine Wc h rfl rfl ?_ ?_ <;> intro _ h
  refine Z ?_
  refine ct (pz := [(3, 5)]) rfl rfl (by kernel_rfl) (by kernel_rfl) ?_
  refine Z ?_
  refine bi (v := .pt be0 0) (az) rfl (dm rfl) ⟨rfl, rfl⟩ ?_
  refine Z ?_
  refine bQ (fv := fun v => .d (.ptr (aN.enc v).cells)) (az) h rfl (bR fq.1 dB.1 (fun _ => rfl) rfl rfl) ⟨rfl, rfl⟩ (fun t32 h => ?_)
  refine Z ?_
  refine bX (new := [.d (.str t32.Name)]) [.d (.int .i64 t13.Kind), .d (.str t32.Name), .d (.int .i64 0), w12841_0, .d (.int .i64 0), .d (.int .i64 0)] rfl bM.1 hH (i := 0) rfl rfl rfl rfl rfl (Nat.le_of_ble_eq_true rfl) rfl (fun H' hH => ?_)
  refine xn (pk rfl rfl aG (pkn)) ?_
  refine Zs ?_
  exact J fun g => ih_ (.c2 _ _ _ _ _ _ _ _) _ h w1 b13842 w12841_0 _ _ g _ _ (hH.sl 5 [2, 4, 0, 1])
  refine Z ?_
  refine Wc h rfl rfl ?_ ?_ <;> intro _ h
  iterate 4 refine Zs ?_
  exact J fun g => ih_ (.c1 _ _ _ _ _ _ _ _ _) _ h w1 b13840 b13842 w12841_0 _ _ g _ _ (hH.sl 5 [2, 4, 3, 0, 1])
  refine Z ?_
  refine Wc h rfl rfl ?_ ?_ <;> intro _ h
  iterate 4 refine Zs ?_
  exact J fun g => ih_ (.c1 _ _ _ _ _ _ _ _ _) _ h w1 b13840 b13842 w12841_0 _ _ g _ _ (hH.sl 5 [2, 4, 3, 0, 1])
  refine Z ?_
  refine Wc h rfl rfl ?_ ?_ <;> intro _ h
  iterate 2 refine Zs ?_
  exact J fun g => ih_ (.c1 _ _ _ _ _ _ _ _ _) _ h w1 b13840 b13842 w12841_0 _ _ g _ _ (hH.sl 5 [2, 4, 3, 0, 1])
  refine Z ?_
  refine Wc h rfl rfl ?_ ?_ <;> intro _ h
  refine Z ?_
  refine ct (pz := [(3, 5), (3, 9), (5, 9), (6, 9), (7, 9)]) rfl rfl (by kernel_rfl) (by kernel_rfl) ?_
  refine Z ?_
  refine bi (v := .pt be0 0) (az) rfl (dm rfl) ⟨rfl, rfl⟩ ?_
  refine Z ?_
  refine bQ (fv := fun v => .d (.ptr (Dat.str v).cells)) (az) h rfl (bR bv.1 bM.1 (fun _ => rfl) rfl rfl) ⟨rfl, rfl⟩ (fun t57 h => ?_)
  refine Z ?_
  refine bX (new := [.d (.int .i64 2)]) [.d (.int .i64 2), .d (.str ⟨#[]⟩), .d (.int .i64 0), w12841_0, .d (.int .i64 0), .d (.int .i64 0)] rfl bZ.1 hH (i := 0) rfl rfl rfl rfl rfl (Nat.le_of_ble_eq_true rfl) rfl (fun H' hH => ?_)
  refine Z ?_
  refine bX (new := [.d (.str t57)]) [.d (.int .i64 2), .d (.str t57), .d (.int .i64 0), w12841_0, .d (.int .i64 0), .d (.int .i64 0)] rfl bM.1 hH (i := 0) rfl rfl rfl rfl rfl (Nat.le_of_ble_eq_true rfl) rfl (fun H' hH => ?_)
  refine xn (pk rfl rfl aG (pk rfl rfl nco (pk rfl rfl nco (pk rfl rfl ao (pk rfl rfl ao (pkn)))))) ?_
  refine Zs ?_
  exact J fun g => ih_ (.c2 _ _ _ _ _ _ _ _) _ h w1 b13842 w12841_0 _ _ g _ _ (hH.sl 5 [2, 4, 0, 1])
  refine Z ?_
  refine Wc h rfl rfl ?_ ?_ <;> intro _ h
  refine Z ?_
  refine ct (pz := [(3, 5)]) rfl rfl (by kernel_rfl) (by kernel_rfl) ?_
  refine Z ?_
  refine bi (v := .pt be0 0) (az) rfl (dm rfl) ⟨rfl, rfl⟩ ?_
  refine Z ?_
  refine bQ (fv := fun v => .d (.ptr (Dat.str v).cells)) (az) h rfl (bR bv.1 bM.1 (fun _ => rfl) rfl rfl) ⟨rfl, rfl⟩ (fun t69 h => ?_)
  refine Z ?_
  refine bX (new := [.d (.str t69)]) [.d (.int .i64 t13.Kind), .d (.str t69), .d (.int .i64 0), w12841_0, .d (.int .i64 0), .d (.int .i64 0)] rfl bM.1 hH (i := 0) rfl rfl rfl rfl rfl (Nat.le_of_ble_eq_true rfl) rfl (fun H' hH => ?_)
  refine xn (pk rfl rfl aG (pkn)) ?_
  refine Zs ?_
  exact J fun g => ih_ (.c2 _ _ _ _ _ _ _ _) _ h w1 b13842 w12841_0 _ _ g _ _ (hH.sl 5 [2, 4, 0, 1])
  refine Z ?_
  refine Wc h rfl rfl ?_ ?_ <;> intro _ h
  refine Z ?_
  refine ct (pz := [(3, 5)]) rfl rfl (by kernel_rfl) (by kernel_rfl) ?_
  refine Z ?_
  refine bi (v := .pt be0 0) (az) rfl (dm rfl) ⟨rfl, rfl⟩ ?_
  refine Z ?_
  refine bQ (fv := fun v => .d (.ptr (aE.enc v).cells)) (az) h rfl (bR ej.1 df.1 (fun _ => rfl) rfl rfl) ⟨rfl, rfl⟩ (fun t80 h => ?_)
  refine Z ?_
  refine bX (new := [.d (.str t80.Name)]) [.d (.int .i64 t13.Kind), .d (.str t80.Name), .d (.int .i64 0), w12841_0, .d (.int .i64 0), .d (.int .i64 0)] rfl bM.1 hH (i := 0) rfl rfl rfl rfl rfl (Nat.le_of_ble_eq_true rfl) rfl (fun H' hH => ?_)
  refine xn (pk rfl rfl aG (pkn)) ?_
  refine Zs ?_
  exact J fun g => ih_ (.c2 _ _ _ _ _ _ _ _) _ h w1 b13842 w12841_0 _ _ g _ _ (hH.sl 5 [2, 4, 0, 1])
  iterate 3 refine Zs ?_
  exact J fun g => ih_ (.c2 _ _ _ _ _ _ _ _) _ h w1 b13842 w12841_0 _ _ g _ _ (hH.sl 5 [2, 4, 0, 1])
  refine Z ?_
  refine Pt rfl (Cr ?_)
  obtain rfl := si h
  exact prF (.inl rfl) (aS (w1) rfl (aJ)) ⟨w1, rfl, (hH.sl 2 [1, 0])⟩
 | c1 out s_ Kind Name Ix Expr At_Line At_Col t11 =>
  intro w1 b2 b3 w4 be0 L g H n hH
  refine ct (pz := [(3, 5)]) rfl rfl (by kernel_rfl) (by kernel_rfl) ?_
  refine Z ?_
  refine bi (v := .pt be0 0) (az) rfl (dm rfl) ⟨rfl, rfl⟩ ?_
  refine Z ?_
  refine bQ (fv := fun v => .d (.ptr (Dat.str v).cells)) (az) h rfl (bR bv.1 bM.1 (fun _ => rfl) rfl rfl) ⟨rfl, rfl⟩ (fun t46 h => ?_)
  refine Z ?_
  refine bX (new := [.d (.str t46)]) [.d (.int .i64 Kind), .d (.str t46), .d (.int .i64 Ix), w4, .d (.int .i64 At_Line), .d (.int .i64 At_Col)] rfl bM.1 hH (i := 3) rfl rfl rfl rfl rfl (Nat.le_of_ble_eq_true rfl) rfl (fun H' hH => ?_)
  refine xn (pk rfl rfl aG (pkn)) ?_
  refine Zs ?_
  exact J fun g => ih_ (.c2 _ _ _ _ _ _ _ _) _ h w1 b3 w4 _ _ g _ _ (hH.sl 5 [0, 1, 3, 4])
 | c2 out Kind Name Ix Expr At_Line At_Col t11 =>
  intro w1 b2 w3 be0 L g H n hH
  refine Z ?_
  refine aF (v := .agg [.d (.int .i64 Kind), .d (.str Name), .d (.int .i64 Ix), w3, .d (.int .i64 At_Line), .d (.int .i64 At_Col)]) rfl bj.1 hH (i := 2) rfl rfl rfl ?_
  refine de (enc := ac.enc) (e := (⟨Kind, Name, Ix, Expr, (⟨At_Line, At_Col⟩ : bd)⟩ : ac)) (.agg [.d (.int .i64 Kind), .d (.str Name), .d (.int .i64 Ix), w3, .d (.int .i64 At_Line), .d (.int .i64 At_Col)]) rfl cf.1 bj.1 fM (by decide) Er (fun _ => rfl) (fun _ => rfl) rfl (FS.agg (FS.d (FS.d (FS.d (FS.own hH (j := 3) rfl (fun _ hH => FS.d (FS.d (FS.nil hH))))))) (fun _ hH => FS.nil hH)) (fun w13850 H' n' hH => ?_)
  refine bl (enc := ac.enc) h rfl cf.1 bj.1 vL (by decide) (fun _ => rfl) hH (j := 2) rfl rfl (aM hH (j := 0) rfl) (fun t87 w13851 H' n' h hH => ?_)
  refine Z ?_
  exact J fun g => ih_ (.c0 _ _) _ h w13851 _ _ g _ _ (hH.sl 5 [2, 0])
theorem zx (t Green Enter During Leave Nexts t49 t50 t51 r) (h : eh t Green Enter During Leave Nexts t49 t50 t51 = some r) : rO t Green Enter During Leave Nexts t49 t50 t51 r := by
 refine eh.partial_correctness t Green Enter During Leave t49 t50 (fun Nexts t51 r => rO t Green Enter During Leave Nexts t49 t50 t51 r) (fun eh ih_eh Nexts t51 r h b1 b2 w3 w4 w5 w6 w7 be0 L g H n hH => ?_) Nexts t51 r h
 refine Po rfl ?_
 refine Z ?_
 refine Wc h rfl rfl ?_ ?_ <;> intro _ h
 refine Z ?_
 refine aA h rfl ek.1 cZ.1 (fun _ => rfl) rfl rfl (fun t53 h => ?_)
 refine aR (d := (aw.enc t53)) rfl cZ.1 rfl rfl ?_
 refine aQ rfl mi hH (fun b13904 H' n' hH => ?_)
 refine ax (new := (aw.av t53)) rfl cZ.1 hH (i := 0) rfl rfl rfl rfl rfl (Nat.le_of_ble_eq_true rfl) (fun H' hH => ?_)
 refine Z ?_
 refine ct (pz := [(1, 5), (1, 7), (5, 7), (1, 8), (1, 10), (1, 13), (5, 13), (7, 13), (8, 13), (10, 13), (1, 14), (5, 14), (7, 14), (8, 14), (10, 14), (1, 16)]) rfl rfl (by kernel_rfl) (by kernel_rfl) ?_
 refine Z ?_
 refine bi (v := .pt be0 0) (az) rfl (dm rfl) ⟨rfl, rfl⟩ ?_
 refine Z ?_
 refine bQ (fv := fun v => .d (.ptr (ah.enc v).cells)) (az) h rfl (bR dr.1 bK.1 (fun _ => rfl) rfl rfl) ⟨rfl, rfl⟩ (fun t63 h => ?_)
 refine Z ?_
 have hHr := (hH.selG 9 [1, 0, 2, 3, 4, 5, 6, 7, 8] (by decide) (by decide) (gc rfl (gc rfl (gc rfl (gc rfl (gc rfl (gc rfl (gc rfl (gc rfl (gc rfl (gt rfl)))))))))))
 refine uW (A0 := [.box be0 (ab.av t)]) (A1 := []) (L := .box b13904 (aw.av t53) :: .box b1 [.nil, .nil, .nil, .nil, .nil] :: .box b2 [w3, w4, w5, w6, w7] :: fx w3 Green :: br w4 Enter :: br w5 During :: br w6 Leave :: mo w7 Nexts :: L) (P := fun y rs As => ∃ (w'0 : AV), rs = [w'0] ∧ As = [iV w'0 y, .box be0 (ab.av t)]) [.pt be0 0, .d (.lst (t53.When.map ae.enc))] h rfl rfl Kk rfl hHr (mcc (.pt (j := 0) rfl) (mcc (.d _) (mcn))) (cbb (mcc (.d _) (mcc (.d _) (mcc (.d _) (mcc (.d _) (mcc (.d _) (mcc (.d _) (mcc (.d _) (mcc (.d _) (mcc (.d _) (mcn)))))))))) (cbn)) (rcc (cc 0 rfl (dl)) (rcn)) rfl (fun y hy H n L' hH => (wc _ _ y hy be0 _ _ _ hH).to (fun rs H' n' ⟨w0, e, hp⟩ => ⟨_, ⟨w0, e, rfl⟩, hp⟩)) (by rintro _ _ _ ⟨_, rfl, rfl⟩ _ hi; simp only [List.mem_cons, List.not_mem_nil, or_false] at hi; subst hi; simp) (fun t69 rs As H' n12905 h hP hH hoff12905 hoffk12905 hn12905 => ?_)
 obtain ⟨w12905_0, rfl, rfl⟩ := hP
 clear hHr
 have hof12905_0 := hoffk12905.box (k := 0) rfl
 have hof12905_1 := hoffk12905.box (k := 1) rfl
 have hof12905_3 := hoffk12905.box (k := 3) rfl
 clear hoff12905 hoffk12905
 refine bi (v := .agg [.d (.str t63.Name), w12905_0, .d (.int .i64 0), .d (.int .i64 0)]) (az) rfl (cy zf DD (by show er dD _ _ [(0, .d (.str t63.Name)), (1, w12905_0)] = _; simp only [er, eH (hH.okOwn (j := 0) rfl)]; rfl)) ⟨rfl, rfl⟩ ?_
 refine IY (enc := da.enc) (e := (⟨t63.Name, t69, (⟨0, 0⟩ : bd)⟩ : da)) [.d (.str t63.Name)] [.d (.int .i64 0), .d (.int .i64 0)] (w12905_0) rfl me.1 mf.1 zf (by decide) KB (fun _ => rfl) (fun _ => rfl) rfl hH (FS.agg (FS.d (FS.own hH (j := 0) rfl (fun _ hH => FS.d (FS.d (FS.nil hH))))) (fun _ hH => FS.nil hH)) rfl rfl (fun w13906 i12906 H' n12906 hH hoff12906 hn12906 hi12906 => ?_)
 have hof12906_3 := hoff12906.box (k := 3) rfl
 clear hoff12906
 refine cG (enc := da.enc) (w13906) h rfl me.1 mf.1 Fi (by decide) (fun _ => rfl) hH (j := 10) rfl rfl rfl (aM hH (j := 0) rfl) (fun t72 w13907 i12907 H' n12907 h hH hoff12907 hn12907 hi12907 => ?_)
 clear hoff12907
 refine Z ?_
 refine bX (new := [w13907]) [w3, w4, w5, w6, w13907] rfl KA.1 hH (i := 6) rfl rfl (hH.okOwn (j := 0) rfl).2 rfl (by simp only [List.all_cons, List.all_nil, (hH.okOwn (j := 0) rfl).1]; rfl) (Nat.le_of_ble_eq_true rfl) rfl (fun H' hH => ?_)
 refine xn (pk rfl rfl aG (pk rfl rfl aG (pk rfl rfl aG (pk rfl rfl aY (pk rfl rfl aY (pk rfl rfl aG (pk rfl rfl aG (pk rfl rfl aG (pk rfl rfl ao (pk rfl rfl ao (pk rfl rfl (Cd hof12905_3) (pk rfl rfl (Cd hof12905_0) (pk rfl rfl (Cd hof12905_1) (pk rfl rfl ao (pk rfl rfl ao (pk rfl rfl (mn hof12906_3) (pkn))))))))))))))))) ?_
 refine Z ?_
 exact J fun g => ih_eh _ _ _ h b1 b2 w3 w4 w5 w6 w13907 _ _ g _ _ (hH.sl 11 [3, 5, 6, 7, 8, 9, 10, 0])
 refine Z ?_
 refine aF (v := .agg [w3, w4, w5, w6, w7]) rfl nV.1 hH (i := 2) rfl rfl rfl ?_
 refine ax (new := [w3, w4, w5, w6, w7]) rfl nV.1 hH (i := 1) rfl rfl rfl rfl (by simp only [List.all_cons, List.all_nil, (hH.okOwn (j := 3) rfl).1, (hH.okOwn (j := 4) rfl).1, (hH.okOwn (j := 5) rfl).1, (hH.okOwn (j := 6) rfl).1, (hH.okOwn (j := 7) rfl).1]; rfl) (Nat.le_of_ble_eq_true rfl) (fun H' hH => ?_)
 refine Z ?_
 refine Pt rfl (Cr ?_)
 obtain rfl := si h
 exact prF (.inl rfl) (iI (.agg [w3, w4, w5, w6, w7]) nV.1 hH (i := 1) rfl rfl rfl (aJ)) ⟨w3, w4, w5, w6, w7, rfl, (hH.sl 8 [3, 4, 5, 6, 7, 0])⟩
theorem H7 (t r) (h : zp t = some r) : aL C 37 [(aI.enc t)] = some [(.bool r)] := by
 refine aB (bu _ _ rfl) PD rfl (jmp 0 (.d (aI.enc t)) rfl ?_)
 refine Z ?_
 refine cu (cs := (aI.av t)) rfl my.1 rfl rfl rfl (HP.nil _ _) (fun b14001 H' n' hH => ?_)
 refine Z ?_
 refine Wc h rfl rfl ?_ ?_ <;> intro _ h
 refine Z ?_
 cases h; exact Pq rfl rfl
 refine Z ?_
 exact J fun g => DP _ _ _ _ h b14001 g _ _ hH
theorem rM (w base gaps r) (h : nC w base gaps = some r) : aL C 80 [(.str w), (.int .i64 base), (.bool gaps)] = some [(.int .i64 r.1), (.bool r.2)] := by
 refine aB (bu _ _ rfl) Ql rfl (jmp 0 (.d (.str w)) rfl (jmp 1 (.d (.int .i64 base)) rfl (jmp 2 (.d (.bool gaps)) rfl ?_)))
 refine Z ?_
 exact J fun g => Bh _ _ _ _ _ _ h g _ _
theorem Bn (t l i r) (h : fG t l i = some r) : uI t l i r := by
 refine fG.partial_correctness t (fun l i r => uI t l i r) (fun fG ih_fG l i r h b0 w1 g H n hH => ?_) l i r h
 refine Po rfl ?_
 refine Z ?_
 refine Wc h rfl rfl ?_ ?_ <;> intro _ h
 refine Z ?_
 refine aA h rfl dj.1 cq.1 (fun _ => rfl) rfl rfl (fun t21 h => ?_)
 refine Z ?_
 refine cN (enc := Dat.str) (xs := [t21.Name]) [.d (.str t21.Name)] rfl bv.1 bM.1 mz ⟨by decide, Nat.le_of_ble_eq_true rfl⟩ zd9 (fun _ => rfl) (fun _ => rfl) rfl rfl hH (fun w14035 H' n' hH => ?_)
 refine bl (enc := Dat.str) h rfl bv.1 bM.1 gV (by decide) (fun _ => rfl) hH (j := 2) rfl rfl (aM hH (j := 0) rfl) (fun t25 w14036 H' n' h hH => ?_)
 refine Z ?_
 exact J fun g => ih_fG _ _ _ h b0 w14036 g _ _ (hH.sl 3 [2, 0])
 refine Z ?_
 exact J fun g => Bi _ _ _ _ h b0 w1 g _ _ hH
theorem A6 (op r) (h : pB op = some r) : aL C 82 [(.int .i64 op)] = some [(.int .i64 r)] := by
 refine aB (bu _ _ rfl) Qn rfl (jmp 0 (.d (.int .i64 op)) rfl ?_)
 refine Z ?_
 refine Wc h rfl rfl ?_ ?_ <;> intro _ h
 refine Z ?_
 refine Wc h rfl rfl ?_ ?_ <;> intro _ h
 refine Z ?_
 cases h; exact Pq rfl rfl
 iterate 2 refine Zs ?_
 exact J fun g => uw _ _ h g _ _
 iterate 2 refine Zs ?_
 exact J fun g => uw _ _ h g _ _
theorem xp (eF : List ae) (tF : ab) (st : qD) (r : Int) (h : dn eF tF st = some r) : qy eF tF st r := by
 refine dn.partial_correctness eF tF (qy eF tF) (fun r5_typed_L1_run' ih_ st r h => ?_) st r h
 cases st with
 | c0 stack i =>
  intro b0 w1 g H n hH
  refine Po rfl ?_
  refine Z ?_
  refine Wc h rfl rfl ?_ ?_ <;> intro _ h
  refine Z ?_
  refine aA h rfl dQ.1 bm.1 (fun _ => rfl) rfl rfl (fun t20 h => ?_)
  refine aR (d := (ae.enc t20)) rfl bm.1 rfl rfl ?_
  refine aQ rfl dE hH (fun b14090 H' n' hH => ?_)
  refine ax (new := (ae.av t20)) rfl bm.1 hH (i := 0) rfl rfl rfl rfl rfl (Nat.le_of_ble_eq_true rfl) (fun H' hH => ?_)
  refine Z ?_
  refine Wd h rfl rfl ?_ ?_ <;> intro _ h
  refine Z ?_
  refine Wd h rfl rfl ?_ ?_ <;> intro _ h
  refine Z ?_
  refine Wd h rfl rfl ?_ ?_ <;> intro _ h
  refine Z ?_
  refine al h rfl Kv (sc rfl (sn)) (fun y hy => uK _ y hy) (fun _ => rfl) (fun t39 h => ?_)
  refine Wc h rfl rfl ?_ ?_ <;> intro _ h
  refine Z ?_
  refine aF (v := .agg (ab.av tF)) rfl bJ.1 hH (i := 1) rfl rfl rfl (aF (v := .agg (ae.av t20)) rfl bm.1 hH (i := 0) rfl rfl rfl ?_)
  refine al h rfl O7 (sc rfl (sc rfl (sn))) (fun y hy => H5 _ _ y hy) (fun _ => rfl) (fun t43 h => ?_)
  refine Z ?_
  refine cN (enc := (Dat.int .i64)) (xs := [t43]) [.d (.int .i64 t43)] rfl cp.1 bZ.1 zi ⟨by decide, Nat.le_of_ble_eq_true rfl⟩ zd3 (fun _ => rfl) (fun _ => rfl) rfl rfl hH (fun w14091 H' n' hH => ?_)
  refine bl (enc := (Dat.int .i64)) h rfl cp.1 bZ.1 uN (by decide) (fun _ => rfl) hH (j := 3) rfl rfl (aM hH (j := 0) rfl) (fun t47 w14092 H' n' h hH => ?_)
  refine Zs ?_
  exact J fun g => ih_ (.c1 _ _ _) _ h b0 w14092 g _ _ (hH.sl 4 [3, 0])
  refine Z ?_
  refine Wd h rfl rfl ?_ ?_ <;> intro _ h
  refine Z ?_
  refine al h rfl Kv (sc rfl (sn)) (fun y hy => uK _ y hy) (fun _ => rfl) (fun t53 h => ?_)
  refine Wc h rfl rfl ?_ ?_ <;> intro _ h
  refine Z ?_
  refine cB rfl (by kernel_rfl) ?_
  refine Z ?_
  refine bO h rfl cp.1 bZ.1 hH (j := 2) rfl rfl rfl (fun i13093 t60 h hl13093 hv13093 => ?_)
  refine cD rfl bZ.1 hH (j := 2) rfl hl13093 rfl hv13093 rfl ?_
  refine al h rfl Kw (sc rfl (sc rfl (sc rfl (sn)))) (fun y hy => xk _ _ _ y hy) (fun _ => rfl) (fun t62 h => ?_)
  refine Z ?_
  refine bO h rfl cp.1 bZ.1 hH (j := 2) rfl rfl rfl (fun i13094 t67 h hl13094 hv13094 => ?_)
  replace h := (ro _ _).symm.trans h
  refine tE (e' := t62) (d := (.int .i64 t62)) rfl bZ.1 hH (j := 2) rfl hl13094 rfl hv13094 rfl rfl rfl (Nat.le_of_ble_eq_true rfl) rfl (fun l13095 H' hq hl13095 hv13095 hH => ?_)
  rw [← hq] at h
  refine Zs ?_
  exact J fun g => ih_ (.c1 _ _ _) _ h b0 w1 g _ _ (hH.sl 3 [1, 2])
  refine Z ?_
  refine cB rfl (by kernel_rfl) ?_
  refine Z ?_
  refine bO h rfl cp.1 bZ.1 hH (j := 2) rfl rfl rfl (fun i13096 t73 h hl13096 hv13096 => ?_)
  refine cD rfl bZ.1 hH (j := 2) rfl hl13096 rfl hv13096 rfl ?_
  refine Z ?_
  refine bO h rfl cp.1 bZ.1 hH (j := 2) rfl rfl rfl (fun i13097 t78 h hl13097 hv13097 => ?_)
  refine cD rfl bZ.1 hH (j := 2) rfl hl13097 rfl hv13097 rfl ?_
  refine al h rfl Kw (sc rfl (sc rfl (sc rfl (sn)))) (fun y hy => xk _ _ _ y hy) (fun _ => rfl) (fun t80 h => ?_)
  refine Z ?_
  refine bO h rfl cp.1 bZ.1 hH (j := 2) rfl rfl rfl (fun i13098 t85 h hl13098 hv13098 => ?_)
  replace h := (ro _ _).symm.trans h
  refine tE (e' := t80) (d := (.int .i64 t80)) rfl bZ.1 hH (j := 2) rfl hl13098 rfl hv13098 rfl rfl rfl (Nat.le_of_ble_eq_true rfl) rfl (fun l13099 H' hq hl13099 hv13099 hH => ?_)
  rw [← hq] at h
  refine Z ?_
  refine kV h rfl cp.1 bZ.1 hH (j := 2) rfl rfl iD (fun t89 w14100 H' n' h hH => ?_)
  refine Zs ?_
  exact J fun g => ih_ (.c1 _ _ _) _ h b0 w14100 g _ _ (hH.sl 3 [1, 2])
  refine Z ?_
  cases h; exact Pq rfl rfl
  refine Z ?_
  cases h; exact Pq rfl rfl
  refine Z ?_
  cases h; exact Pq rfl rfl
  refine Z ?_
  cases h; exact Pq rfl rfl
  refine Z ?_
  refine bO h rfl cp.1 bZ.1 hH (j := 1) rfl rfl rfl (fun i13101 t93 h hl13101 hv13101 => ?_)
  refine cD rfl bZ.1 hH (j := 1) rfl hl13101 rfl hv13101 rfl ?_
  refine Z ?_
  cases h; exact Pq rfl rfl
 | c1 stack i typ =>
  intro b0 w1 g H n hH
  refine Z ?_
  refine Wc h rfl rfl ?_ ?_ <;> intro _ h
  refine Z ?_
  cases h; exact Pq rfl rfl
  refine Z ?_
  exact J fun g => ih_ (.c0 _ _) _ h b0 w1 g _ _ hH
end Go.Proofs.YtkmbagocakiefaaGreatDoor.Wb
namespace Go.Proofs.YtkmbagocakiefaaGreatDoor.Wb
open Go Go.Jv
set_option maxHeartbeats 4000000
open Go.Proofs
set_option maxHeartbeats 4000000
attribute [local irreducible] EW EX PAt con
theorem xo (l i r) (h : eu l i = some r) : qH l i r := by
 refine eu.partial_correctness l (fun i r => qH l i r) (fun eu ih_eu i r h g H n => ?_) i r h
 refine Po rfl ?_
 refine Z ?_
 refine Wc h rfl rfl ?_ ?_ <;> intro _ h
 refine Z ?_
 refine aA h rfl cf.1 bj.1 (fun _ => rfl) rfl rfl (fun t12 h => ?_)
 refine Z ?_
 refine al h rfl Km (sc rfl (sn)) (fun y hy => A5 _ y hy) (fun _ => rfl) (fun t15 h => ?_)
 revert h; cases t15 <;> intro h
 replace h := if0 h
 refine ba rfl rfl rfl ?_
 refine Z ?_
 cases h; exact Pq rfl rfl
 replace h := if1 h
 refine ba rfl rfl rfl ?_
 refine Z ?_
 exact J fun g => ih_eu _ _ h g _ _
 refine Z ?_
 cases h; exact Pq rfl rfl
theorem rJ (lF : List ac) (tF : ab) (st : kE) (r : List ac) (h : bc lF tF st = some r) : kD lF tF st r := by
 refine bc.partial_correctness lF tF (kD lF tF) (fun r5_writtenList_L1_run' ih_ st r h => ?_) st r h
 cases st with
 | c0 out i =>
  intro b0 w1 g H n hH
  refine Po rfl ?_
  refine Z ?_
  refine Wc h rfl rfl ?_ ?_ <;> intro _ h
  refine Z ?_
  refine ct (pz := [(2, 5), (4, 5), (2, 8), (4, 8), (5, 8), (2, 10), (4, 10), (5, 10), (2, 11), (4, 11), (2, 13), (4, 13), (5, 13), (8, 13), (10, 13), (11, 13)]) rfl rfl (by kernel_rfl) (by kernel_rfl) ?_
  refine Z ?_
  refine bQ (fv := fun v => .d (.ptr (ac.enc v).cells)) (az) h rfl (bR cf.1 bj.1 (fun _ => rfl) rfl rfl) ⟨rfl, rfl⟩ (fun t16 h => ?_)
  refine Z ?_
  refine bi (v := .agg (ab.av tF)) (.of [b0] []) rfl (dR bJ.1 hH (i := 0) rfl rfl rfl) ⟨rfl, rfl⟩ ?_
  refine Z ?_
  refine bQ (fv := fun v => .d (.ptr (ac.enc v).cells)) (az) h rfl (bR cf.1 bj.1 (fun _ => rfl) rfl rfl) ⟨rfl, rfl⟩ (fun t22 h => ?_)
  refine Z ?_
  refine HY (E := fun y => [(.lst (y.map ae.enc))]) (xs := [(ab.enc tF), (.lst (t22.Expr.map ae.enc))]) h rfl Kn rfl rfl (fun y hy => wd _ _ y hy) (fun t25 h => ?_)
  refine bi (v := .agg [.d (.int .i64 t16.Kind), .d (.str ⟨#[]⟩), .d (.int .i64 0), .d (.lst (t25.map ae.enc)), .d (.int .i64 0), .d (.int .i64 0)]) (az) rfl (cy fM xY rfl) ⟨rfl, rfl⟩ ?_
  refine uZ rfl fM hH (fun b14182 H' n13182 hH hoff13182 hn13182 => ?_)
  have hof13182_0 := hoff13182.box (k := 0) rfl
  have hof13182_1 := hoff13182.own (k := 1) rfl
  have hof13182 := hoff13182.2
  clear hoff13182
  refine bX (new := [.d (.int .i64 t16.Kind), .d (.str ⟨#[]⟩), .d (.int .i64 0), .d (.lst (t25.map ae.enc)), .d (.int .i64 0), .d (.int .i64 0)]) [.d (.int .i64 t16.Kind), .d (.str ⟨#[]⟩), .d (.int .i64 0), .d (.lst (t25.map ae.enc)), .d (.int .i64 0), .d (.int .i64 0)] rfl bj.1 hH (i := 0) rfl rfl rfl rfl rfl (Nat.le_of_ble_eq_true rfl) rfl (fun H' hH => ?_)
  refine xn (pk rfl rfl ao (pk rfl rfl ao (pk rfl rfl ao (pk rfl rfl ao (pk rfl rfl aY (pk rfl rfl ao (pk rfl rfl ao (pk rfl rfl aY (pk rfl rfl ao (pk rfl rfl ao (pk rfl rfl ao (pk rfl rfl ao (pk rfl rfl nco (pk rfl rfl ao (pk rfl rfl ao (pk rfl rfl ao (pkn))))))))))))))))) ?_
  refine Z ?_
  refine Wc h rfl rfl ?_ ?_ <;> intro _ h
  refine Z ?_
  refine ct (pz := [(1, 4), (1, 6)]) rfl rfl (by kernel_rfl) (by kernel_rfl) ?_
  refine Z ?_
  refine bQ (fv := fun v => .d (.ptr (ac.enc v).cells)) (az) h rfl (bR cf.1 bj.1 (fun _ => rfl) rfl rfl) ⟨rfl, rfl⟩ (fun t35 h => ?_)
  refine Z ?_
  refine bQ (fv := fun v => .d (.ptr (aN.enc v).cells)) (az) h rfl (bR fq.1 dB.1 (fun _ => rfl) rfl rfl) ⟨rfl, rfl⟩ (fun t38 h => ?_)
  refine Z ?_
  refine bX (new := [.d (.str t38.Name)]) [.d (.int .i64 t16.Kind), .d (.str t38.Name), .d (.int .i64 0), .d (.lst (t25.map ae.enc)), .d (.int .i64 0), .d (.int .i64 0)] rfl bM.1 hH (i := 0) rfl rfl rfl rfl rfl (Nat.le_of_ble_eq_true rfl) rfl (fun H' hH => ?_)
  refine xn (pk rfl rfl aY (pk rfl rfl aY (pkn))) ?_
  refine Zs ?_
  exact J fun g => ih_ (.c2 _ _ _) _ h b0 w1 b14182 g _ _ (hH.sl 3 [1, 2, 0])
  refine Z ?_
  refine Wc h rfl rfl ?_ ?_ <;> intro _ h
  iterate 4 refine Zs ?_
  exact J fun g => ih_ (.c1 _ _ _) _ h b0 w1 b14182 g _ _ (hH.sl 3 [1, 2, 0])
  refine Z ?_
  refine Wc h rfl rfl ?_ ?_ <;> intro _ h
  iterate 4 refine Zs ?_
  exact J fun g => ih_ (.c1 _ _ _) _ h b0 w1 b14182 g _ _ (hH.sl 3 [1, 2, 0])
  refine Z ?_
  refine Wc h rfl rfl ?_ ?_ <;> intro _ h
  iterate 2 refine Zs ?_
  exact J fun g => ih_ (.c1 _ _ _) _ h b0 w1 b14182 g _ _ (hH.sl 3 [1, 2, 0])
  refine Z ?_
  refine Wc h rfl rfl ?_ ?_ <;> intro _ h
  refine Z ?_
  refine ct (pz := [(1, 4), (1, 6)]) rfl rfl (by kernel_rfl) (by kernel_rfl) ?_
  refine Z ?_
  refine bQ (fv := fun v => .d (.ptr (ac.enc v).cells)) (az) h rfl (bR cf.1 bj.1 (fun _ => rfl) rfl rfl) ⟨rfl, rfl⟩ (fun t62 h => ?_)
  refine Z ?_
  refine bQ (fv := fun v => .d (.ptr (Dat.str v).cells)) (az) h rfl (bR bv.1 bM.1 (fun _ => rfl) rfl rfl) ⟨rfl, rfl⟩ (fun t65 h => ?_)
  refine Z ?_
  refine bX (new := [.d (.str t65)]) [.d (.int .i64 t16.Kind), .d (.str t65), .d (.int .i64 0), .d (.lst (t25.map ae.enc)), .d (.int .i64 0), .d (.int .i64 0)] rfl bM.1 hH (i := 0) rfl rfl rfl rfl rfl (Nat.le_of_ble_eq_true rfl) rfl (fun H' hH => ?_)
  refine xn (pk rfl rfl aY (pk rfl rfl aY (pkn))) ?_
  refine Zs ?_
  exact J fun g => ih_ (.c2 _ _ _) _ h b0 w1 b14182 g _ _ (hH.sl 3 [1, 2, 0])
  refine Z ?_
  refine Wc h rfl rfl ?_ ?_ <;> intro _ h
  refine Z ?_
  refine ct (pz := [(1, 4), (1, 6)]) rfl rfl (by kernel_rfl) (by kernel_rfl) ?_
  refine Z ?_
  refine bQ (fv := fun v => .d (.ptr (ac.enc v).cells)) (az) h rfl (bR cf.1 bj.1 (fun _ => rfl) rfl rfl) ⟨rfl, rfl⟩ (fun t74 h => ?_)
  refine Z ?_
  refine bQ (fv := fun v => .d (.ptr (Dat.str v).cells)) (az) h rfl (bR bv.1 bM.1 (fun _ => rfl) rfl rfl) ⟨rfl, rfl⟩ (fun t77 h => ?_)
  refine Z ?_
  refine bX (new := [.d (.str t77)]) [.d (.int .i64 t16.Kind), .d (.str t77), .d (.int .i64 0), .d (.lst (t25.map ae.enc)), .d (.int .i64 0), .d (.int .i64 0)] rfl bM.1 hH (i := 0) rfl rfl rfl rfl rfl (Nat.le_of_ble_eq_true rfl) rfl (fun H' hH => ?_)
  refine xn (pk rfl rfl aY (pk rfl rfl aY (pkn))) ?_
  refine Z ?_
  refine iO rfl bZ.1 hH (i := 0) rfl rfl rfl rfl rfl (Nat.le_of_ble_eq_true rfl) (fun H' hH => ?_)
  refine Zs ?_
  exact J fun g => ih_ (.c2 _ _ _) _ h b0 w1 b14182 g _ _ (hH.sl 3 [1, 2, 0])
  refine Z ?_
  refine Wc h rfl rfl ?_ ?_ <;> intro _ h
  refine Z ?_
  refine ct (pz := [(1, 4), (1, 6)]) rfl rfl (by kernel_rfl) (by kernel_rfl) ?_
  refine Z ?_
  refine bQ (fv := fun v => .d (.ptr (ac.enc v).cells)) (az) h rfl (bR cf.1 bj.1 (fun _ => rfl) rfl rfl) ⟨rfl, rfl⟩ (fun t87 h => ?_)
  refine Z ?_
  refine bQ (fv := fun v => .d (.ptr (aE.enc v).cells)) (az) h rfl (bR ej.1 df.1 (fun _ => rfl) rfl rfl) ⟨rfl, rfl⟩ (fun t90 h => ?_)
  refine Z ?_
  refine bX (new := [.d (.str t90.Name)]) [.d (.int .i64 t16.Kind), .d (.str t90.Name), .d (.int .i64 0), .d (.lst (t25.map ae.enc)), .d (.int .i64 0), .d (.int .i64 0)] rfl bM.1 hH (i := 0) rfl rfl rfl rfl rfl (Nat.le_of_ble_eq_true rfl) rfl (fun H' hH => ?_)
  refine xn (pk rfl rfl aY (pk rfl rfl aY (pkn))) ?_
  refine Zs ?_
  exact J fun g => ih_ (.c2 _ _ _) _ h b0 w1 b14182 g _ _ (hH.sl 3 [1, 2, 0])
  iterate 3 refine Zs ?_
  exact J fun g => ih_ (.c2 _ _ _) _ h b0 w1 b14182 g _ _ (hH.sl 3 [1, 2, 0])
  refine Z ?_
  refine Pt rfl (Cr ?_)
  obtain rfl := si h
  exact pdF (.inl rfl) (aS (w1) rfl (aJ)) (FS.own hH (j := 1) rfl (fun _ hH => FS.nil hH))
 | c1 out i s_ =>
  intro b0 w1 b2 g H n hH
  refine ct (pz := [(1, 4), (1, 6)]) rfl rfl (by kernel_rfl) (by kernel_rfl) ?_
  refine Z ?_
  refine bQ (fv := fun v => .d (.ptr (ac.enc v).cells)) (az) h rfl (bR cf.1 bj.1 (fun _ => rfl) rfl rfl) ⟨rfl, rfl⟩ (fun t50 h => ?_)
  refine Z ?_
  refine bQ (fv := fun v => .d (.ptr (Dat.str v).cells)) (az) h rfl (bR bv.1 bM.1 (fun _ => rfl) rfl rfl) ⟨rfl, rfl⟩ (fun t53 h => ?_)
  refine Z ?_
  refine bX (new := [.d (.str t53)]) [.d (.int .i64 s_.Kind), .d (.str t53), .d (.int .i64 s_.Ix), .d (.lst (s_.Expr.map ae.enc)), .d (.int .i64 s_.At.Line), .d (.int .i64 s_.At.Col)] rfl bM.1 hH (i := 2) rfl rfl rfl rfl rfl (Nat.le_of_ble_eq_true rfl) rfl (fun H' hH => ?_)
  refine xn (pk rfl rfl aY (pk rfl rfl aY (pkn))) ?_
  refine Zs ?_
  exact J fun g => ih_ (.c2 _ _ _) _ h b0 w1 b2 g _ _ hH
 | c2 out i s_ =>
  intro b0 w1 b2 g H n hH
  refine Z ?_
  refine aF (v := .agg (ac.av s_)) rfl bj.1 hH (i := 2) rfl rfl rfl ?_
  refine de (enc := ac.enc) (e := s_) (.agg (ac.av s_)) rfl cf.1 bj.1 fM (by decide) Er (fun _ => rfl) (fun _ => rfl) rfl (FS.agg (FS.d (FS.d (FS.d (FS.d (FS.d (FS.d (FS.nil hH))))))) (fun _ hH => FS.nil hH)) (fun w14189 H' n' hH => ?_)
  refine bl (enc := ac.enc) h rfl cf.1 bj.1 vL (by decide) (fun _ => rfl) hH (j := 2) rfl rfl (aM hH (j := 0) rfl) (fun t97 w14190 H' n' h hH => ?_)
  refine Z ?_
  exact J fun g => ih_ (.c0 _ _) _ h b0 w14190 g _ _ (hH.sl 4 [2, 0])
theorem ux (t s_ Green Enter During Leave Nexts i r) (h : cR t s_ Green Enter During Leave Nexts i = some r) : oc t s_ Green Enter During Leave Nexts i r := by
 refine cR.partial_correctness t s_ Green Enter During Leave (fun Nexts i r => oc t s_ Green Enter During Leave Nexts i r) (fun cR ih_cR Nexts i r h b0 b1 b2 b3 w4 w5 g H n hH => ?_) Nexts i r h
 refine Po rfl ?_
 refine Z ?_
 refine Wc h rfl rfl ?_ ?_ <;> intro _ h
 refine Z ?_
 refine ct (pz := [(1, 3), (1, 5), (3, 5), (1, 7), (3, 7), (1, 9), (3, 9), (1, 10), (1, 12), (1, 13), (3, 13), (5, 13), (7, 13), (9, 13), (10, 13), (12, 13), (1, 15), (3, 15), (5, 15), (7, 15), (9, 15), (10, 15), (12, 15), (13, 15), (1, 17), (3, 17), (5, 17), (7, 17), (9, 17), (10, 17), (12, 17), (13, 17), (1, 19), (3, 19), (5, 19), (7, 19), (9, 19), (10, 19), (12, 19), (13, 19), (1, 20), (3, 20), (5, 20), (7, 20), (9, 20), (10, 20), (12, 20), (1, 22)]) rfl rfl (by kernel_rfl) (by kernel_rfl) ?_
 refine Z ?_
 refine bQ (fv := fun v => .d (.ptr (aw.enc v).cells)) (az) h rfl (bR ek.1 cZ.1 (fun _ => rfl) rfl rfl) ⟨rfl, rfl⟩ (fun t63 h => ?_)
 refine Z ?_
 refine bQ (fv := fun v => .d (.ptr (ah.enc v).cells)) (az) h rfl (bR dr.1 bK.1 (fun _ => rfl) rfl rfl) ⟨rfl, rfl⟩ (fun t66 h => ?_)
 refine Z ?_
 refine bi (v := .agg (ab.av t)) (.of [b0] []) rfl (dR bJ.1 hH (i := 0) rfl rfl rfl) ⟨rfl, rfl⟩ ?_
 refine Z ?_
 refine bQ (fv := fun v => .d (.ptr (aw.enc v).cells)) (az) h rfl (bR ek.1 cZ.1 (fun _ => rfl) rfl rfl) ⟨rfl, rfl⟩ (fun t73 h => ?_)
 refine Z ?_
 refine HY (E := fun y => [(.lst (y.map ae.enc))]) (xs := [(ab.enc t), (.lst (t73.When.map ae.enc))]) h rfl Kn rfl rfl (fun y hy => wd _ _ y hy) (fun t76 h => ?_)
 refine bi (v := .agg [.d (.str t66.Name), .d (.lst (t76.map ae.enc)), .d (.int .i64 0), .d (.int .i64 0)]) (az) rfl (cy zf DD rfl) ⟨rfl, rfl⟩ ?_
 refine jK (enc := da.enc) (e := (⟨t66.Name, t76, (⟨0, 0⟩ : bd)⟩ : da)) (.agg [.d (.str t66.Name), .d (.lst (t76.map ae.enc)), .d (.int .i64 0), .d (.int .i64 0)]) rfl me.1 mf.1 zf (by decide) KB (fun _ => rfl) (fun _ => rfl) rfl (FS.agg (FS.d (FS.d (FS.d (FS.d (FS.nil hH))))) (fun _ hH => FS.nil hH)) rfl (fun w14226 i13226 H' n13226 hH hoff13226 hn13226 hi13226 => ?_)
 have hof13226_0 := hoff13226.box (k := 0) rfl
 have hof13226_1 := hoff13226.box (k := 1) rfl
 have hof13226_2 := hoff13226.box (k := 2) rfl
 have hof13226_3 := hoff13226.box (k := 3) rfl
 have hof13226_4 := hoff13226.own (k := 4) rfl
 have hof13226_5 := hoff13226.own (k := 5) rfl
 have hof13226 := hoff13226.2
 clear hoff13226
 refine cG (enc := da.enc) (w14226) h rfl me.1 mf.1 Fi (by decide) (fun _ => rfl) hH (j := 6) rfl rfl rfl (aM hH (j := 0) rfl) (fun t79 w14227 i13227 H' n13227 h hH hoff13227 hn13227 hi13227 => ?_)
 have hof13227_0 := hoff13227.own (k := 0) rfl
 have hof13227_1 := hoff13227.box (k := 1) rfl
 have hof13227_2 := hoff13227.box (k := 2) rfl
 have hof13227_3 := hoff13227.box (k := 3) rfl
 have hof13227_4 := hoff13227.box (k := 4) rfl
 have hof13227_5 := hoff13227.own (k := 5) rfl
 have hof13227 := hoff13227.2
 clear hoff13227
 refine Z ?_
 refine bX (new := [w14227]) [w4, .d (.lst (Enter.map ac.enc)), .d (.lst (During.map ac.enc)), .d (.lst (Leave.map ac.enc)), w14227] rfl KA.1 hH (i := 5) rfl rfl (hH.okOwn (j := 0) rfl).2 rfl (by simp only [List.all_cons, List.all_nil, (hH.okOwn (j := 0) rfl).1]; rfl) (Nat.le_of_ble_eq_true rfl) rfl (fun H' hH => ?_)
 refine xn (pk rfl rfl aG (pk rfl rfl aG (pk rfl rfl aG (pk rfl rfl aY (pk rfl rfl aY (pk rfl rfl aY (pk rfl rfl aY (pk rfl rfl aY (pk rfl rfl aY (pk rfl rfl aG (pk rfl rfl aG (pk rfl rfl aG (pk rfl rfl ao (pk rfl rfl ao (pk rfl rfl ao (pk rfl rfl ao (pk rfl rfl aG (pk rfl rfl aG (pk rfl rfl aG (pk rfl rfl ao (pk rfl rfl ao (pk rfl rfl ao (pk rfl rfl ao (pk rfl rfl aG (pk rfl rfl aY (pk rfl rfl aY (pk rfl rfl aY (pk rfl rfl ao (pk rfl rfl ao (pk rfl rfl ao (pk rfl rfl ao (pk rfl rfl aY (pk rfl rfl aY (pk rfl rfl aY (pk rfl rfl aY (pk rfl rfl ao (pk rfl rfl ao (pk rfl rfl ao (pk rfl rfl ao (pk rfl rfl aY (pk rfl rfl aY (pk rfl rfl aY (pk rfl rfl aY (pk rfl rfl ao (pk rfl rfl ao (pk rfl rfl ao (pk rfl rfl ao (pk rfl rfl nco (pkn))))))))))))))))))))))))))))))))))))))))))))))))) ?_
 refine Z ?_
 exact J fun g => ih_cR _ _ _ h b0 b1 b2 b3 w4 w14227 g _ _ (hH.sl 7 [2, 3, 4, 5, 6, 0])
 refine Z ?_
 refine aF (v := .agg [w4, .d (.lst (Enter.map ac.enc)), .d (.lst (During.map ac.enc)), .d (.lst (Leave.map ac.enc)), w5]) rfl nV.1 hH (i := 3) rfl rfl rfl ?_
 refine ax (new := [w4, .d (.lst (Enter.map ac.enc)), .d (.lst (During.map ac.enc)), .d (.lst (Leave.map ac.enc)), w5]) rfl nV.1 hH (i := 2) rfl rfl rfl rfl (by simp only [List.all_cons, List.all_nil, (hH.okOwn (j := 4) rfl).1, (hH.okOwn (j := 5) rfl).1]; rfl) (Nat.le_of_ble_eq_true rfl) (fun H' hH => ?_)
 refine Z ?_
 refine Pt rfl (Cr ?_)
 obtain rfl := si h
 exact pdF (.inl rfl) (iI (.agg [w4, .d (.lst (Enter.map ac.enc)), .d (.lst (During.map ac.enc)), .d (.lst (Leave.map ac.enc)), w5]) nV.1 hH (i := 2) rfl rfl rfl (aJ)) (FS.agg (FS.own hH (j := 4) rfl (fun _ hH => FS.d (FS.d (FS.d (FS.own hH (j := 5) rfl (fun _ hH => FS.nil hH)))))) (fun _ hH => FS.nil hH))
theorem gJ (a b r) (h : dW a b = some r) : aL C 46 [(.lst (a.map ac.enc)), (.lst (b.map ac.enc))] = some [(.bool r)] := by
 refine aB (bu _ _ rfl) PN rfl (jmp 0 (.d (.lst (a.map ac.enc))) rfl (jmp 1 (.d (.lst (b.map ac.enc))) rfl ?_))
 refine Z ?_
 refine Wd h rfl rfl ?_ ?_ <;> intro _ h
 refine Z ?_
 exact J fun g => xl _ _ _ _ h g _ _
 refine Z ?_
 cases h; exact Pq rfl rfl
theorem wN (nodes stmts tnexts stages groups pairs dets vars texts i r) (h : cW nodes stmts tnexts stages groups pairs dets vars texts i = some r) : qi nodes stmts tnexts stages groups pairs dets vars texts i r := by
 refine cW.partial_correctness nodes stmts tnexts stages groups pairs dets vars texts (fun i r => qi nodes stmts tnexts stages groups pairs dets vars texts i r) (fun cW ih_cW i r h w1 w2 w3 w4 w5 w6 w7 w8 w9 be0 L g H n hH => ?_) i r h
 refine Po rfl ?_
 refine Z ?_
 refine Wc h rfl rfl ?_ ?_ <;> intro _ h
 refine Z ?_
 refine bO h rfl Fk.1 kK.1 hH (j := 2) rfl rfl rfl (fun i13399 t63 h hl13399 hv13399 => ?_)
 refine cD rfl kK.1 hH (j := 2) rfl hl13399 rfl hv13399 rfl ?_
 refine Z ?_
 refine aA h rfl cf.1 bj.1 (fun _ => rfl) rfl rfl (fun t69 h => ?_)
 refine Z ?_
 refine Wd h rfl rfl ?_ ?_ <;> intro _ h
 refine Z ?_
 refine aA h rfl cf.1 bj.1 (fun _ => rfl) rfl rfl (fun t78 h => ?_)
 refine Z ?_
 refine Wd h rfl rfl ?_ ?_ <;> intro _ h
 refine Z ?_
 exact J fun g => ih_cW _ _ h w1 w2 w3 w4 w5 w6 w7 w8 w9 _ _ g _ _ hH
 refine Z ?_
 refine Pt rfl (Cr ?_)
 obtain rfl := si h
 exact prF (.inl rfl) (aS (.d (.bool false)) rfl (aJ)) ⟨w1, w2, w3, w4, w5, w6, w7, w8, w9, rfl, hH⟩
 refine Z ?_
 refine Pt rfl (Cr ?_)
 obtain rfl := si h
 exact prF (.inl rfl) (aS (.d (.bool false)) rfl (aJ)) ⟨w1, w2, w3, w4, w5, w6, w7, w8, w9, rfl, hH⟩
 refine Z ?_
 exact J fun g => wM _ _ _ _ _ _ _ _ _ _ _ h w1 w2 w3 w4 w5 w6 w7 w8 w9 _ _ g _ _ hH
theorem vr (nodes stmts tnexts stages groups pairs dets vars texts i r) (h : cK nodes stmts tnexts stages groups pairs dets vars texts i = some r) : oL nodes stmts tnexts stages groups pairs dets vars texts i r := by
 refine cK.partial_correctness nodes stmts tnexts stages groups pairs dets vars texts (fun i r => oL nodes stmts tnexts stages groups pairs dets vars texts i r) (fun cK ih_cK i r h w1 w2 w3 w4 w5 w6 w7 w8 w9 be0 L g H n hH => ?_) i r h
 refine Po rfl ?_
 refine Z ?_
 refine Wc h rfl rfl ?_ ?_ <;> intro _ h
 refine Z ?_
 refine bO h rfl Fn.1 Eo.1 hH (j := 5) rfl rfl rfl (fun i13415 t29 h hl13415 hv13415 => ?_)
 refine cD rfl Eo.1 hH (j := 5) rfl hl13415 rfl hv13415 rfl ?_
 refine Z ?_
 refine bO h rfl Fo.1 Ep.1 hH (j := 6) rfl rfl rfl (fun i13416 t36 h hl13416 hv13416 => ?_)
 refine cD rfl Ep.1 hH (j := 6) rfl hl13416 rfl hv13416 rfl ?_
 refine Z ?_
 refine aA h rfl dj.1 cq.1 (fun _ => rfl) rfl rfl (fun t42 h => ?_)
 refine Z ?_
 refine Wd h rfl rfl ?_ ?_ <;> intro _ h
 refine Z ?_
 refine aA h rfl dj.1 cq.1 (fun _ => rfl) rfl rfl (fun t51 h => ?_)
 refine Z ?_
 refine Wd h rfl rfl ?_ ?_ <;> intro _ h
 refine Z ?_
 refine aA h rfl iS.1 dO.1 (fun _ => rfl) rfl rfl (fun t61 h => ?_)
 refine Z ?_
 refine Wd h rfl rfl ?_ ?_ <;> intro _ h
 refine Z ?_
 refine aA h rfl iS.1 dO.1 (fun _ => rfl) rfl rfl (fun t71 h => ?_)
 refine Z ?_
 refine Wd h rfl rfl ?_ ?_ <;> intro _ h
 refine Z ?_
 exact J fun g => ih_cK _ _ h w1 w2 w3 w4 w5 w6 w7 w8 w9 _ _ g _ _ hH
 refine Z ?_
 refine Pt rfl (Cr ?_)
 obtain rfl := si h
 exact prF (.inl rfl) (aS (.d (.bool false)) rfl (aJ)) ⟨w1, w2, w3, w4, w5, w6, w7, w8, w9, rfl, hH⟩
 refine Z ?_
 refine Pt rfl (Cr ?_)
 obtain rfl := si h
 exact prF (.inl rfl) (aS (.d (.bool false)) rfl (aJ)) ⟨w1, w2, w3, w4, w5, w6, w7, w8, w9, rfl, hH⟩
 refine Z ?_
 refine Pt rfl (Cr ?_)
 obtain rfl := si h
 exact prF (.inl rfl) (aS (.d (.bool false)) rfl (aJ)) ⟨w1, w2, w3, w4, w5, w6, w7, w8, w9, rfl, hH⟩
 refine Z ?_
 refine Pt rfl (Cr ?_)
 obtain rfl := si h
 exact prF (.inl rfl) (aS (.d (.bool false)) rfl (aJ)) ⟨w1, w2, w3, w4, w5, w6, w7, w8, w9, rfl, hH⟩
 refine Z ?_
 exact J fun g => vq _ _ _ _ _ _ _ _ _ _ _ h w1 w2 w3 w4 w5 w6 w7 w8 w9 _ _ g _ _ hH
theorem wO (nodes stmts tnexts groups pairs dets vars texts tF NameF StartF Name1F Tables_GroupsF Tables_ConflictsF DetsF TimersF CountersF VarsF Start1F full i r) (h : dT nodes stmts tnexts groups pairs dets vars texts tF NameF StartF Name1F Tables_GroupsF Tables_ConflictsF DetsF TimersF CountersF VarsF Start1F full i = some r) : kT tF NameF StartF Name1F Tables_GroupsF Tables_ConflictsF DetsF TimersF CountersF VarsF Start1F (.c0 nodes stmts tnexts groups pairs dets vars texts full i) r := sS tF NameF StartF Name1F Tables_GroupsF Tables_ConflictsF DetsF TimersF CountersF VarsF Start1F (.c0 nodes stmts tnexts groups pairs dets vars texts full i) r h
theorem G2 (t r) (h : vW t = some r) (be0 H n L) (hH : HP H n (.box be0 (ab.av t) :: L)) : Raw C 47 [.pt be0 0] H n (fun rs H' n' => ∃ (w'0 : AV), rs = [w'0] ∧ HP H' n' (fx w'0 r :: .box be0 (ab.av t) :: L)) := by
 refine fa PO rfl (jmp 0 (.pt be0 0) rfl ?_)
 refine Z ?_
 refine ct (pz := [(3, 8), (4, 8)]) rfl rfl (by kernel_rfl) (by kernel_rfl) ?_
 refine Z ?_
 refine bi (v := .pt be0 0) (az) rfl (dm rfl) ⟨rfl, rfl⟩ ?_
 refine Z ?_
 have hH := hH.addNil (z := ⟨9, 1⟩)
 refine cG (enc := Dat.str) (.d (.lst (t.Timers.map Dat.str))) h rfl bv.1 bM.1 gV (by decide) (fun _ => rfl) hH (j := 0) rfl rfl rfl kw (fun t16 w13653 i12653 H' n12653 h hH hoff12653 hn12653 hi12653 => ?_)
 have hof12653_0 := hoff12653.box (k := 0) rfl
 have hof12653 := hoff12653.2
 clear hoff12653
 refine Z ?_
 refine bi (v := .pt be0 0) (az) rfl (dm rfl) ⟨rfl, rfl⟩ ?_
 refine Z ?_
 refine cG (enc := Dat.str) (.d (.lst (t.Counters.map Dat.str))) h rfl bv.1 bM.1 gV (by decide) (fun _ => rfl) hH (j := 0) rfl rfl rfl kw (fun t21 w13654 i12654 H' n12654 h hH hoff12654 hn12654 hi12654 => ?_)
 have hof12654_0 := hoff12654.box (k := 0) rfl
 have hof12654 := hoff12654.2
 clear hoff12654
 refine bi (v := w13654) (az) rfl (jS) ⟨rfl, rfl⟩ (xn (pk rfl rfl aG (pk rfl rfl nco (pkn))) ?_)
 refine Z ?_
 exact J fun g => CN _ _ _ _ _ _ h w13654 _ _ g _ _ (hH.sl 2 [1, 0])
theorem tV (e0_unitF : ByteArray) (e0_worthF : Int) (e1_unitF : ByteArray) (e1_worthF : Int) (e2_unitF : ByteArray) (e2_worthF : Int) (st : lU) (r : Int × Bool) (h : bo e0_unitF e0_worthF e1_unitF e1_worthF e2_unitF e2_worthF st = some r) : lS e0_unitF e0_worthF e1_unitF e1_worthF e2_unitF e2_worthF st r := by
 refine bo.partial_correctness e0_unitF e0_worthF e1_unitF e1_worthF e2_unitF e2_worthF (lS e0_unitF e0_worthF e1_unitF e1_worthF e2_unitF e2_worthF) (fun lex_duration_L1_run' ih_ st r h => ?_) st r h
 cases st with
 | c0 s_ v any t16 =>
  intro g H n
  refine Po rfl ?_
  refine Z ?_
  refine Wc h rfl rfl ?_ ?_ <;> intro _ h
  refine Z ?_
  refine IZ (f := fun v => [.d (.str v.unit), .d (.int .i64 v.worth)]) (w := (⟨(⟨e0_unitF, e0_worthF⟩ : bk), (⟨e1_unitF, e1_worthF⟩ : bk), (⟨e2_unitF, e2_worthF⟩ : bk)⟩ : (A3 bk))) h rfl IK Fv.1 rfl (fun _ => rfl) rfl (fun t18 h => ?_)
  refine aQ rfl zh (HP.nil _ _) (fun b13669 H' n' hH => ?_)
  refine ax (new := [.d (.str t18.unit), .d (.int .i64 t18.worth)]) rfl Fv.1 hH (i := 0) rfl rfl rfl rfl rfl (Nat.le_of_ble_eq_true rfl) (fun H' hH => ?_)
  refine Z ?_
  refine al h rfl O9 (sc rfl (sc rfl (sn))) (fun y hy => CO _ _ y hy) (fun _ => rfl) (fun t23 h => ?_)
  refine Z ?_
  refine bA (b := t23.2.2) h rfl (fN rfl rfl) rfl (fun _ => ⟨rfl, rfl⟩) ?_ ?_ <;> intro _ h
  refine Zs ?_
  exact J fun g => ih_ (.c1 _ _ _ _ _ _ _ _) _ h b13669 g _ _ hH
  refine Zs ?_
  exact J fun g => ih_ (.c1 _ _ _ _ _ _ _ _) _ h b13669 g _ _ hH
  refine Z ?_
  revert h; cases any <;> intro h
  replace h := if0 h
  refine Z ?_
  cases h; exact Pq rfl rfl
  replace h := if1 h
  refine Z ?_
  refine Wb rfl rfl ?_
  refine Z ?_
  cases h; exact Pq rfl rfl
 | c1 s_ v any u head rest ok t16 =>
  intro b0 g H n hH
  refine Z ?_
  refine bA (b := (!ok)) h rfl (kC rfl rfl) rfl (fun _ => ⟨rfl, rfl⟩) ?_ ?_ <;> intro _ h
  iterate 3 refine Zs ?_
  exact J fun g => ih_ (.c3 _ _ _ _) _ h g _ _
  refine Z ?_
  refine al h rfl HG (sc rfl (sc rfl (sc rfl (sn)))) (fun y hy => qw _ _ _ y hy) (fun _ => rfl) (fun t31 h => ?_)
  refine Z ?_
  refine bA (b := t31.2) h rfl (fN rfl rfl) rfl (fun _ => ⟨rfl, rfl⟩) ?_ ?_ <;> intro _ h
  refine Zs ?_
  exact J fun g => ih_ (.c2 _ _ _ _ _ _) _ h b0 g _ _ hH
  refine Zs ?_
  exact J fun g => ih_ (.c2 _ _ _ _ _ _) _ h b0 g _ _ hH
 | c2 v u rest ok n_ t16 =>
  intro b0 g H n hH
  refine Z ?_
  refine bA (b := (!ok)) h rfl (kC rfl rfl) rfl (fun _ => ⟨rfl, rfl⟩) ?_ ?_ <;> intro _ h
  refine Z ?_
  cases h; exact Pq rfl rfl
  iterate 4 refine Zs ?_
  exact J fun g => ih_ (.c3 _ _ _ _) _ h g _ _
 | c3 s_ v any t16 =>
  intro g H n
  refine Z ?_
  exact J fun g => ih_ (.c0 _ _ _ _) _ h g _ _
theorem Bl (stack t18F t19F t20 r) (h : gz stack t18F t19F t20 = some r) : pg t18F t19F (.c0 stack t20) r := wR t18F t19F (.c0 stack t20) r h
theorem zw (typF tF stack t33F t34F t35 r) (h : bN typF tF stack t33F t34F t35 = some r) : nf typF tF t33F t34F (.c0 stack t35) r := uz typF tF t33F t34F (.c0 stack t35) r h
theorem Aw (t25F t26F t27 r) (h : iK t25F t26F t27 = some r) : nH t25F t26F (.c0 t27) r := vt t25F t26F (.c0 t27) r h
theorem Ax (tF out t9F t10F t11 r) (h : eb tF out t9F t10F t11 = some r) : nJ tF t9F t10F (.c0 out t11) r := vu tF t9F t10F (.c0 out t11) r h
theorem uy (tF : ab) (s_F : ah) (EnterF : List ac) (DuringF : List ac) (LeaveF : List ac) (t27F : List ak) (t28F : Int) (st : nj) (r : (List ByteArray) × (List ac) × (List ac) × (List ac) × (List da)) (h : cP tF s_F EnterF DuringF LeaveF t27F t28F st = some r) : mU tF s_F EnterF DuringF LeaveF t27F t28F st r := by
 refine cP.partial_correctness tF s_F EnterF DuringF LeaveF t27F t28F (mU tF s_F EnterF DuringF LeaveF t27F t28F) (fun c_stageBack_L1_run' ih_ st r h => ?_) st r h
 cases st with
 | c0 Green t29 =>
  intro b1 b2 b3 w4 w5 w6 w7 be0 L g H n hH
  refine Po rfl ?_
  refine Z ?_
  refine Wc h rfl rfl ?_ ?_ <;> intro _ h
  refine Z ?_
  refine aA h rfl dj.1 cq.1 (fun _ => rfl) rfl rfl (fun t32 h => ?_)
  refine aR (d := (ak.enc t32)) rfl cq.1 rfl rfl ?_
  refine aQ rfl pZ hH (fun b13901 H' n' hH => ?_)
  refine Z ?_
  refine ax (new := (ak.av t32)) rfl cq.1 hH (i := 0) rfl rfl rfl rfl rfl (Nat.le_of_ble_eq_true rfl) (fun H' hH => ?_)
  refine Z ?_
  refine Et h rfl rfl rfl (fun t37 h => ?_)
  refine Z ?_
  refine Wc h rfl rfl ?_ ?_ <;> intro _ h
  refine Z ?_
  refine cN (enc := Dat.str) (xs := [t32.Name]) [.d (.str t32.Name)] rfl bv.1 bM.1 mz ⟨by decide, Nat.le_of_ble_eq_true rfl⟩ zd9 (fun _ => rfl) (fun _ => rfl) rfl rfl hH (fun w13902 H' n' hH => ?_)
  refine bl (enc := Dat.str) h rfl bv.1 bM.1 gV (by decide) (fun _ => rfl) hH (j := 6) rfl rfl (aM hH (j := 0) rfl) (fun t45 w13903 H' n' h hH => ?_)
  refine Z ?_
  refine cx w13903 rfl ze.1 hH (i := 6) rfl rfl rfl (hH.okOwn (j := 0) rfl).2 (hH.okOwn (j := 0) rfl).1 (Nat.le_of_ble_eq_true rfl) (fun H' hH => ?_)
  refine Zs ?_
  exact J fun g => ih_ (.c1 _ _) _ h b1 b2 b3 w13903 w5 w6 w7 _ _ g _ _ (hH.sl 10 [3, 4, 5, 6, 0, 7, 8, 9])
  iterate 3 refine Zs ?_
  exact J fun g => ih_ (.c1 _ _) _ h b1 b2 b3 w4 w5 w6 w7 _ _ g _ _ (hH.sl 9 [1, 2, 3, 4, 5, 6, 7, 8])
  refine Z ?_
  exact J fun g => zx _ _ _ _ _ _ _ _ _ _ h b2 b3 w4 w5 w6 w7 .nil _ _ g _ _ ((hH.addNil (z := ⟨118, 4⟩)).sl 9 [1, 3, 4, 5, 6, 7, 8, 0])
 | c1 Green t29 =>
  intro b1 b2 b3 w4 w5 w6 w7 be0 L g H n hH
  refine Z ?_
  exact J fun g => ih_ (.c0 _ _) _ h b1 b2 b3 w4 w5 w6 w7 _ _ g _ _ hH
end Go.Proofs.YtkmbagocakiefaaGreatDoor.Wb
