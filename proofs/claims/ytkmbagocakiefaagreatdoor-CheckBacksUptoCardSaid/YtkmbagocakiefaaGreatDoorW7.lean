/- The abstract machine computes these functions. Printed by decomp.py. -/
import Derived.Test.YtkmbagocakiefaaGreatDoorD2
import Derived.Test.YtkmbagocakiefaaGreatDoorW2
import Derived.Test.YtkmbagocakiefaaGreatDoorW3
import Derived.Test.YtkmbagocakiefaaGreatDoorW4
import Derived.Test.YtkmbagocakiefaaGreatDoorW6
import Derived.Test.YtkmbagocakiefaaGreatDoorW1
import Derived.Test.YtkmbagocakiefaaGreatDoorW5
namespace Go.Proofs.YtkmbagocakiefaaGreatDoor.Wb
open Go Go.Jv
set_option maxHeartbeats 4000000
open Go.Proofs
set_option maxHeartbeats 4000000
attribute [local irreducible] EW EX PAt con
theorem vd (wF : ByteArray) (unitsF : ByteArray) (worthF : A3 Int) (st : nk) (r : Int × Bool) (h : aZ wF unitsF worthF st = some r) : mY wF unitsF worthF st r := by
 refine aZ.partial_correctness wF unitsF worthF (mY wF unitsF worthF) (fun r2_duration_L1_run' ih_ st r h => ?_) st r h
 cases st with
 | c0 n_ i k =>
  intro b0 g H n hH
  refine Po rfl ?_
  refine Z ?_
  refine Wc h rfl rfl ?_ ?_ <;> intro _ h
  refine Z ?_
  exact J fun g => ih_ (.c1 _ _ _ _) _ h b0 g _ _ hH
  refine Z ?_
  refine Wc h rfl rfl ?_ ?_ <;> intro _ h
  refine Z ?_
  refine du rfl (dsc ty9) rfl (Wb rfl rfl ?_)
  refine Z ?_
  cases h; exact Pq rfl rfl
  refine Z ?_
  cases h; exact Pq rfl rfl
 | c1 n_ i k j =>
  intro b0 g H n hH
  refine Po rfl ?_
  refine Z ?_
  refine du rfl (dsc ty9) rfl ?_
  refine Wc h rfl rfl ?_ ?_ <;> intro _ h
  refine Z ?_
  refine ir h rfl ty9 rfl rfl (fun t25 h => ?_)
  refine al h rfl HI (sc rfl (sn)) (fun y hy => ua _ y hy) (fun _ => rfl) (fun t26 h => ?_)
  revert h; cases t26 <;> intro h
  replace h := if0 h
  iterate 3 refine Zs ?_
  exact J fun g => ih_ (.c2 _ _ _ _) _ h b0 g _ _ hH
  replace h := if1 h
  refine Z ?_
  exact J fun g => ih_ (.c1 _ _ _ _) _ h b0 g _ _ hH
  iterate 3 refine Zs ?_
  exact J fun g => ih_ (.c2 _ _ _ _) _ h b0 g _ _ hH
 | c2 n_ i k j =>
  intro b0 g H n hH
  refine Z ?_
  refine cB rfl (by kernel_rfl) ?_
  refine Z ?_
  refine Wc h rfl rfl ?_ ?_ <;> intro _ h
  refine Z ?_
  refine du rfl (dsc ty9) rfl ?_
  refine Wc h rfl rfl ?_ ?_ <;> intro _ h
  refine Z ?_
  refine ir h rfl ty9 rfl rfl (fun t42 h => ?_)
  refine Z ?_
  refine ir h rfl ty9 rfl rfl (fun t45 h => ?_)
  refine Wc h rfl rfl ?_ ?_ <;> intro _ h
  refine Z ?_
  refine uR h rfl ty9 rfl (Or) (fun t52 h => ?_)
  refine al h rfl HH (sc rfl (sc rfl (sc rfl (sn)))) (fun y hy => rM _ _ _ y hy) (fun _ => rfl) (fun t53 h => ?_)
  refine Z ?_
  refine ub rfl rfl rfl ?_
  refine Z ?_
  refine I2 (f := (Dat.int .i64)) (cs := [.d (.int .i64 worthF.e0), .d (.int .i64 worthF.e1), .d (.int .i64 worthF.e2)]) h rfl IM LK JS.1 rfl rfl rfl (fun t59 o13010 h hx13010 => ?_)
  refine FE rfl JS.1 hH (i := 0) rfl rfl hx13010 ?_
  refine Z ?_
  refine Wc h rfl rfl ?_ ?_ <;> intro _ h
  iterate 3 refine Zs ?_
  exact J fun g => ih_ (.c3 _ _ _) _ h b0 g _ _ hH
  iterate 3 refine Zs ?_
  exact J fun g => ih_ (.c3 _ _ _) _ h b0 g _ _ hH
  iterate 3 refine Zs ?_
  exact J fun g => ih_ (.c4 _ _ _) _ h b0 g _ _ hH
  iterate 3 refine Zs ?_
  exact J fun g => ih_ (.c4 _ _ _) _ h b0 g _ _ hH
  iterate 3 refine Zs ?_
  exact J fun g => ih_ (.c4 _ _ _) _ h b0 g _ _ hH
 | c3 n_ k j =>
  intro b0 g H n hH
  refine Zs ?_
  exact J fun g => ih_ (.c4 _ _ _) _ h b0 g _ _ hH
 | c4 n_ i k =>
  intro b0 g H n hH
  refine Z ?_
  exact J fun g => ih_ (.c0 _ _ _) _ h b0 g _ _ hH
theorem FO (t r) (h : tR t = some r) : aL C 40 [(ab.enc t)] = some [(.lst (r.map Dat.str))] := by
 refine aB (bu _ _ rfl) PG rfl (jmp 0 (.d (ab.enc t)) rfl ?_)
 refine Z ?_
 refine cu (cs := (ab.av t)) rfl bJ.1 rfl rfl rfl (HP.nil _ _) (fun b14034 H' n' hH => ?_)
 refine Z ?_
 exact J fun g => Bn _ _ _ _ h b14034 .nil g _ _ ((hH.addNil (z := ⟨9, 1⟩)).sl 2 [1, 0])
theorem Eb (e wanted j r) (h : jh e wanted j = some r) : xO e wanted j r := by
 refine jh.partial_correctness e (fun wanted j r => xO e wanted j r) (fun jh ih_jh wanted j r h g H n => ?_) wanted j r h
 refine Po rfl ?_
 refine Z ?_
 refine Wc h rfl rfl ?_ ?_ <;> intro _ h
 refine Z ?_
 refine aA h rfl dQ.1 bm.1 (fun _ => rfl) rfl rfl (fun t23 h => ?_)
 refine Z ?_
 refine al h rfl Ku (sc rfl (sn)) (fun y hy => A6 _ y hy) (fun _ => rfl) (fun t26 h => ?_)
 refine Z ?_
 refine Wc h rfl rfl ?_ ?_ <;> intro _ h
 refine Z ?_
 cases h; exact Pq rfl rfl
 refine Z ?_
 refine Wc h rfl rfl ?_ ?_ <;> intro _ h
 refine Z ?_
 cases h; exact Pq rfl rfl
 refine Z ?_
 exact J fun g => ih_jh _ _ _ h g _ _
 refine Z ?_
 cases h; exact Pq rfl rfl
theorem zR (eF : List ae) (st : sN) (r : Int) (h : aU eF st = some r) : rV eF st r := by
 refine aU.partial_correctness eF (rV eF) (fun r3_Nest_L2_run' ih_ st r h => ?_) st r h
 cases st with
 | c0 aC ops i =>
  intro w0 w1 g H n hH
  refine Po rfl ?_
  refine Z ?_
  refine Wc h rfl rfl ?_ ?_ <;> intro _ h
  refine Z ?_
  refine aA h rfl dQ.1 bm.1 (fun _ => rfl) rfl rfl (fun t28 h => ?_)
  refine Z ?_
  refine al h rfl Ku (sc rfl (sn)) (fun y hy => A6 _ y hy) (fun _ => rfl) (fun t32 h => ?_)
  refine Z ?_
  refine al h rfl O5 (sc rfl (sn)) (fun y hy => Ga _ y hy) (fun _ => rfl) (fun t35 h => ?_)
  refine Z ?_
  exact J fun g => ih_ (.c1 _ _ _ _ _ _ _ _ _) _ h w0 w1 g _ _ hH
  refine Z ?_
  refine bO h rfl cp.1 bZ.1 hH (j := 0) rfl rfl rfl (fun i13056 t105 h hl13056 hv13056 => ?_)
  refine cD rfl bZ.1 hH (j := 0) rfl hl13056 rfl hv13056 rfl ?_
  refine Z ?_
  cases h; exact Pq rfl rfl
 | c1 aC ops i op a x y own k =>
  intro w0 w1 g H n hH
  refine Po rfl ?_
  refine Z ?_
  refine Wc h rfl rfl ?_ ?_ <;> intro _ h
  refine Z ?_
  refine Wc h rfl rfl ?_ ?_ <;> intro _ h
  iterate 3 refine Zs ?_
  exact J fun g => ih_ (.c2 _ _ _ _ _ _ _ _ _ _ _) _ h w0 w1 g _ _ hH
  iterate 3 refine Zs ?_
  exact J fun g => ih_ (.c2 _ _ _ _ _ _ _ _ _ _ _) _ h w0 w1 g _ _ hH
  refine Z ?_
  refine Wc h rfl rfl ?_ ?_ <;> intro _ h
  refine Z ?_
  refine Wc h rfl rfl ?_ ?_ <;> intro _ h
  iterate 2 refine Zs ?_
  exact J fun g => ih_ (.c5 _ _ _ _ _ _) _ h w0 w1 g _ _ hH
  refine Z ?_
  refine Wc h rfl rfl ?_ ?_ <;> intro _ h
  iterate 2 refine Zs ?_
  exact J fun g => ih_ (.c5 _ _ _ _ _ _) _ h w0 w1 g _ _ hH
  refine Z ?_
  refine Wc h rfl rfl ?_ ?_ <;> intro _ h
  iterate 2 refine Zs ?_
  exact J fun g => ih_ (.c5 _ _ _ _ _ _) _ h w0 w1 g _ _ hH
  iterate 3 refine Zs ?_
  exact J fun g => ih_ (.c6 _ _ _ _ _ _) _ h w0 w1 g _ _ hH
  refine Z ?_
  refine Wc h rfl rfl ?_ ?_ <;> intro _ h
  iterate 2 refine Zs ?_
  exact J fun g => ih_ (.c5 _ _ _ _ _ _) _ h w0 w1 g _ _ hH
  refine Z ?_
  refine Wc h rfl rfl ?_ ?_ <;> intro _ h
  iterate 2 refine Zs ?_
  exact J fun g => ih_ (.c5 _ _ _ _ _ _) _ h w0 w1 g _ _ hH
  iterate 3 refine Zs ?_
  exact J fun g => ih_ (.c6 _ _ _ _ _ _) _ h w0 w1 g _ _ hH
 | c2 aC ops i op a x y own k n_ asked =>
  intro w0 w1 g H n hH
  refine Z ?_
  refine bO h rfl cp.1 bZ.1 hH (j := 0) rfl rfl rfl (fun i13057 t55 h hl13057 hv13057 => ?_)
  refine cD rfl bZ.1 hH (j := 0) rfl hl13057 rfl hv13057 rfl ?_
  refine Z ?_
  refine bO h rfl cp.1 bZ.1 hH (j := 1) rfl rfl rfl (fun i13058 t59 h hl13058 hv13058 => ?_)
  refine cD rfl bZ.1 hH (j := 1) rfl hl13058 rfl hv13058 rfl ?_
  refine al h rfl O6 (sc rfl (sn)) (fun y hy => Gb _ y hy) (fun _ => rfl) (fun t61 h => ?_)
  refine Z ?_
  refine Wc h rfl rfl ?_ ?_ <;> intro _ h
  iterate 3 refine Zs ?_
  exact J fun g => ih_ (.c3 _ _ _ _ _ _ _ _ _ _) _ h w0 w1 g _ _ hH
  iterate 3 refine Zs ?_
  exact J fun g => ih_ (.c3 _ _ _ _ _ _ _ _ _ _) _ h w0 w1 g _ _ hH
 | c3 aC ops i op a x y own k v =>
  intro w0 w1 g H n hH
  refine Z ?_
  refine Wc h rfl rfl ?_ ?_ <;> intro _ h
  iterate 3 refine Zs ?_
  exact J fun g => ih_ (.c4 _ _ _ _ _ _ _ _ _) _ h w0 w1 g _ _ hH
  iterate 3 refine Zs ?_
  exact J fun g => ih_ (.c4 _ _ _ _ _ _ _ _ _) _ h w0 w1 g _ _ hH
 | c4 aC ops i op a x y own k =>
  intro w0 w1 g H n hH
  refine Z ?_
  exact J fun g => ih_ (.c1 _ _ _ _ _ _ _ _ _) _ h w0 w1 g _ _ hH
 | c5 aC ops i op a own =>
  intro w0 w1 g H n hH
  refine Zs ?_
  exact J fun g => ih_ (.c6 _ _ _ _ _ _) _ h w0 w1 g _ _ hH
 | c6 aC ops i op a own =>
  intro w0 w1 g H n hH
  refine Z ?_
  refine kV h rfl cp.1 bZ.1 hH (j := 0) rfl rfl iD (fun t91 w14059 H' n' h hH => ?_)
  refine Z ?_
  refine cN (enc := (Dat.int .i64)) (xs := [own]) [.d (.int .i64 own)] rfl cp.1 bZ.1 zi ⟨by decide, Nat.le_of_ble_eq_true rfl⟩ zd3 (fun _ => rfl) (fun _ => rfl) rfl rfl hH (fun w14060 H' n' hH => ?_)
  refine bl (enc := (Dat.int .i64)) h rfl cp.1 bZ.1 uN (by decide) (fun _ => rfl) hH (j := 1) rfl rfl (aM hH (j := 0) rfl) (fun t94 w14061 H' n' h hH => ?_)
  refine Z ?_
  refine kV h rfl cp.1 bZ.1 hH (j := 2) rfl rfl iD (fun t100 w14062 H' n' h hH => ?_)
  refine Z ?_
  refine cN (enc := (Dat.int .i64)) (xs := [op]) [.d (.int .i64 op)] rfl cp.1 bZ.1 zi ⟨by decide, Nat.le_of_ble_eq_true rfl⟩ zd3 (fun _ => rfl) (fun _ => rfl) rfl rfl hH (fun w14063 H' n' hH => ?_)
  refine bl (enc := (Dat.int .i64)) h rfl cp.1 bZ.1 uN (by decide) (fun _ => rfl) hH (j := 3) rfl rfl (aM hH (j := 0) rfl) (fun t103 w14064 H' n' h hH => ?_)
  refine Z ?_
  exact J fun g => ih_ (.c0 _ _ _) _ h w14061 w14064 g _ _ (hH.sl 4 [2, 0])
theorem Dd (eF tF stack i r) (h : eJ eF tF stack i = some r) : qy eF tF (.c0 stack i) r := xp eF tF (.c0 stack i) r h
theorem ob (l r) (h : gH l = some r) : aL C 42 [(.lst (l.map ac.enc))] = some [(.bool r)] := by
 refine aB (bu _ _ rfl) PI rfl (jmp 0 (.d (.lst (l.map ac.enc))) rfl ?_)
 refine Z ?_
 exact J fun g => xo _ _ _ h g _ _
theorem vU (lF tF out i r) (h : cH lF tF out i = some r) : kD lF tF (.c0 out i) r := rJ lF tF (.c0 out i) r h
theorem yy (a b i r) (h : ey a b i = some r) : qN a b i r := by
 refine ey.partial_correctness a b (fun i r => qN a b i r) (fun ey ih_ey i r h b0 b1 g H n hH => ?_) i r h
 refine Po rfl ?_
 refine Z ?_
 refine Wc h rfl rfl ?_ ?_ <;> intro _ h
 refine Z ?_
 refine cB rfl (by kernel_rfl) ?_
 refine Z ?_
 refine aA h rfl me.1 mf.1 (fun _ => rfl) rfl rfl (fun t31 h => ?_)
 refine Z ?_
 refine aA h rfl me.1 mf.1 (fun _ => rfl) rfl rfl (fun t37 h => ?_)
 refine Z ?_
 refine Wd h rfl rfl ?_ ?_ <;> intro _ h
 refine Z ?_
 refine aA h rfl me.1 mf.1 (fun _ => rfl) rfl rfl (fun t45 h => ?_)
 refine Z ?_
 refine aR (d := (bd.enc t45.At)) rfl tv.1 rfl rfl ?_
 refine Z ?_
 refine aA h rfl me.1 mf.1 (fun _ => rfl) rfl rfl (fun t51 h => ?_)
 refine Z ?_
 refine aR (d := (bd.enc t51.At)) rfl tv.1 rfl rfl ?_
 refine bA (b := (!(decide (t45.At.Line = t51.At.Line) && (decide (t45.At.Col = t51.At.Col) && true)))) h rfl (kW xX BV rfl rfl rfl) rfl (fun _ => ⟨rfl, rfl⟩) ?_ ?_ <;> intro _ h
 refine Z ?_
 cases h; exact Pq rfl rfl
 refine Z ?_
 refine aA h rfl me.1 mf.1 (fun _ => rfl) rfl rfl (fun t60 h => ?_)
 refine Z ?_
 refine aA h rfl me.1 mf.1 (fun _ => rfl) rfl rfl (fun t66 h => ?_)
 refine Z ?_
 refine al h rfl Em (sc rfl (sc rfl (sn))) (fun y hy => kF _ _ y hy) (fun _ => rfl) (fun t69 h => ?_)
 revert h; cases t69 <;> intro h
 replace h := if0 h
 refine ba rfl rfl rfl ?_
 refine Z ?_
 cases h; exact Pq rfl rfl
 replace h := if1 h
 refine ba rfl rfl rfl ?_
 refine Z ?_
 exact J fun g => ih_ey _ _ h b0 b1 g _ _ hH
 refine Z ?_
 cases h; exact Pq rfl rfl
 refine Z ?_
 refine al h rfl zb (sc rfl (sc rfl (sn))) (fun y hy => gJ _ _ y hy) (fun _ => rfl) (fun t76 h => ?_)
 revert h; cases t76 <;> intro h
 replace h := if0 h
 refine Z ?_
 cases h; exact Pq rfl rfl
 replace h := if1 h
 refine Z ?_
 refine al h rfl zb (sc rfl (sc rfl (sn))) (fun y hy => gJ _ _ y hy) (fun _ => rfl) (fun t82 h => ?_)
 revert h; cases t82 <;> intro h
 replace h := if0 h
 refine Z ?_
 cases h; exact Pq rfl rfl
 replace h := if1 h
 refine Z ?_
 refine al h rfl zb (sc rfl (sc rfl (sn))) (fun y hy => gJ _ _ y hy) (fun _ => rfl) (fun t89 h => ?_)
 refine Z ?_
 cases h; exact Pq rfl rfl
theorem yz (a b i r) (h : ez a b i = some r) : qO a b i r := by
 refine ez.partial_correctness a b (fun i r => qO a b i r) (fun ez ih_ez i r h b0 b1 g H n hH => ?_) i r h
 refine Po rfl ?_
 refine Z ?_
 refine Wc h rfl rfl ?_ ?_ <;> intro _ h
 refine Z ?_
 refine cB rfl (by kernel_rfl) ?_
 refine Z ?_
 refine aA h rfl ek.1 cZ.1 (fun _ => rfl) rfl rfl (fun t44 h => ?_)
 refine Z ?_
 refine aA h rfl ek.1 cZ.1 (fun _ => rfl) rfl rfl (fun t50 h => ?_)
 refine Z ?_
 refine Wd h rfl rfl ?_ ?_ <;> intro _ h
 refine Z ?_
 refine aA h rfl ek.1 cZ.1 (fun _ => rfl) rfl rfl (fun t58 h => ?_)
 refine Z ?_
 refine aA h rfl ek.1 cZ.1 (fun _ => rfl) rfl rfl (fun t64 h => ?_)
 refine Z ?_
 refine al h rfl Em (sc rfl (sc rfl (sn))) (fun y hy => kF _ _ y hy) (fun _ => rfl) (fun t67 h => ?_)
 revert h; cases t67 <;> intro h
 replace h := if0 h
 refine ba rfl rfl rfl ?_
 refine Z ?_
 cases h; exact Pq rfl rfl
 replace h := if1 h
 refine ba rfl rfl rfl ?_
 refine Z ?_
 exact J fun g => ih_ez _ _ h b0 b1 g _ _ hH
 refine Z ?_
 cases h; exact Pq rfl rfl
 refine Z ?_
 refine al h rfl zb (sc rfl (sc rfl (sn))) (fun y hy => gJ _ _ y hy) (fun _ => rfl) (fun t74 h => ?_)
 revert h; cases t74 <;> intro h
 replace h := if0 h
 refine Z ?_
 cases h; exact Pq rfl rfl
 replace h := if1 h
 refine Z ?_
 refine al h rfl zb (sc rfl (sc rfl (sn))) (fun y hy => gJ _ _ y hy) (fun _ => rfl) (fun t80 h => ?_)
 revert h; cases t80 <;> intro h
 replace h := if0 h
 refine Z ?_
 cases h; exact Pq rfl rfl
 replace h := if1 h
 refine Z ?_
 refine al h rfl zb (sc rfl (sc rfl (sn))) (fun y hy => gJ _ _ y hy) (fun _ => rfl) (fun t87 h => ?_)
 refine Z ?_
 cases h; exact Pq rfl rfl
theorem wZ (nodes stmts tnexts stages groups pairs dets vars texts i r) (h : cX nodes stmts tnexts stages groups pairs dets vars texts i = some r) : qj nodes stmts tnexts stages groups pairs dets vars texts i r := by
 refine cX.partial_correctness nodes stmts tnexts stages groups pairs dets vars texts (fun i r => qj nodes stmts tnexts stages groups pairs dets vars texts i r) (fun cX ih_cX i r h w1 w2 w3 w4 w5 w6 w7 w8 w9 be0 L g H n hH => ?_) i r h
 refine Po rfl ?_
 refine Z ?_
 refine Wc h rfl rfl ?_ ?_ <;> intro _ h
 refine Z ?_
 refine bO h rfl Fj.1 BZ.1 hH (j := 1) rfl rfl rfl (fun i13398 t29 h hl13398 hv13398 => ?_)
 refine cD rfl BZ.1 hH (j := 1) rfl hl13398 rfl hv13398 rfl ?_
 refine Z ?_
 refine aA h rfl dQ.1 bm.1 (fun _ => rfl) rfl rfl (fun t35 h => ?_)
 refine Z ?_
 refine Wd h rfl rfl ?_ ?_ <;> intro _ h
 refine Z ?_
 refine aA h rfl dQ.1 bm.1 (fun _ => rfl) rfl rfl (fun t44 h => ?_)
 refine Z ?_
 refine Wd h rfl rfl ?_ ?_ <;> intro _ h
 refine Z ?_
 exact J fun g => ih_cX _ _ h w1 w2 w3 w4 w5 w6 w7 w8 w9 _ _ g _ _ hH
 refine Z ?_
 refine Pt rfl (Cr ?_)
 obtain rfl := si h
 exact prF (.inl rfl) (aS (.d (.bool false)) rfl (aJ)) ⟨w1, w2, w3, w4, w5, w6, w7, w8, w9, rfl, hH⟩
 refine Z ?_
 refine Pt rfl (Cr ?_)
 obtain rfl := si h
 exact prF (.inl rfl) (aS (.d (.bool false)) rfl (aJ)) ⟨w1, w2, w3, w4, w5, w6, w7, w8, w9, rfl, hH⟩
 refine Z ?_
 exact J fun g => wN _ _ _ _ _ _ _ _ _ _ _ h w1 w2 w3 w4 w5 w6 w7 w8 w9 _ _ g _ _ hH
theorem zS (nodes stmts tnexts stages groups pairs dets vars texts r) (h : lL nodes stmts tnexts stages groups pairs dets vars texts = some r) (be0 we1 we2 we3 we4 we5 we6 we7 we8 we9 H n L) (hH : HP H n (.box be0 [we1, we2, we3, .nil, we4, .nil, we5, we6, we7, we8, .nil, we9, .nil, .nil, .nil, .nil, .nil] :: bS we1 nodes :: bT we2 stmts :: bU we3 tnexts :: cz we4 stages :: bw we5 groups :: bz we6 pairs :: bF we7 dets :: bV we8 vars :: bL we9 texts :: L)) : Raw C 28 [.pt be0 0] H n (fun rs H' n' => ∃ w'1 w'2 w'3 w'4 w'5 w'6 w'7 w'8 w'9 : AV, rs = [.d (.bool r.1)] ∧ HP H' n' (.box be0 [w'1, w'2, w'3, .nil, w'4, .nil, w'5, w'6, w'7, w'8, .nil, w'9, .nil, .nil, .nil, .nil, .nil] :: bS w'1 r.2.1 :: bT w'2 r.2.2.1 :: bU w'3 r.2.2.2.1 :: cz w'4 r.2.2.2.2.1 :: bw w'5 r.2.2.2.2.2.1 :: bz w'6 r.2.2.2.2.2.2.1 :: bF w'7 r.2.2.2.2.2.2.2.1 :: bV w'8 r.2.2.2.2.2.2.2.2.1 :: bL w'9 r.2.2.2.2.2.2.2.2.2 :: L)) := by
 refine fa Pp rfl (jmp 0 (.pt be0 0) rfl ?_)
 refine Z ?_
 exact J fun g => vr _ _ _ _ _ _ _ _ _ _ _ h we1 we2 we3 we4 we5 we6 we7 we8 we9 _ _ g _ _ hH
end Go.Proofs.YtkmbagocakiefaaGreatDoor.Wb
namespace Go.Proofs.YtkmbagocakiefaaGreatDoor.Wb
open Go Go.Jv
set_option maxHeartbeats 4000000
open Go.Proofs
set_option maxHeartbeats 4000000
attribute [local irreducible] EW EX PAt con
theorem AJ (t r) (h : mF t = some r) (be0 H n L) (hH : HP H n (.box be0 [.nil, .nil, .nil, .nil, .nil, .nil, .nil, .nil, .nil, .nil, .nil, .nil, .nil, .nil, .nil, .nil, .nil] :: L)) : Raw C 4 [.pt be0 0, .agg (ab.av t)] H n (fun rs H' n' => ∃ w'0 w'1 w'2 w'3 w'4 w'5 w'6 w'8 w'9 w'10 w'11 w'12 w'13 w'14 w'15 w'16 : AV, rs = [.agg [.d (.str r.1), w'0, w'1, w'2, w'3, w'4, w'5, w'6, .d (.int .i64 r.2.2.2.2.2.2.2.2.1)]] ∧ HP H' n' (.imm w'0 ⟨88, 5⟩ (r.2.1.map ak.enc) :: .imm w'1 ⟨90, 4⟩ (r.2.2.1.map ai.enc) :: .imm w'2 ⟨92, 4⟩ (r.2.2.2.1.map aE.enc) :: .imm w'3 ⟨9, 1⟩ (r.2.2.2.2.1.map Dat.str) :: .imm w'4 ⟨9, 1⟩ (r.2.2.2.2.2.1.map Dat.str) :: .imm w'5 ⟨67, 2⟩ (r.2.2.2.2.2.2.1.map aN.enc) :: .imm w'6 ⟨72, 7⟩ (r.2.2.2.2.2.2.2.1.map ah.enc) :: .box be0 [w'8, w'9, w'10, .nil, w'11, .nil, w'12, w'13, w'14, w'15, .nil, w'16, .nil, .nil, .nil, .nil, .nil] :: bS w'8 r.2.2.2.2.2.2.2.2.2.1 :: bT w'9 r.2.2.2.2.2.2.2.2.2.2.1 :: bU w'10 r.2.2.2.2.2.2.2.2.2.2.2.1 :: cz w'11 r.2.2.2.2.2.2.2.2.2.2.2.2.1 :: bw w'12 r.2.2.2.2.2.2.2.2.2.2.2.2.2.1 :: bz w'13 r.2.2.2.2.2.2.2.2.2.2.2.2.2.2.1 :: bF w'14 r.2.2.2.2.2.2.2.2.2.2.2.2.2.2.2.1 :: bV w'15 r.2.2.2.2.2.2.2.2.2.2.2.2.2.2.2.2.1 :: bL w'16 r.2.2.2.2.2.2.2.2.2.2.2.2.2.2.2.2.2 :: L)) := by
 refine fa fn4 rfl (jmp 0 (.pt be0 0) rfl (jmp 1 (.agg (ab.av t)) rfl ?_))
 refine Z ?_
 refine cu (cs := (ab.av t)) rfl bJ.1 rfl rfl rfl hH (fun b13582 H' n' hH => ?_)
 refine aQ rfl C0 hH (fun b13583 H' n' hH => ?_)
 refine Z ?_
 refine ct (pz := [(1, 3), (1, 6), (3, 6), (1, 7), (3, 7), (1, 10), (3, 10), (6, 10), (7, 10), (1, 11), (3, 11), (1, 14), (3, 14), (6, 14), (7, 14), (10, 14), (11, 14), (1, 15), (3, 15), (1, 18), (3, 18), (6, 18), (7, 18), (10, 18), (11, 18), (14, 18), (15, 18), (1, 19), (3, 19), (1, 21), (3, 21), (6, 21), (7, 21), (10, 21), (11, 21), (14, 21), (15, 21), (18, 21), (19, 21)]) rfl rfl (by kernel_rfl) (by kernel_rfl) ?_
 refine Z ?_
 refine bi (v := .agg (aI.av t.Tables)) (.of [b13582] []) rfl (dR my.1 hH (i := 1) rfl rfl rfl) ⟨rfl, rfl⟩ ?_
 have hHr := (hH.selG 3 [2, 0, 1] (by decide) (by decide) (gc rfl (gc rfl (gc rfl (gt rfl)))))
 refine vl (A := [.box be0 [.nil, .nil, .nil, .nil, .nil, .nil, .nil, .nil, .nil, .nil, .nil, .nil, .nil, .nil, .nil, .nil, .nil]]) (L := .box b13583 [.d (.str ⟨#[]⟩), .nil, .nil, .nil, .nil, .nil, .nil, .nil, .d (.int .i64 0)] :: .box b13582 (ab.av t) :: L) (P := fun y rs As => ∃ w'0 w'1 w'3 w'4 : AV, rs = [.agg [w'0, w'1]] ∧ As = [.imm w'0 ⟨88, 5⟩ (y.1.map ak.enc), .imm w'1 ⟨90, 4⟩ (y.2.1.map ai.enc), .box be0 [.nil, .nil, .nil, .nil, .nil, .nil, w'3, w'4, .nil, .nil, .nil, .nil, .nil, .nil, .nil, .nil, .nil], bw w'3 y.2.2.1, bz w'4 y.2.2.2]) [.pt be0 0, .agg (aI.av t.Tables)] h rfl rfl No rfl hHr (mcc (.pt (j := 0) rfl) (mcc (.agg (mcc (.d _) (mcc (.d _) (mcn)))) (mcn))) (cbb (mcc (.nil) (mcc (.nil) (mcc (.nil) (mcc (.nil) (mcc (.nil) (mcc (.nil) (mcc (.nil) (mcc (.nil) (mcc (.nil) (mcc (.nil) (mcc (.nil) (mcc (.nil) (mcc (.nil) (mcc (.nil) (mcc (.nil) (mcc (.nil) (mcc (.nil) (mcn)))))))))))))))))) (cbn)) (rcc (cc 0 rfl (dl)) (rcn)) (fun y hy H n L' hH => (zA _ y hy be0 _ _ _ hH).to (fun rs H' n' ⟨w0, w1, w2, w3, e, hp⟩ => ⟨_, ⟨w0, w1, w2, w3, e, rfl⟩, hp⟩)) (fun t22 rs As H' n12584 h hP hH hoff12584 hn12584 => ?_)
 obtain ⟨w12584_0, w12584_1, w12584_3, w12584_4, rfl, rfl⟩ := hP
 clear hHr
 have hof12584_0 := hoff12584.box (k := 0) rfl
 have hof12584_1 := hoff12584.box (k := 1) rfl
 have hof12584 := hoff12584.lt
 clear hoff12584
 refine Z ?_
 have hHr := (hH.selG 7 [2, 3, 4, 0, 1, 5, 6] (by decide) (by decide) (gc rfl (gc rfl (gc rfl (gc rfl (gc rfl (gc rfl (gc rfl (gt rfl)))))))))
 refine vl (A := [.box be0 [.nil, .nil, .nil, .nil, .nil, .nil, w12584_3, w12584_4, .nil, .nil, .nil, .nil, .nil, .nil, .nil, .nil, .nil], bw w12584_3 t22.2.2.1, bz w12584_4 t22.2.2.2]) (L := .imm w12584_0 ⟨88, 5⟩ (t22.1.map ak.enc) :: .imm w12584_1 ⟨90, 4⟩ (t22.2.1.map ai.enc) :: .box b13583 [.d (.str ⟨#[]⟩), .nil, .nil, .nil, .nil, .nil, .nil, .nil, .d (.int .i64 0)] :: .box b13582 (ab.av t) :: L) (P := fun y rs As => ∃ w'0 w'2 w'3 w'4 : AV, rs = [w'0] ∧ As = [.imm w'0 ⟨92, 4⟩ (y.1.map aE.enc), .box be0 [.nil, .nil, .nil, .nil, .nil, .nil, w'2, w'3, w'4, .nil, .nil, .nil, .nil, .nil, .nil, .nil, .nil], bw w'2 y.2.1, bz w'3 y.2.2.1, bF w'4 y.2.2.2]) [.pt be0 0, .d (.lst (t.Dets.map aE.enc))] h rfl rfl Np rfl hHr (mcc (.pt (j := 0) rfl) (mcc (.d _) (mcn))) (cbb (mcc (.nil) (mcc (.nil) (mcc (.nil) (mcc (.nil) (mcc (.nil) (mcc (.nil) (mcc (.own (j := 1) rfl) (mcc (.own (j := 2) rfl) (mcc (.nil) (mcc (.nil) (mcc (.nil) (mcc (.nil) (mcc (.nil) (mcc (.nil) (mcc (.nil) (mcc (.nil) (mcc (.nil) (mcn)))))))))))))))))) (cbo (cbo (cbn)))) (rcc (cc 0 rfl (dl)) (rcc (fm 0 hHr rfl (cc 0 rfl (dl)) 6 rfl (dI)) (rcc (fm 0 hHr rfl (cc 0 rfl (dl)) 7 rfl (dI)) (rcn)))) (fun y hy H n L' hH => (BI _ _ _ y hy be0 w12584_3 w12584_4 _ _ _ hH).to (fun rs H' n' ⟨w0, w1, w2, w3, e, hp⟩ => ⟨_, ⟨w0, w1, w2, w3, e, rfl⟩, hp⟩)) (fun t26 rs As H' n12585 h hP hH hoff12585 hn12585 => ?_)
 obtain ⟨w12585_0, w12585_2, w12585_3, w12585_4, rfl, rfl⟩ := hP
 clear hHr
 have hof12585_0 := hoff12585.imm (k := 0) rfl
 have hof12585_1 := hoff12585.imm (k := 1) rfl
 have hof12585_2 := hoff12585.box (k := 2) rfl
 have hof12585_3 := hoff12585.box (k := 3) rfl
 have hof12585 := hoff12585.lt
 clear hoff12585
 refine Z ?_
 have hHr := ((hH.addNil (z := ⟨27, 1⟩)).selG 10 [2, 3, 4, 5, 0, 1, 6, 7, 8, 9] (by decide) (by decide) (gc rfl (gc rfl (gc rfl (gc rfl (gc rfl (gc rfl (gc rfl (gc rfl (gc rfl (gc rfl (gt rfl))))))))))))
 refine vl (A := [.box be0 [.nil, .nil, .nil, .nil, .nil, .nil, w12585_2, w12585_3, w12585_4, .nil, .nil, .nil, .nil, .nil, .nil, .nil, .nil], bw w12585_2 t26.2.1, bz w12585_3 t26.2.2.1, bF w12585_4 t26.2.2.2, .own .nil ⟨27, 1⟩ []]) (L := .imm w12585_0 ⟨92, 4⟩ (t26.1.map aE.enc) :: .imm w12584_0 ⟨88, 5⟩ (t22.1.map ak.enc) :: .imm w12584_1 ⟨90, 4⟩ (t22.2.1.map ai.enc) :: .box b13583 [.d (.str ⟨#[]⟩), .nil, .nil, .nil, .nil, .nil, .nil, .nil, .d (.int .i64 0)] :: .box b13582 (ab.av t) :: L) (P := fun y rs As => ∃ w'0 w'2 w'3 w'4 w'5 : AV, rs = [w'0] ∧ As = [.imm w'0 ⟨9, 1⟩ (y.1.map Dat.str), .box be0 [.nil, .nil, .nil, .nil, .nil, .nil, w'2, w'3, w'4, .nil, .nil, w'5, .nil, .nil, .nil, .nil, .nil], bw w'2 y.2.1, bz w'3 y.2.2.1, bF w'4 y.2.2.2.1, bL w'5 y.2.2.2.2]) [.pt be0 0, .d (.lst (t.Timers.map Dat.str))] h rfl rfl Kh rfl hHr (mcc (.pt (j := 0) rfl) (mcc (.d _) (mcn))) (cbb (mcc (.nil) (mcc (.nil) (mcc (.nil) (mcc (.nil) (mcc (.nil) (mcc (.nil) (mcc (.own (j := 1) rfl) (mcc (.own (j := 2) rfl) (mcc (.own (j := 3) rfl) (mcc (.nil) (mcc (.nil) (mcc (.nil) (mcc (.nil) (mcc (.nil) (mcc (.nil) (mcc (.nil) (mcc (.nil) (mcn)))))))))))))))))) (cbo (cbo (cbo (cbo (cbn)))))) (rcc (cc 0 rfl (dl)) (rcc (fm 0 hHr rfl (cc 0 rfl (dl)) 6 rfl (dI)) (rcc (fm 0 hHr rfl (cc 0 rfl (dl)) 7 rfl (dI)) (rcc (fm 0 hHr rfl (cc 0 rfl (dl)) 8 rfl (dI)) (rcc (uv) (rcn)))))) (fun y hy H n L' hH => (rT _ _ _ _ _ y hy be0 w12585_2 w12585_3 w12585_4 .nil _ _ _ hH).to (fun rs H' n' ⟨w0, w1, w2, w3, w4, e, hp⟩ => ⟨_, ⟨w0, w1, w2, w3, w4, e, rfl⟩, hp⟩)) (fun t30 rs As H' n12586 h hP hH hoff12586 hn12586 => ?_)
 obtain ⟨w12586_0, w12586_2, w12586_3, w12586_4, w12586_5, rfl, rfl⟩ := hP
 clear hHr
 have hof12586_0 := hoff12586.imm (k := 0) rfl
 have hof12586_1 := hoff12586.imm (k := 1) rfl
 have hof12586_2 := hoff12586.imm (k := 2) rfl
 have hof12586_3 := hoff12586.box (k := 3) rfl
 have hof12586_4 := hoff12586.box (k := 4) rfl
 have hof12586 := hoff12586.lt
 clear hoff12586
 refine Z ?_
 have hHr := (hH.selG 11 [1, 2, 3, 4, 5, 0, 6, 7, 8, 9, 10] (by decide) (by decide) (gc rfl (gc rfl (gc rfl (gc rfl (gc rfl (gc rfl (gc rfl (gc rfl (gc rfl (gc rfl (gc rfl (gt rfl)))))))))))))
 refine vl (A := [.box be0 [.nil, .nil, .nil, .nil, .nil, .nil, w12586_2, w12586_3, w12586_4, .nil, .nil, w12586_5, .nil, .nil, .nil, .nil, .nil], bw w12586_2 t30.2.1, bz w12586_3 t30.2.2.1, bF w12586_4 t30.2.2.2.1, bL w12586_5 t30.2.2.2.2]) (L := .imm w12586_0 ⟨9, 1⟩ (t30.1.map Dat.str) :: .imm w12585_0 ⟨92, 4⟩ (t26.1.map aE.enc) :: .imm w12584_0 ⟨88, 5⟩ (t22.1.map ak.enc) :: .imm w12584_1 ⟨90, 4⟩ (t22.2.1.map ai.enc) :: .box b13583 [.d (.str ⟨#[]⟩), .nil, .nil, .nil, .nil, .nil, .nil, .nil, .d (.int .i64 0)] :: .box b13582 (ab.av t) :: L) (P := fun y rs As => ∃ w'0 w'2 w'3 w'4 w'5 : AV, rs = [w'0] ∧ As = [.imm w'0 ⟨9, 1⟩ (y.1.map Dat.str), .box be0 [.nil, .nil, .nil, .nil, .nil, .nil, w'2, w'3, w'4, .nil, .nil, w'5, .nil, .nil, .nil, .nil, .nil], bw w'2 y.2.1, bz w'3 y.2.2.1, bF w'4 y.2.2.2.1, bL w'5 y.2.2.2.2]) [.pt be0 0, .d (.lst (t.Counters.map Dat.str))] h rfl rfl Kh rfl hHr (mcc (.pt (j := 0) rfl) (mcc (.d _) (mcn))) (cbb (mcc (.nil) (mcc (.nil) (mcc (.nil) (mcc (.nil) (mcc (.nil) (mcc (.nil) (mcc (.own (j := 1) rfl) (mcc (.own (j := 2) rfl) (mcc (.own (j := 3) rfl) (mcc (.nil) (mcc (.nil) (mcc (.own (j := 4) rfl) (mcc (.nil) (mcc (.nil) (mcc (.nil) (mcc (.nil) (mcc (.nil) (mcn)))))))))))))))))) (cbo (cbo (cbo (cbo (cbn)))))) (rcc (cc 0 rfl (dl)) (rcc (fm 0 hHr rfl (cc 0 rfl (dl)) 6 rfl (dI)) (rcc (fm 0 hHr rfl (cc 0 rfl (dl)) 7 rfl (dI)) (rcc (fm 0 hHr rfl (cc 0 rfl (dl)) 8 rfl (dI)) (rcc (fm 0 hHr rfl (cc 0 rfl (dl)) 11 rfl (dI)) (rcn)))))) (fun y hy H n L' hH => (rT _ _ _ _ _ y hy be0 w12586_2 w12586_3 w12586_4 w12586_5 _ _ _ hH).to (fun rs H' n' ⟨w0, w1, w2, w3, w4, e, hp⟩ => ⟨_, ⟨w0, w1, w2, w3, w4, e, rfl⟩, hp⟩)) (fun t34 rs As H' n12587 h hP hH hoff12587 hn12587 => ?_)
 obtain ⟨w12587_0, w12587_2, w12587_3, w12587_4, w12587_5, rfl, rfl⟩ := hP
 clear hHr
 have hof12587_0 := hoff12587.imm (k := 0) rfl
 have hof12587_1 := hoff12587.imm (k := 1) rfl
 have hof12587_2 := hoff12587.imm (k := 2) rfl
 have hof12587_3 := hoff12587.imm (k := 3) rfl
 have hof12587_4 := hoff12587.box (k := 4) rfl
 have hof12587_5 := hoff12587.box (k := 5) rfl
 have hof12587 := hoff12587.lt
 clear hoff12587
 refine bi (v := .agg [.d (.str t.Name), w12584_0, w12584_1, w12585_0, w12586_0, w12587_0, .nil, .nil, .d (.int .i64 t.Start)]) (az) rfl (cy C0 JK (by show er dD _ _ [(0, .d (.str t.Name)), (7, .d (.int .i64 t.Start)), (1, .agg [w12584_0, w12584_1]), (2, w12585_0), (3, w12586_0), (4, w12587_0)] = _; simp only [er, eH (hH.okImm (j := 7) rfl), eH (hH.okImm (j := 6) rfl), eH (hH.okImm (j := 0) rfl), Ak (cs := [w12584_0, w12584_1]) (by simp only [List.all_cons, List.all_nil, (hH.okImm (j := 8) rfl).1, (hH.okImm (j := 9) rfl).1]; rfl)]; rfl)) ⟨rfl, rfl⟩ ?_
 refine uZ rfl C0 hH (fun b13588 H' n12588 hH hoff12588 hn12588 => ?_)
 have hof12588_0 := hoff12588.imm (k := 0) rfl
 have hof12588_1 := hoff12588.box (k := 1) rfl
 have hof12588_2 := hoff12588.own (k := 2) rfl
 have hof12588_3 := hoff12588.own (k := 3) rfl
 have hof12588_4 := hoff12588.own (k := 4) rfl
 have hof12588_5 := hoff12588.own (k := 5) rfl
 have hof12588_6 := hoff12588.imm (k := 6) rfl
 have hof12588_7 := hoff12588.imm (k := 7) rfl
 have hof12588_8 := hoff12588.imm (k := 8) rfl
 have hof12588_9 := hoff12588.imm (k := 9) rfl
 have hof12588_10 := hoff12588.box (k := 10) rfl
 have hof12588_11 := hoff12588.box (k := 11) rfl
 have hof12588 := hoff12588.2
 clear hoff12588
 refine bX (new := [.d (.str t.Name), w12584_0, w12584_1, w12585_0, w12586_0, w12587_0, .nil, .nil, .d (.int .i64 t.Start)]) [.d (.str t.Name), w12584_0, w12584_1, w12585_0, w12586_0, w12587_0, .nil, .nil, .d (.int .i64 t.Start)] rfl bJ.1 hH (i := 0) rfl rfl rfl rfl (by simp only [List.all_cons, List.all_nil, (hH.okImm (j := 9) rfl).1, (hH.okImm (j := 10) rfl).1, (hH.okImm (j := 8) rfl).1, (hH.okImm (j := 7) rfl).1, (hH.okImm (j := 1) rfl).1]; rfl) (Nat.le_of_ble_eq_true rfl) rfl (fun H' hH => ?_)
 refine xn (pk rfl rfl aG (pk rfl rfl aG (pk rfl rfl aG (pk rfl rfl (mn hof12584_1) (pk rfl rfl (mn hof12584_1) (pk rfl rfl aG (pk rfl rfl aG (pk rfl rfl aG (pk rfl rfl (va hof12584_1) (pk rfl rfl (mn hof12585_3) (pk rfl rfl (mn hof12585_3) (pk rfl rfl aG (pk rfl rfl aG (pk rfl rfl aG (pk rfl rfl (va hof12584_1) (pk rfl rfl aG (pk rfl rfl (va hof12585_3) (pk rfl rfl (mn hof12586_4) (pk rfl rfl (mn hof12586_4) (pk rfl rfl aG (pk rfl rfl aG (pk rfl rfl aG (pk rfl rfl (va hof12584_1) (pk rfl rfl aG (pk rfl rfl (va hof12585_3) (pk rfl rfl aG (pk rfl rfl (va hof12586_4) (pk rfl rfl (mn hof12587_5) (pk rfl rfl (mn hof12587_5) (pk rfl rfl nco (pk rfl rfl nco (pk rfl rfl nco (pk rfl rfl HT (pk rfl rfl nco (pk rfl rfl HT (pk rfl rfl nco (pk rfl rfl HT (pk rfl rfl nco (pk rfl rfl HT (pkn)))))))))))))))))))))))))))))))))))))))) ?_
 refine Z ?_
 refine cr (cs := [.d (.str ⟨#[]⟩), .d (.int .i32 4444)]) rfl uO JM rfl ?_
 refine aQ rfl uO hH (fun b13590 H' n' hH => ?_)
 refine ax (new := [.d (.str ⟨#[]⟩), .d (.int .i32 4444)]) rfl dB.1 hH (i := 0) rfl rfl rfl rfl rfl (Nat.le_of_ble_eq_true rfl) (fun H' hH => ?_)
 refine Z ?_
 refine ct (pz := [(1, 3), (2, 3), (1, 4), (2, 4), (3, 4), (1, 5), (2, 5)]) rfl rfl (by kernel_rfl) (by kernel_rfl) ?_
 refine Z ?_
 have hH := hH.addNil (z := ⟨67, 2⟩)
 refine cG (enc := aN.enc) (.d (.lst (t.Vars.map aN.enc))) h rfl fq.1 dB.1 GE (by decide) (fun _ => rfl) hH (j := 0) rfl rfl rfl kw (fun t39 w13591 i12591 H' n12591 h hH hoff12591 hn12591 hi12591 => ?_)
 have hof12591_0 := hoff12591.box (k := 0) rfl
 have hof12591_1 := hoff12591.box (k := 1) rfl
 have hof12591_2 := hoff12591.imm (k := 2) rfl
 have hof12591_3 := hoff12591.box (k := 3) rfl
 have hof12591_4 := hoff12591.own (k := 4) rfl
 have hof12591_5 := hoff12591.own (k := 5) rfl
 have hof12591_6 := hoff12591.own (k := 6) rfl
 have hof12591_7 := hoff12591.own (k := 7) rfl
 have hof12591_8 := hoff12591.imm (k := 8) rfl
 have hof12591_9 := hoff12591.imm (k := 9) rfl
 have hof12591_10 := hoff12591.imm (k := 10) rfl
 have hof12591_11 := hoff12591.imm (k := 11) rfl
 have hof12591_12 := hoff12591.box (k := 12) rfl
 have hof12591_13 := hoff12591.box (k := 13) rfl
 have hof12591 := hoff12591.2
 clear hoff12591
 refine bi (v := .agg [.d (.str ⟨#[]⟩), .d (.int .i32 4444)]) (.of [b13590] []) rfl (dR dB.1 hH (i := 1) rfl rfl rfl) ⟨rfl, rfl⟩ (bi (v := .agg [.d (.str ⟨#[]⟩), .d (.int .i32 4444)]) (.of [b13590] []) rfl (dR dB.1 hH (i := 1) rfl rfl rfl) ⟨rfl, rfl⟩ ?_)
 refine pm (enc := aN.enc) (xs := [(⟨⟨#[]⟩, 4444⟩ : aN), (⟨⟨#[]⟩, 4444⟩ : aN)]) [.agg [.d (.str ⟨#[]⟩), .d (.int .i32 4444)], .agg [.d (.str ⟨#[]⟩), .d (.int .i32 4444)]] rfl fq.1 dB.1 uO ⟨by decide, Nat.le_of_ble_eq_true rfl⟩ QQ (fun _ => rfl) (fun _ => rfl) rfl rfl rfl hH (fun w13592 i12592 H' n12592 hH hoff12592 hn12592 hi12592 => ?_)
 have hof12592_0 := hoff12592.own (k := 0) rfl
 have hof12592_1 := hoff12592.box (k := 1) rfl
 have hof12592_2 := hoff12592.box (k := 2) rfl
 have hof12592_3 := hoff12592.imm (k := 3) rfl
 have hof12592_4 := hoff12592.box (k := 4) rfl
 have hof12592_5 := hoff12592.own (k := 5) rfl
 have hof12592_6 := hoff12592.own (k := 6) rfl
 have hof12592_7 := hoff12592.own (k := 7) rfl
 have hof12592_8 := hoff12592.own (k := 8) rfl
 have hof12592_9 := hoff12592.imm (k := 9) rfl
 have hof12592_10 := hoff12592.imm (k := 10) rfl
 have hof12592_11 := hoff12592.imm (k := 11) rfl
 have hof12592_12 := hoff12592.imm (k := 12) rfl
 have hof12592_13 := hoff12592.box (k := 13) rfl
 have hof12592_14 := hoff12592.box (k := 14) rfl
 have hof12592 := hoff12592.2
 clear hoff12592
 refine cG (enc := aN.enc) (w13592) h rfl fq.1 dB.1 GE (by decide) (fun _ => rfl) hH (j := 1) rfl rfl rfl (aM hH (j := 0) rfl) (fun t43 w13593 i12593 H' n12593 h hH hoff12593 hn12593 hi12593 => ?_)
 have hof12593_0 := hoff12593.own (k := 0) rfl
 have hof12593_1 := hoff12593.box (k := 1) rfl
 have hof12593_2 := hoff12593.box (k := 2) rfl
 have hof12593_3 := hoff12593.imm (k := 3) rfl
 have hof12593_4 := hoff12593.box (k := 4) rfl
 have hof12593_5 := hoff12593.own (k := 5) rfl
 have hof12593_6 := hoff12593.own (k := 6) rfl
 have hof12593_7 := hoff12593.own (k := 7) rfl
 have hof12593_8 := hoff12593.own (k := 8) rfl
 have hof12593_9 := hoff12593.imm (k := 9) rfl
 have hof12593_10 := hoff12593.imm (k := 10) rfl
 have hof12593_11 := hoff12593.imm (k := 11) rfl
 have hof12593_12 := hoff12593.imm (k := 12) rfl
 have hof12593_13 := hoff12593.box (k := 13) rfl
 have hof12593_14 := hoff12593.box (k := 14) rfl
 have hof12593 := hoff12593.2
 clear hoff12593
 refine bi (v := w13593) (az) rfl (jS) ⟨rfl, rfl⟩ (xn (pk rfl rfl aG (pk rfl rfl nco (pk rfl rfl aG (pk rfl rfl nco (pk rfl rfl aG (pk rfl rfl nco (pk rfl rfl nco (pkn)))))))) ?_)
 refine Z ?_
 refine de (enc := (eL aN.enc)) (e := t43) (w13593) rfl Fq.1 BW.1 LW (by decide) QO (fun _ => rfl) (fun _ => rfl) rfl (FS.own hH (j := 0) rfl (fun _ hH => FS.nil hH)) (fun w13594 H' n' hH => ?_)
 have hH := hH.addNil (z := ⟨28, 1⟩)
 refine bl (enc := (eL aN.enc)) h rfl Fq.1 BW.1 KS (by decide) (fun _ => rfl) hH (j := 0) rfl rfl (aM hH (j := 1) rfl) (fun t51 w13595 H' n' h hH => ?_)
 refine Z ?_
 refine cx w13595 rfl Om.1 hH (i := 7) rfl rfl rfl (hH.okOwn (j := 0) rfl).2 (hH.okOwn (j := 0) rfl).1 (Nat.le_of_ble_eq_true rfl) (fun H' hH => ?_)
 refine Z ?_
 refine kX h rfl fq.1 dB.1 hH (j := 2) rfl rfl (iD) (fun t58 w13596 h hH => ?_)
 refine Z ?_
 refine cx w13596 rfl BW.1 hH (i := 6) rfl rfl rfl (hH.okImm (j := 0) rfl).2 (hH.okImm (j := 0) rfl).1 (Nat.le_of_ble_eq_true rfl) (fun H' hH => ?_)
 refine Z ?_
 exact J fun g => wO _ _ _ _ _ _ _ _ _ _ _ _ _ _ _ _ _ _ _ _ _ _ h .nil .nil .nil w12587_2 w12587_3 w12587_4 w13595 w12587_5 b13582 b13583 b13588 w12584_0 w12584_1 w12585_0 w12586_0 w12587_0 w13596 .nil _ _ g _ _ (((((hH.addNil (z := ⟨74, 1⟩)).addNil (z := ⟨69, 1⟩)).addNil (z := ⟨70, 1⟩)).addNil (z := ⟨72, 7⟩)).sl 23 [12, 3, 2, 1, 13, 14, 15, 5, 16, 22, 21, 10, 19, 20, 18, 17, 11, 4, 0])
theorem yc (s_ v any e0_unitF e0_worthF e1_unitF e1_worthF e2_unitF e2_worthF t16 r) (h : gN s_ v any e0_unitF e0_worthF e1_unitF e1_worthF e2_unitF e2_worthF t16 = some r) : lS e0_unitF e0_worthF e1_unitF e1_worthF e2_unitF e2_worthF (.c0 s_ v any t16) r := tV e0_unitF e0_worthF e1_unitF e1_worthF e2_unitF e2_worthF (.c0 s_ v any t16) r h
theorem Fw (e r) (h : tK e = some r) : aL C 61 [(.lst (e.map ae.enc))] = some [(.int .i64 r)] := by
 refine aB (bu _ _ rfl) Q2 rfl (jmp 0 (.d (.lst (e.map ae.enc))) rfl ?_)
 refine Z ?_
 refine al h rfl Kq (sc rfl (sc rfl (sn))) (fun y hy => xj _ _ y hy) (fun _ => rfl) (fun t16 h => ?_)
 refine Wd h rfl rfl ?_ ?_ <;> intro _ h
 refine Z ?_
 exact J fun g => Bl _ _ _ _ _ h .nil g _ _ ((HP.nil _ _).addNil (z := ⟨164, 2⟩))
 refine Z ?_
 cases h; exact Pq rfl rfl
theorem AK (t t14 t15 t16 r) (h : fQ t t14 t15 t16 = some r) : sY t t14 t15 t16 r := by
 refine fQ.partial_correctness t t14 t15 (fun t16 r => sY t t14 t15 t16 r) (fun fQ ih_fQ t16 r h b0 g H n hH => ?_) t16 r h
 refine Po rfl ?_
 refine Z ?_
 refine Wc h rfl rfl ?_ ?_ <;> intro _ h
 refine Z ?_
 refine aA h rfl fq.1 dB.1 (fun _ => rfl) rfl rfl (fun t18 h => ?_)
 refine aR (d := (aN.enc t18)) rfl dB.1 rfl rfl ?_
 refine aQ rfl uO hH (fun b13791 H' n' hH => ?_)
 refine ax (new := (aN.av t18)) rfl dB.1 hH (i := 0) rfl rfl rfl rfl rfl (Nat.le_of_ble_eq_true rfl) (fun H' hH => ?_)
 refine Z ?_
 refine Wc h rfl rfl ?_ ?_ <;> intro _ h
 refine Z ?_
 cases h; exact Pq rfl rfl
 refine Z ?_
 exact J fun g => ih_fQ _ _ h b0 g _ _ (hH.sl 2 [1])
 refine Z ?_
 exact J fun g => Aw _ _ _ _ h g _ _
theorem qC (t l r) (h : oq t l = some r) (be0 H n L) (hH : HP H n (.box be0 (ab.av t) :: L)) : Raw C 35 [.pt be0 0, .d (.lst (l.map ac.enc))] H n (fun rs H' n' => ∃ (w'0 : AV), rs = [w'0] ∧ HP H' n' (br w'0 r :: .box be0 (ab.av t) :: L)) := by
 refine fa PB rfl (jmp 0 (.pt be0 0) rfl (jmp 1 (.d (.lst (l.map ac.enc))) rfl ?_))
 refine Z ?_
 exact J fun g => Ax _ _ _ _ _ _ h .nil _ _ g _ _ ((hH.addNil (z := ⟨105, 6⟩)).sl 2 [1, 0])
theorem zI (tF s_F Green EnterF DuringF LeaveF t27F t28F t29 r) (h : ff tF s_F Green EnterF DuringF LeaveF t27F t28F t29 = some r) : mU tF s_F EnterF DuringF LeaveF t27F t28F (.c0 Green t29) r := uy tF s_F EnterF DuringF LeaveF t27F t28F (.c0 Green t29) r h
theorem zJ (wF unitsF worthF n_ i k r) (h : ij wF unitsF worthF n_ i k = some r) : mY wF unitsF worthF (.c0 n_ i k) r := vd wF unitsF worthF (.c0 n_ i k) r h
theorem C2 (e i r) (h : ve e i = some r) : aL C 67 [(.lst (e.map ae.enc)), (.int .i64 i)] = some [(.int .i64 r)] := by
 refine aB (bu _ _ rfl) Q8 rfl (jmp 0 (.d (.lst (e.map ae.enc))) rfl (jmp 1 (.d (.int .i64 i)) rfl ?_))
 refine Z ?_
 refine Wc h rfl rfl ?_ ?_ <;> intro _ h
 refine Z ?_
 cases h; exact Pq rfl rfl
 refine Z ?_
 refine Wc h rfl rfl ?_ ?_ <;> intro _ h
 refine Z ?_
 cases h; exact Pq rfl rfl
 refine Z ?_
 exact J fun g => Eb _ _ _ _ h g _ _
theorem E1 (eF aC ops i r) (h : ji eF aC ops i = some r) : rV eF (.c0 aC ops i) r := zR eF (.c0 aC ops i) r h
theorem Gn (t e r) (h : B0 t e = some r) : aL C 69 [(ab.enc t), (.lst (e.map ae.enc))] = some [(.int .i64 r)] := by
 refine aB (bu _ _ rfl) Qa rfl (jmp 0 (.d (ab.enc t)) rfl (jmp 1 (.d (.lst (e.map ae.enc))) rfl ?_))
 refine Z ?_
 refine cu (cs := (ab.av t)) rfl bJ.1 rfl rfl rfl (HP.nil _ _) (fun b14089 H' n' hH => ?_)
 refine Z ?_
 exact J fun g => Dd _ _ _ _ _ h b14089 .nil g _ _ ((hH.addNil (z := ⟨3, 1⟩)).sl 2 [1, 0])
theorem uQ (tF : ab) (st : nn) (r : Bool) (h : cQ tF st = some r) : na tF st r := by
 refine cQ.partial_correctness tF (na tF) (fun r5_writable_L2_run' ih_ st r h => ?_) st r h
 cases st with
 | c0 i =>
  intro b0 g H n hH
  refine Po rfl ?_
  refine Z ?_
  refine Wc h rfl rfl ?_ ?_ <;> intro _ h
  refine Z ?_
  refine aA h rfl dr.1 bK.1 (fun _ => rfl) rfl rfl (fun t31 h => ?_)
  refine aR (d := (ah.enc t31)) rfl bK.1 rfl rfl ?_
  refine aQ rfl kf hH (fun b14149 H' n' hH => ?_)
  refine ax (new := (ah.av t31)) rfl bK.1 hH (i := 0) rfl rfl rfl rfl rfl (Nat.le_of_ble_eq_true rfl) (fun H' hH => ?_)
  refine Z ?_
  refine Wd h rfl rfl ?_ ?_ <;> intro _ h
  refine Z ?_
  refine al h rfl Hz (sc rfl (sn)) (fun y hy => ob _ y hy) (fun _ => rfl) (fun t40 h => ?_)
  revert h; cases t40 <;> intro h
  replace h := if0 h
  refine ba rfl rfl rfl ?_
  refine Z ?_
  cases h; exact Pq rfl rfl
  replace h := if1 h
  refine ba rfl rfl rfl ?_
  refine Z ?_
  refine al h rfl Hz (sc rfl (sn)) (fun y hy => ob _ y hy) (fun _ => rfl) (fun t46 h => ?_)
  revert h; cases t46 <;> intro h
  replace h := if0 h
  refine ba rfl rfl rfl ?_
  refine Z ?_
  cases h; exact Pq rfl rfl
  replace h := if1 h
  refine ba rfl rfl rfl ?_
  refine Z ?_
  refine al h rfl Hz (sc rfl (sn)) (fun y hy => ob _ y hy) (fun _ => rfl) (fun t52 h => ?_)
  revert h; cases t52 <;> intro h
  replace h := if0 h
  refine ba rfl rfl rfl ?_
  refine Z ?_
  cases h; exact Pq rfl rfl
  replace h := if1 h
  refine ba rfl rfl rfl ?_
  refine Z ?_
  exact J fun g => ih_ (.c1 _ _ _) _ h b0 b14149 g _ _ (hH.sl 2 [1, 0])
  refine Z ?_
  cases h; exact Pq rfl rfl
  refine Z ?_
  cases h; exact Pq rfl rfl
 | c1 i s_ j =>
  intro b0 b1 g H n hH
  refine Po rfl ?_
  refine Z ?_
  refine Wc h rfl rfl ?_ ?_ <;> intro _ h
  refine Z ?_
  refine aA h rfl ek.1 cZ.1 (fun _ => rfl) rfl rfl (fun t65 h => ?_)
  refine Z ?_
  refine al h rfl Km (sc rfl (sn)) (fun y hy => A5 _ y hy) (fun _ => rfl) (fun t68 h => ?_)
  revert h; cases t68 <;> intro h
  replace h := if0 h
  refine ba rfl rfl rfl ?_
  refine Z ?_
  cases h; exact Pq rfl rfl
  replace h := if1 h
  refine ba rfl rfl rfl ?_
  refine Z ?_
  exact J fun g => ih_ (.c1 _ _ _) _ h b0 b1 g _ _ hH
  refine Z ?_
  exact J fun g => ih_ (.c0 _) _ h b0 g _ _ (hH.sl 2 [0])
theorem lR (t l r) (h : fh t l = some r) : aL C 44 [(ab.enc t), (.lst (l.map ac.enc))] = some [(.lst (r.map ac.enc))] := by
 refine aB (bu _ _ rfl) PL rfl (jmp 0 (.d (ab.enc t)) rfl (jmp 1 (.d (.lst (l.map ac.enc))) rfl ?_))
 refine Z ?_
 refine cu (cs := (ab.av t)) rfl bJ.1 rfl rfl rfl (HP.nil _ _) (fun b14181 H' n' hH => ?_)
 refine Z ?_
 exact J fun g => vU _ _ _ _ _ h b14181 .nil g _ _ ((hH.addNil (z := ⟨105, 6⟩)).sl 2 [1, 0])
end Go.Proofs.YtkmbagocakiefaaGreatDoor.Wb
