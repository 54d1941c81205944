/- The abstract machine computes these functions. Printed by decomp.py. -/
import Derived.Test.YtkmbagocakiefaaGreatDoorD2
namespace Go.Proofs.YtkmbagocakiefaaGreatDoor.Wb
open Go Go.Jv
set_option maxHeartbeats 4000000
open Go.Proofs
set_option maxHeartbeats 4000000
attribute [local irreducible] EW EX PAt con
theorem zA (t r) (h : lx t = some r) (be0 H n L) (hH : HP H n (.box be0 [.nil, .nil, .nil, .nil, .nil, .nil, .nil, .nil, .nil, .nil, .nil, .nil, .nil, .nil, .nil, .nil, .nil] :: L)) : Raw C 10 [.pt be0 0, .agg (aI.av t)] H n (fun rs H' n' => ∃ w'0 w'1 w'3 w'4 : AV, rs = [.agg [w'0, w'1]] ∧ HP H' n' (.imm w'0 ⟨88, 5⟩ (r.1.map ak.enc) :: .imm w'1 ⟨90, 4⟩ (r.2.1.map ai.enc) :: .box be0 [.nil, .nil, .nil, .nil, .nil, .nil, w'3, w'4, .nil, .nil, .nil, .nil, .nil, .nil, .nil, .nil, .nil] :: bw w'3 r.2.2.1 :: bz w'4 r.2.2.2 :: L)) := by
 refine fa P3 rfl (jmp 0 (.pt be0 0) rfl (jmp 1 (.agg (aI.av t)) rfl ?_))
 refine Z ?_
 refine cu (cs := (aI.av t)) rfl my.1 rfl rfl rfl hH (fun b13421 H' n' hH => ?_)
 refine aQ rfl IQ hH (fun b13422 H' n' hH => ?_)
 refine Z ?_
 refine cr (cs := [.d (.str ⟨#[]⟩), .d (.int .i64 0), .d (.int .i64 4444), .d (.int .i64 0), .d (.int .i64 0)]) rfl pZ JP rfl ?_
 refine aQ rfl pZ hH (fun b13423 H' n' hH => ?_)
 refine ax (new := [.d (.str ⟨#[]⟩), .d (.int .i64 0), .d (.int .i64 4444), .d (.int .i64 0), .d (.int .i64 0)]) rfl cq.1 hH (i := 0) rfl rfl rfl rfl rfl (Nat.le_of_ble_eq_true rfl) (fun H' hH => ?_)
 refine Z ?_
 refine cr (cs := [.d (.int .i64 4444), .d (.int .i64 0), .d (.int .i64 0), .d (.int .i64 0)]) rfl qa JQ rfl ?_
 refine aQ rfl qa hH (fun b13424 H' n' hH => ?_)
 refine ax (new := [.d (.int .i64 4444), .d (.int .i64 0), .d (.int .i64 0), .d (.int .i64 0)]) rfl dO.1 hH (i := 0) rfl rfl rfl rfl rfl (Nat.le_of_ble_eq_true rfl) (fun H' hH => ?_)
 refine Z ?_
 refine ct (pz := [(1, 3), (2, 3), (1, 4), (2, 4), (3, 4), (1, 5), (2, 5)]) rfl rfl (by kernel_rfl) (by kernel_rfl) ?_
 refine Z ?_
 have hH := hH.addNil (z := ⟨88, 5⟩)
 refine cG (enc := ak.enc) (.d (.lst (t.Groups.map ak.enc))) h rfl dj.1 cq.1 GI (by decide) (fun _ => rfl) hH (j := 0) rfl rfl rfl kw (fun t13 w13425 i12425 H' n12425 h hH hoff12425 hn12425 hi12425 => ?_)
 have hof12425_0 := hoff12425.box (k := 0) rfl
 have hof12425_1 := hoff12425.box (k := 1) rfl
 have hof12425_2 := hoff12425.box (k := 2) rfl
 have hof12425_3 := hoff12425.box (k := 3) rfl
 have hof12425_4 := hoff12425.box (k := 4) rfl
 have hof12425 := hoff12425.2
 clear hoff12425
 refine bi (v := .agg [.d (.str ⟨#[]⟩), .d (.int .i64 0), .d (.int .i64 4444), .d (.int .i64 0), .d (.int .i64 0)]) (.of [b13423] []) rfl (dR cq.1 hH (i := 2) rfl rfl rfl) ⟨rfl, rfl⟩ (bi (v := .agg [.d (.str ⟨#[]⟩), .d (.int .i64 0), .d (.int .i64 4444), .d (.int .i64 0), .d (.int .i64 0)]) (.of [b13423] []) rfl (dR cq.1 hH (i := 2) rfl rfl rfl) ⟨rfl, rfl⟩ ?_)
 refine pm (enc := ak.enc) (xs := [(⟨⟨#[]⟩, 0, 4444, 0, 0⟩ : ak), (⟨⟨#[]⟩, 0, 4444, 0, 0⟩ : ak)]) [.agg [.d (.str ⟨#[]⟩), .d (.int .i64 0), .d (.int .i64 4444), .d (.int .i64 0), .d (.int .i64 0)], .agg [.d (.str ⟨#[]⟩), .d (.int .i64 0), .d (.int .i64 4444), .d (.int .i64 0), .d (.int .i64 0)]] rfl dj.1 cq.1 pZ ⟨by decide, Nat.le_of_ble_eq_true rfl⟩ QU (fun _ => rfl) (fun _ => rfl) rfl rfl rfl hH (fun w13426 i12426 H' n12426 hH hoff12426 hn12426 hi12426 => ?_)
 have hof12426_0 := hoff12426.own (k := 0) rfl
 have hof12426_1 := hoff12426.box (k := 1) rfl
 have hof12426_2 := hoff12426.box (k := 2) rfl
 have hof12426_3 := hoff12426.box (k := 3) rfl
 have hof12426_4 := hoff12426.box (k := 4) rfl
 have hof12426_5 := hoff12426.box (k := 5) rfl
 have hof12426 := hoff12426.2
 clear hoff12426
 refine cG (enc := ak.enc) (w13426) h rfl dj.1 cq.1 GI (by decide) (fun _ => rfl) hH (j := 1) rfl rfl rfl (aM hH (j := 0) rfl) (fun t17 w13427 i12427 H' n12427 h hH hoff12427 hn12427 hi12427 => ?_)
 have hof12427_0 := hoff12427.own (k := 0) rfl
 have hof12427_1 := hoff12427.box (k := 1) rfl
 have hof12427_2 := hoff12427.box (k := 2) rfl
 have hof12427_3 := hoff12427.box (k := 3) rfl
 have hof12427_4 := hoff12427.box (k := 4) rfl
 have hof12427_5 := hoff12427.box (k := 5) rfl
 have hof12427 := hoff12427.2
 clear hoff12427
 refine bi (v := w13427) (az) rfl (jS) ⟨rfl, rfl⟩ (xn (pk rfl rfl aG (pk rfl rfl nco (pk rfl rfl aG (pk rfl rfl nco (pk rfl rfl aG (pk rfl rfl nco (pk rfl rfl nco (pkn)))))))) ?_)
 refine Z ?_
 refine ct (pz := [(1, 3), (2, 3), (1, 4), (2, 4), (3, 4), (1, 5), (2, 5)]) rfl rfl (by kernel_rfl) (by kernel_rfl) ?_
 refine Z ?_
 have hH := hH.addNil (z := ⟨90, 4⟩)
 refine cG (enc := ai.enc) (.d (.lst (t.Conflicts.map ai.enc))) h rfl iS.1 dO.1 GJ (by decide) (fun _ => rfl) hH (j := 0) rfl rfl rfl kw (fun t20 w13428 i12428 H' n12428 h hH hoff12428 hn12428 hi12428 => ?_)
 have hof12428_0 := hoff12428.own (k := 0) rfl
 have hof12428_1 := hoff12428.own (k := 1) rfl
 have hof12428_2 := hoff12428.box (k := 2) rfl
 have hof12428_3 := hoff12428.box (k := 3) rfl
 have hof12428_4 := hoff12428.box (k := 4) rfl
 have hof12428_5 := hoff12428.box (k := 5) rfl
 have hof12428_6 := hoff12428.box (k := 6) rfl
 have hof12428 := hoff12428.2
 clear hoff12428
 refine bi (v := .agg [.d (.int .i64 4444), .d (.int .i64 0), .d (.int .i64 0), .d (.int .i64 0)]) (.of [b13424] []) rfl (dR dO.1 hH (i := 3) rfl rfl rfl) ⟨rfl, rfl⟩ (bi (v := .agg [.d (.int .i64 4444), .d (.int .i64 0), .d (.int .i64 0), .d (.int .i64 0)]) (.of [b13424] []) rfl (dR dO.1 hH (i := 3) rfl rfl rfl) ⟨rfl, rfl⟩ ?_)
 refine pm (enc := ai.enc) (xs := [(⟨4444, 0, 0, 0⟩ : ai), (⟨4444, 0, 0, 0⟩ : ai)]) [.agg [.d (.int .i64 4444), .d (.int .i64 0), .d (.int .i64 0), .d (.int .i64 0)], .agg [.d (.int .i64 4444), .d (.int .i64 0), .d (.int .i64 0), .d (.int .i64 0)]] rfl iS.1 dO.1 qa ⟨by decide, Nat.le_of_ble_eq_true rfl⟩ QV (fun _ => rfl) (fun _ => rfl) rfl rfl rfl hH (fun w13429 i12429 H' n12429 hH hoff12429 hn12429 hi12429 => ?_)
 have hof12429_0 := hoff12429.own (k := 0) rfl
 have hof12429_1 := hoff12429.own (k := 1) rfl
 have hof12429_2 := hoff12429.own (k := 2) rfl
 have hof12429_3 := hoff12429.box (k := 3) rfl
 have hof12429_4 := hoff12429.box (k := 4) rfl
 have hof12429_5 := hoff12429.box (k := 5) rfl
 have hof12429_6 := hoff12429.box (k := 6) rfl
 have hof12429_7 := hoff12429.box (k := 7) rfl
 have hof12429 := hoff12429.2
 clear hoff12429
 refine cG (enc := ai.enc) (w13429) h rfl iS.1 dO.1 GJ (by decide) (fun _ => rfl) hH (j := 1) rfl rfl rfl (aM hH (j := 0) rfl) (fun t24 w13430 i12430 H' n12430 h hH hoff12430 hn12430 hi12430 => ?_)
 have hof12430_0 := hoff12430.own (k := 0) rfl
 have hof12430_1 := hoff12430.own (k := 1) rfl
 have hof12430_2 := hoff12430.own (k := 2) rfl
 have hof12430_3 := hoff12430.box (k := 3) rfl
 have hof12430_4 := hoff12430.box (k := 4) rfl
 have hof12430_5 := hoff12430.box (k := 5) rfl
 have hof12430_6 := hoff12430.box (k := 6) rfl
 have hof12430_7 := hoff12430.box (k := 7) rfl
 have hof12430 := hoff12430.2
 clear hoff12430
 refine bi (v := w13430) (az) rfl (jS) ⟨rfl, rfl⟩ (xn (pk rfl rfl aG (pk rfl rfl nco (pk rfl rfl aG (pk rfl rfl nco (pk rfl rfl aG (pk rfl rfl nco (pk rfl rfl nco (pkn)))))))) ?_)
 refine Z ?_
 refine de (enc := (eL ak.enc)) (e := t17) (w13427) rfl Fn.1 Eo.1 LS (by decide) QK (fun _ => rfl) (fun _ => rfl) rfl (FS.own hH (j := 2) rfl (fun _ hH => FS.nil hH)) (fun w13431 H' n' hH => ?_)
 have hH := hH.addNil (z := ⟨22, 1⟩)
 refine bl (enc := (eL ak.enc)) h rfl Fn.1 Eo.1 KO (by decide) (fun _ => rfl) hH (j := 0) rfl rfl (aM hH (j := 1) rfl) (fun t32 w13432 H' n' h hH => ?_)
 refine Z ?_
 refine cx w13432 rfl Oj.1 hH (i := 10) rfl rfl rfl (hH.okOwn (j := 0) rfl).2 (hH.okOwn (j := 0) rfl).1 (Nat.le_of_ble_eq_true rfl) (fun H' hH => ?_)
 refine Z ?_
 refine de (enc := (eL ai.enc)) (e := t24) (w13430) rfl Fo.1 Ep.1 LT (by decide) QL (fun _ => rfl) (fun _ => rfl) rfl (FS.own hH (j := 2) rfl (fun _ hH => FS.nil hH)) (fun w13433 H' n' hH => ?_)
 have hH := hH.addNil (z := ⟨23, 1⟩)
 refine bl (enc := (eL ai.enc)) h rfl Fo.1 Ep.1 KP (by decide) (fun _ => rfl) hH (j := 0) rfl rfl (aM hH (j := 1) rfl) (fun t42 w13434 H' n' h hH => ?_)
 refine Z ?_
 refine cx w13434 rfl Ok.1 hH (i := 12) rfl rfl rfl (hH.okOwn (j := 0) rfl).2 (hH.okOwn (j := 0) rfl).1 (Nat.le_of_ble_eq_true rfl) (fun H' hH => ?_)
 refine Z ?_
 refine ct (pz := [(2, 7), (4, 7), (2, 9), (4, 9)]) rfl rfl (by kernel_rfl) (by kernel_rfl) ?_
 refine Z ?_
 refine bi (v := .d (.int .i64 (t.Groups.length : Int))) (az) rfl (GQ dj.1 rfl) ⟨rfl, rfl⟩ ?_
 refine DH (enc := ak.enc) h rfl dj.1 cq.1 hH (j := 6) rfl rfl (iD) (fun t49 w13435 h hH => ?_)
 refine Z ?_
 refine bi (v := .d (.int .i64 (t.Conflicts.length : Int))) (az) rfl (GQ iS.1 rfl) ⟨rfl, rfl⟩ ?_
 refine DH (enc := ai.enc) h rfl iS.1 dO.1 hH (j := 5) rfl rfl (iD) (fun t54 w13436 h hH => ?_)
 refine bi (v := .agg [w13435, w13436]) (az) rfl (cy IQ JJ (by show er dD _ _ [(0, w13435), (1, w13436)] = _; simp only [er, eH (hH.okImm (j := 1) rfl), eH (hH.okImm (j := 0) rfl)]; rfl)) ⟨rfl, rfl⟩ ?_
 refine bX (new := [w13435, w13436]) [w13435, w13436] rfl my.1 hH (i := 12) rfl rfl rfl rfl (by simp only [List.all_cons, List.all_nil, (hH.okImm (j := 1) rfl).1, (hH.okImm (j := 0) rfl).1]; rfl) (Nat.le_of_ble_eq_true rfl) rfl (fun H' hH => ?_)
 refine xn (pk rfl rfl aG (pk rfl rfl aG (pk rfl rfl aG (pk rfl rfl aG (pkn))))) ?_
 refine Z ?_
 refine Pt rfl (Cr ?_)
 obtain rfl := si h
 exact prF (.inl rfl) (iI (.agg [w13435, w13436]) my.1 hH (i := 12) rfl rfl rfl (aJ)) ⟨w13435, w13436, w13432, w13434, rfl, (hH.sl 15 [1, 0, 14, 4, 2])⟩
theorem BI (groups pairs l r) (h : od groups pairs l = some r) (be0 we1 we2 H n L) (hH : HP H n (.box be0 [.nil, .nil, .nil, .nil, .nil, .nil, we1, we2, .nil, .nil, .nil, .nil, .nil, .nil, .nil, .nil, .nil] :: bw we1 groups :: bz we2 pairs :: L)) : Raw C 11 [.pt be0 0, .d (.lst (l.map aE.enc))] H n (fun rs H' n' => ∃ w'0 w'2 w'3 w'4 : AV, rs = [w'0] ∧ HP H' n' (.imm w'0 ⟨92, 4⟩ (r.1.map aE.enc) :: .box be0 [.nil, .nil, .nil, .nil, .nil, .nil, w'2, w'3, w'4, .nil, .nil, .nil, .nil, .nil, .nil, .nil, .nil] :: bw w'2 r.2.1 :: bz w'3 r.2.2.1 :: bF w'4 r.2.2.2 :: L)) := by
 refine fa P4 rfl (jmp 0 (.pt be0 0) rfl (jmp 1 (.d (.lst (l.map aE.enc))) rfl ?_))
 refine Z ?_
 refine cr (cs := [.d (.str ⟨#[]⟩), .d (.bool false), .d (.int .i64 4444), .d (.int .i64 0)]) rfl uP JR rfl ?_
 refine aQ rfl uP hH (fun b13438 H' n' hH => ?_)
 refine ax (new := [.d (.str ⟨#[]⟩), .d (.bool false), .d (.int .i64 4444), .d (.int .i64 0)]) rfl df.1 hH (i := 0) rfl rfl rfl rfl rfl (Nat.le_of_ble_eq_true rfl) (fun H' hH => ?_)
 refine Z ?_
 refine ct (pz := [(1, 2), (1, 3), (2, 3), (1, 4)]) rfl rfl (by kernel_rfl) (by kernel_rfl) ?_
 refine Z ?_
 have hH := hH.addNil (z := ⟨92, 4⟩)
 refine cG (enc := aE.enc) (.d (.lst (l.map aE.enc))) h rfl ej.1 df.1 GK (by decide) (fun _ => rfl) hH (j := 0) rfl rfl rfl kw (fun t9 w13439 i12439 H' n12439 h hH hoff12439 hn12439 hi12439 => ?_)
 have hof12439_0 := hoff12439.box (k := 0) rfl
 have hof12439_1 := hoff12439.box (k := 1) rfl
 have hof12439_2 := hoff12439.own (k := 2) rfl
 have hof12439_3 := hoff12439.own (k := 3) rfl
 have hof12439 := hoff12439.2
 clear hoff12439
 refine bi (v := .agg [.d (.str ⟨#[]⟩), .d (.bool false), .d (.int .i64 4444), .d (.int .i64 0)]) (.of [b13438] []) rfl (dR df.1 hH (i := 1) rfl rfl rfl) ⟨rfl, rfl⟩ (bi (v := .agg [.d (.str ⟨#[]⟩), .d (.bool false), .d (.int .i64 4444), .d (.int .i64 0)]) (.of [b13438] []) rfl (dR df.1 hH (i := 1) rfl rfl rfl) ⟨rfl, rfl⟩ ?_)
 refine pm (enc := aE.enc) (xs := [(⟨⟨#[]⟩, false, 4444, 0⟩ : aE), (⟨⟨#[]⟩, false, 4444, 0⟩ : aE)]) [.agg [.d (.str ⟨#[]⟩), .d (.bool false), .d (.int .i64 4444), .d (.int .i64 0)], .agg [.d (.str ⟨#[]⟩), .d (.bool false), .d (.int .i64 4444), .d (.int .i64 0)]] rfl ej.1 df.1 uP ⟨by decide, Nat.le_of_ble_eq_true rfl⟩ QW (fun _ => rfl) (fun _ => rfl) rfl rfl rfl hH (fun w13440 i12440 H' n12440 hH hoff12440 hn12440 hi12440 => ?_)
 have hof12440_0 := hoff12440.own (k := 0) rfl
 have hof12440_1 := hoff12440.box (k := 1) rfl
 have hof12440_2 := hoff12440.box (k := 2) rfl
 have hof12440_3 := hoff12440.own (k := 3) rfl
 have hof12440_4 := hoff12440.own (k := 4) rfl
 have hof12440 := hoff12440.2
 clear hoff12440
 refine cG (enc := aE.enc) (w13440) h rfl ej.1 df.1 GK (by decide) (fun _ => rfl) hH (j := 1) rfl rfl rfl (aM hH (j := 0) rfl) (fun t13 w13441 i12441 H' n12441 h hH hoff12441 hn12441 hi12441 => ?_)
 have hof12441_0 := hoff12441.own (k := 0) rfl
 have hof12441_1 := hoff12441.box (k := 1) rfl
 have hof12441_2 := hoff12441.box (k := 2) rfl
 have hof12441_3 := hoff12441.own (k := 3) rfl
 have hof12441_4 := hoff12441.own (k := 4) rfl
 have hof12441 := hoff12441.2
 clear hoff12441
 refine bi (v := w13441) (az) rfl (jS) ⟨rfl, rfl⟩ (xn (pk rfl rfl nco (pk rfl rfl nco (pk rfl rfl aG (pk rfl rfl nco (pkn))))) ?_)
 refine Z ?_
 refine de (enc := (eL aE.enc)) (e := t13) (w13441) rfl Fp.1 Eq.1 LU (by decide) QM (fun _ => rfl) (fun _ => rfl) rfl (FS.own hH (j := 0) rfl (fun _ hH => FS.nil hH)) (fun w13442 H' n' hH => ?_)
 have hH := hH.addNil (z := ⟨26, 1⟩)
 refine bl (enc := (eL aE.enc)) h rfl Fp.1 Eq.1 KQ (by decide) (fun _ => rfl) hH (j := 0) rfl rfl (aM hH (j := 1) rfl) (fun t21 w13443 H' n' h hH => ?_)
 refine Z ?_
 refine cx w13443 rfl Ol.1 hH (i := 5) rfl rfl rfl (hH.okOwn (j := 0) rfl).2 (hH.okOwn (j := 0) rfl).1 (Nat.le_of_ble_eq_true rfl) (fun H' hH => ?_)
 refine Z ?_
 refine kX h rfl ej.1 df.1 hH (j := 2) rfl rfl (iD) (fun t27 w13444 h hH => ?_)
 refine Z ?_
 refine Pt rfl (Cr ?_)
 obtain rfl := si h
 exact prF (.inl rfl) (aS (w13444) rfl (aJ)) ⟨w13444, we1, we2, w13443, rfl, (hH.sl 9 [0, 6, 7, 8, 1])⟩
theorem rT (groups pairs dets texts l r) (h : kg groups pairs dets texts l = some r) (be0 we1 we2 we3 we4 H n L) (hH : HP H n (.box be0 [.nil, .nil, .nil, .nil, .nil, .nil, we1, we2, we3, .nil, .nil, we4, .nil, .nil, .nil, .nil, .nil] :: bw we1 groups :: bz we2 pairs :: bF we3 dets :: bL we4 texts :: L)) : Raw C 12 [.pt be0 0, .d (.lst (l.map Dat.str))] H n (fun rs H' n' => ∃ w'0 w'2 w'3 w'4 w'5 : AV, rs = [w'0] ∧ HP H' n' (.imm w'0 ⟨9, 1⟩ (r.1.map Dat.str) :: .box be0 [.nil, .nil, .nil, .nil, .nil, .nil, w'2, w'3, w'4, .nil, .nil, w'5, .nil, .nil, .nil, .nil, .nil] :: bw w'2 r.2.1 :: bz w'3 r.2.2.1 :: bF w'4 r.2.2.2.1 :: bL w'5 r.2.2.2.2 :: L)) := by
 refine fa P5 rfl (jmp 0 (.pt be0 0) rfl (jmp 1 (.d (.lst (l.map Dat.str))) rfl ?_))
 refine Z ?_
 have hH := hH.addNil (z := ⟨9, 1⟩)
 refine bl (enc := Dat.str) h rfl bv.1 bM.1 gV (by decide) (fun _ => rfl) hH (j := 0) rfl rfl kw (fun t7 w13445 H' n' h hH => ?_)
 refine cN (enc := Dat.str) (xs := [⟨#[114, 111, 111, 109]⟩, ⟨#[114, 111, 111, 109]⟩]) [.d (.str ⟨#[114, 111, 111, 109]⟩), .d (.str ⟨#[114, 111, 111, 109]⟩)] rfl bv.1 bM.1 mz ⟨by decide, Nat.le_of_ble_eq_true rfl⟩ zd9 (fun _ => rfl) (fun _ => rfl) rfl rfl hH (fun w13446 H' n' hH => ?_)
 refine bl (enc := Dat.str) h rfl bv.1 bM.1 gV (by decide) (fun _ => rfl) hH (j := 1) rfl rfl (aM hH (j := 0) rfl) (fun t9 w13447 H' n' h hH => ?_)
 refine Z ?_
 refine de (enc := (eL Dat.str)) (e := t9) (w13447) rfl Fr.1 ze.1 LV (by decide) QN (fun _ => rfl) (fun _ => rfl) rfl (FS.own hH (j := 0) rfl (fun _ hH => FS.nil hH)) (fun w13448 H' n' hH => ?_)
 refine bl (enc := (eL Dat.str)) h rfl Fr.1 ze.1 KR (by decide) (fun _ => rfl) hH (j := 7) rfl rfl (aM hH (j := 0) rfl) (fun t17 w13449 H' n' h hH => ?_)
 refine Z ?_
 refine cx w13449 rfl On.1 hH (i := 4) rfl rfl rfl (hH.okOwn (j := 0) rfl).2 (hH.okOwn (j := 0) rfl).1 (Nat.le_of_ble_eq_true rfl) (fun H' hH => ?_)
 refine Z ?_
 refine kX h rfl bv.1 bM.1 hH (j := 2) rfl rfl (iD) (fun t23 w13450 h hH => ?_)
 refine Z ?_
 refine Pt rfl (Cr ?_)
 obtain rfl := si h
 exact prF (.inl rfl) (aS (w13450) rfl (aJ)) ⟨w13450, we1, we2, we3, w13449, rfl, (hH.sl 9 [0, 5, 6, 7, 8, 1])⟩
theorem rU (nodes stmts tnexts groups pairs dets vars texts e r) (h : gS nodes stmts tnexts groups pairs dets vars texts e = some r) (be0 we1 we2 we3 we4 we5 we6 we7 we8 H n L) (hH : HP H n (.box be0 [we1, we2, we3, .nil, .nil, .nil, we4, we5, we6, we7, .nil, we8, .nil, .nil, .nil, .nil, .nil] :: bS we1 nodes :: bT we2 stmts :: bU we3 tnexts :: bw we4 groups :: bz we5 pairs :: bF we6 dets :: bV we7 vars :: bL we8 texts :: L)) : Raw C 14 [.pt be0 0, .d (.lst (e.map ae.enc))] H n (fun rs H' n' => ∃ w'0 w'2 w'3 w'4 w'5 w'6 w'7 w'8 w'9 : AV, rs = [w'0] ∧ HP H' n' (.imm w'0 ⟨107, 5⟩ (r.1.map ae.enc) :: .box be0 [w'2, w'3, w'4, .nil, .nil, .nil, w'5, w'6, w'7, w'8, .nil, w'9, .nil, .nil, .nil, .nil, .nil] :: bS w'2 r.2.1 :: bT w'3 r.2.2.1 :: bU w'4 r.2.2.2.1 :: bw w'5 r.2.2.2.2.1 :: bz w'6 r.2.2.2.2.2.1 :: bF w'7 r.2.2.2.2.2.2.1 :: bV w'8 r.2.2.2.2.2.2.2.1 :: bL w'9 r.2.2.2.2.2.2.2.2 :: L)) := by
 refine fa P7 rfl (jmp 0 (.pt be0 0) rfl (jmp 1 (.d (.lst (e.map ae.enc))) rfl ?_))
 refine Z ?_
 refine cr (cs := [.d (.int .i64 4444), .d (.int .i32 0), .d (.str ⟨#[]⟩), .d (.int .i64 0), .d (.int .i64 0)]) rfl dE gu rfl ?_
 refine aQ rfl dE hH (fun b13451 H' n' hH => ?_)
 refine ax (new := [.d (.int .i64 4444), .d (.int .i32 0), .d (.str ⟨#[]⟩), .d (.int .i64 0), .d (.int .i64 0)]) rfl bm.1 hH (i := 0) rfl rfl rfl rfl rfl (Nat.le_of_ble_eq_true rfl) (fun H' hH => ?_)
 refine Z ?_
 refine ct (pz := [(1, 2), (1, 3), (2, 3), (1, 4)]) rfl rfl (by kernel_rfl) (by kernel_rfl) ?_
 refine Z ?_
 have hH := hH.addNil (z := ⟨107, 5⟩)
 refine cG (enc := ae.enc) (.d (.lst (e.map ae.enc))) h rfl dQ.1 bm.1 vM (by decide) (fun _ => rfl) hH (j := 0) rfl rfl rfl kw (fun t9 w13452 i12452 H' n12452 h hH hoff12452 hn12452 hi12452 => ?_)
 have hof12452_0 := hoff12452.box (k := 0) rfl
 have hof12452_1 := hoff12452.box (k := 1) rfl
 have hof12452_2 := hoff12452.own (k := 2) rfl
 have hof12452_3 := hoff12452.own (k := 3) rfl
 have hof12452_4 := hoff12452.own (k := 4) rfl
 have hof12452_5 := hoff12452.own (k := 5) rfl
 have hof12452_6 := hoff12452.own (k := 6) rfl
 have hof12452_7 := hoff12452.own (k := 7) rfl
 have hof12452_8 := hoff12452.own (k := 8) rfl
 have hof12452_9 := hoff12452.own (k := 9) rfl
 have hof12452 := hoff12452.2
 clear hoff12452
 refine bi (v := .agg [.d (.int .i64 4444), .d (.int .i32 0), .d (.str ⟨#[]⟩), .d (.int .i64 0), .d (.int .i64 0)]) (.of [b13451] []) rfl (dR bm.1 hH (i := 1) rfl rfl rfl) ⟨rfl, rfl⟩ (bi (v := .agg [.d (.int .i64 4444), .d (.int .i32 0), .d (.str ⟨#[]⟩), .d (.int .i64 0), .d (.int .i64 0)]) (.of [b13451] []) rfl (dR bm.1 hH (i := 1) rfl rfl rfl) ⟨rfl, rfl⟩ ?_)
 refine pm (enc := ae.enc) (xs := [(⟨4444, 0, ⟨#[]⟩, (⟨0, 0⟩ : bd)⟩ : ae), (⟨4444, 0, ⟨#[]⟩, (⟨0, 0⟩ : bd)⟩ : ae)]) [.agg [.d (.int .i64 4444), .d (.int .i32 0), .d (.str ⟨#[]⟩), .d (.int .i64 0), .d (.int .i64 0)], .agg [.d (.int .i64 4444), .d (.int .i32 0), .d (.str ⟨#[]⟩), .d (.int .i64 0), .d (.int .i64 0)]] rfl dQ.1 bm.1 dE ⟨by decide, Nat.le_of_ble_eq_true rfl⟩ HJ (fun _ => rfl) (fun _ => rfl) rfl rfl rfl hH (fun w13453 i12453 H' n12453 hH hoff12453 hn12453 hi12453 => ?_)
 have hof12453_0 := hoff12453.own (k := 0) rfl
 have hof12453_1 := hoff12453.box (k := 1) rfl
 have hof12453_2 := hoff12453.box (k := 2) rfl
 have hof12453_3 := hoff12453.own (k := 3) rfl
 have hof12453_4 := hoff12453.own (k := 4) rfl
 have hof12453_5 := hoff12453.own (k := 5) rfl
 have hof12453_6 := hoff12453.own (k := 6) rfl
 have hof12453_7 := hoff12453.own (k := 7) rfl
 have hof12453_8 := hoff12453.own (k := 8) rfl
 have hof12453_9 := hoff12453.own (k := 9) rfl
 have hof12453_10 := hoff12453.own (k := 10) rfl
 have hof12453 := hoff12453.2
 clear hoff12453
 refine cG (enc := ae.enc) (w13453) h rfl dQ.1 bm.1 vM (by decide) (fun _ => rfl) hH (j := 1) rfl rfl rfl (aM hH (j := 0) rfl) (fun t13 w13454 i12454 H' n12454 h hH hoff12454 hn12454 hi12454 => ?_)
 have hof12454_0 := hoff12454.own (k := 0) rfl
 have hof12454_1 := hoff12454.box (k := 1) rfl
 have hof12454_2 := hoff12454.box (k := 2) rfl
 have hof12454_3 := hoff12454.own (k := 3) rfl
 have hof12454_4 := hoff12454.own (k := 4) rfl
 have hof12454_5 := hoff12454.own (k := 5) rfl
 have hof12454_6 := hoff12454.own (k := 6) rfl
 have hof12454_7 := hoff12454.own (k := 7) rfl
 have hof12454_8 := hoff12454.own (k := 8) rfl
 have hof12454_9 := hoff12454.own (k := 9) rfl
 have hof12454_10 := hoff12454.own (k := 10) rfl
 have hof12454 := hoff12454.2
 clear hoff12454
 refine bi (v := w13454) (az) rfl (jS) ⟨rfl, rfl⟩ (xn (pk rfl rfl nco (pk rfl rfl nco (pk rfl rfl aG (pk rfl rfl nco (pkn))))) ?_)
 refine Z ?_
 refine de (enc := (eL ae.enc)) (e := t13) (w13454) rfl Fj.1 BZ.1 M1 (by decide) QT (fun _ => rfl) (fun _ => rfl) rfl (FS.own hH (j := 0) rfl (fun _ hH => FS.nil hH)) (fun w13455 H' n' hH => ?_)
 refine bl (enc := (eL ae.enc)) h rfl Fj.1 BZ.1 KW (by decide) (fun _ => rfl) hH (j := 5) rfl rfl (aM hH (j := 0) rfl) (fun t21 w13456 H' n' h hH => ?_)
 refine Z ?_
 refine cx w13456 rfl Of.1 hH (i := 5) rfl rfl rfl (hH.okOwn (j := 0) rfl).2 (hH.okOwn (j := 0) rfl).1 (Nat.le_of_ble_eq_true rfl) (fun H' hH => ?_)
 refine Z ?_
 refine kX h rfl dQ.1 bm.1 hH (j := 2) rfl rfl (iD) (fun t27 w13457 h hH => ?_)
 refine Z ?_
 refine Pt rfl (Cr ?_)
 obtain rfl := si h
 exact prF (.inl rfl) (aS (w13457) rfl (aJ)) ⟨w13457, w13456, we2, we3, we4, we5, we6, we7, we8, rfl, (hH.sl 14 [0, 6, 1, 7, 8, 9, 10, 11, 12, 13])⟩
def kS (l : List ac) (Kind : Int) (Name : ByteArray) (Ix : Int) (At_Line : Int) (At_Col : Int) : kY → ((List ac) × (LL ae) × (LL ac) × (LL aw) × (LL ak) × (LL ai) × (LL aE) × (LL aN) × (LL ByteArray)) → Prop := fun st r => match st with
  | .c0 nodes stmts tnexts groups pairs dets vars texts full i => ∀ w1 w2 w3 w4 w5 w6 w7 w8 b9 w10 be0 L g H n (hH : HP H n (.box be0 [w1, w2, w3, .nil, .nil, .nil, w4, w5, w6, w7, .nil, w8, .nil, .nil, .nil, .nil, .nil] :: bS w1 nodes :: bT w2 stmts :: bU w3 tnexts :: bw w4 groups :: bz w5 pairs :: bF w6 dets :: bV w7 vars :: bL w8 texts :: .box b9 [.d (.int .i64 Kind), .d (.str Name), .d (.int .i64 Ix), .nil, .d (.int .i64 At_Line), .d (.int .i64 At_Col)] :: br w10 full :: L)), PAt C (aj Tryz.f13) (.a (.b (.a (.b (.b (.b .o)))))) ⟨upd (upd (upd (upd (upd g 0 (.pt be0 0)) 1 (.d (.lst (l.map ac.enc)))) 5 (.pt b9 0)) 6 (w10)) 7 (.d (.int .i64 i)), H, n⟩ (cb C Tryz.f13 (fun rs H' n' => ∃ w'0 w'2 w'3 w'4 w'5 w'6 w'7 w'8 w'9 : AV, rs = [w'0] ∧ HP H' n' (.imm w'0 ⟨105, 6⟩ (r.1.map ac.enc) :: .box be0 [w'2, w'3, w'4, .nil, .nil, .nil, w'5, w'6, w'7, w'8, .nil, w'9, .nil, .nil, .nil, .nil, .nil] :: bS w'2 r.2.1 :: bT w'3 r.2.2.1 :: bU w'4 r.2.2.2.1 :: bw w'5 r.2.2.2.2.1 :: bz w'6 r.2.2.2.2.2.1 :: bF w'7 r.2.2.2.2.2.2.1 :: bV w'8 r.2.2.2.2.2.2.2.1 :: bL w'9 r.2.2.2.2.2.2.2.2 :: L)))
def kT (tF : ab) (NameF : ByteArray) (StartF : Int) (Name1F : ByteArray) (Tables_GroupsF : List ak) (Tables_ConflictsF : List ai) (DetsF : List aE) (TimersF : List ByteArray) (CountersF : List ByteArray) (VarsF : List aN) (Start1F : Int) : kZ → (ByteArray × (List ak) × (List ai) × (List aE) × (List ByteArray) × (List ByteArray) × (List aN) × (List ah) × Int × R9) → Prop := fun st r => match st with
  | .c0 nodes stmts tnexts groups pairs dets vars texts full i => ∀ w1 w2 w3 w4 w5 w6 w7 w8 b9 b10 b11 w12 w13 w14 w15 w16 w17 w18 be0 L g H n (hH : HP H n (.box be0 [w1, w2, w3, .nil, .nil, .nil, w4, w5, w6, w7, .nil, w8, .nil, .nil, .nil, .nil, .nil] :: bS w1 nodes :: bT w2 stmts :: bU w3 tnexts :: bw w4 groups :: bz w5 pairs :: bF w6 dets :: bV w7 vars :: bL w8 texts :: .box b9 (ab.av tF) :: .box b10 [.d (.str NameF), .nil, .nil, .nil, .nil, .nil, .nil, .nil, .d (.int .i64 StartF)] :: .box b11 [.d (.str Name1F), w12, w13, w14, w15, w16, w17, .nil, .d (.int .i64 Start1F)] :: .imm w12 ⟨88, 5⟩ (Tables_GroupsF.map ak.enc) :: .imm w13 ⟨90, 4⟩ (Tables_ConflictsF.map ai.enc) :: .imm w14 ⟨92, 4⟩ (DetsF.map aE.enc) :: .imm w15 ⟨9, 1⟩ (TimersF.map Dat.str) :: .imm w16 ⟨9, 1⟩ (CountersF.map Dat.str) :: .imm w17 ⟨67, 2⟩ (VarsF.map aN.enc) :: zm w18 full :: L)), PAt C (aj Tryz.f4) (.a (.b (.a (.b (.b (.b (.b (.b (.b (.b .o)))))))))) ⟨upd (upd (upd (upd (upd (upd g 0 (.pt be0 0)) 3 (.pt b9 0)) 4 (.pt b10 0)) 5 (.pt b11 0)) 8 (w18)) 9 (.d (.int .i64 i)), H, n⟩ (cb C Tryz.f4 (fun rs H' n' => ∃ w'0 w'1 w'2 w'3 w'4 w'5 w'6 w'8 w'9 w'10 w'11 w'12 w'13 w'14 w'15 w'16 : AV, rs = [.agg [.d (.str r.1), w'0, w'1, w'2, w'3, w'4, w'5, w'6, .d (.int .i64 r.2.2.2.2.2.2.2.2.1)]] ∧ HP H' n' (.imm w'0 ⟨88, 5⟩ (r.2.1.map ak.enc) :: .imm w'1 ⟨90, 4⟩ (r.2.2.1.map ai.enc) :: .imm w'2 ⟨92, 4⟩ (r.2.2.2.1.map aE.enc) :: .imm w'3 ⟨9, 1⟩ (r.2.2.2.2.1.map Dat.str) :: .imm w'4 ⟨9, 1⟩ (r.2.2.2.2.2.1.map Dat.str) :: .imm w'5 ⟨67, 2⟩ (r.2.2.2.2.2.2.1.map aN.enc) :: .imm w'6 ⟨72, 7⟩ (r.2.2.2.2.2.2.2.1.map ah.enc) :: .box be0 [w'8, w'9, w'10, .nil, w'11, .nil, w'12, w'13, w'14, w'15, .nil, w'16, .nil, .nil, .nil, .nil, .nil] :: bS w'8 r.2.2.2.2.2.2.2.2.2.1 :: bT w'9 r.2.2.2.2.2.2.2.2.2.2.1 :: bU w'10 r.2.2.2.2.2.2.2.2.2.2.2.1 :: cz w'11 r.2.2.2.2.2.2.2.2.2.2.2.2.1 :: bw w'12 r.2.2.2.2.2.2.2.2.2.2.2.2.2.1 :: bz w'13 r.2.2.2.2.2.2.2.2.2.2.2.2.2.2.1 :: bF w'14 r.2.2.2.2.2.2.2.2.2.2.2.2.2.2.2.1 :: bV w'15 r.2.2.2.2.2.2.2.2.2.2.2.2.2.2.2.2.1 :: bL w'16 r.2.2.2.2.2.2.2.2.2.2.2.2.2.2.2.2.2 :: L)))
  | .c1 nodes stmts tnexts groups pairs dets vars texts full i Name2 Id Green Enter During Leave Nexts To nexts j => ∀ w1 w2 w3 w4 w5 w6 w7 w8 b9 b10 b11 w12 w13 w14 w15 w16 w17 w18 b19 w20 w21 w22 b23 w24 be0 L g H n (hH : HP H n (.box be0 [w1, w2, w3, .nil, .nil, .nil, w4, w5, w6, w7, .nil, w8, .nil, .nil, .nil, .nil, .nil] :: bS w1 nodes :: bT w2 stmts :: bU w3 tnexts :: bw w4 groups :: bz w5 pairs :: bF w6 dets :: bV w7 vars :: bL w8 texts :: .box b9 (ab.av tF) :: .box b10 [.d (.str NameF), .nil, .nil, .nil, .nil, .nil, .nil, .nil, .d (.int .i64 StartF)] :: .box b11 [.d (.str Name1F), w12, w13, w14, w15, w16, w17, .nil, .d (.int .i64 Start1F)] :: .imm w12 ⟨88, 5⟩ (Tables_GroupsF.map ak.enc) :: .imm w13 ⟨90, 4⟩ (Tables_ConflictsF.map ai.enc) :: .imm w14 ⟨92, 4⟩ (DetsF.map aE.enc) :: .imm w15 ⟨9, 1⟩ (TimersF.map Dat.str) :: .imm w16 ⟨9, 1⟩ (CountersF.map Dat.str) :: .imm w17 ⟨67, 2⟩ (VarsF.map aN.enc) :: zm w18 full :: .box b19 [.d (.str Name2), .d (.int .i64 Id), .d (.int .u64 Green), w20, w21, w22, .d (.lst (Nexts.map aw.enc))] :: .imm w20 ⟨105, 6⟩ (Enter.map ac.enc) :: .imm w21 ⟨105, 6⟩ (During.map ac.enc) :: .imm w22 ⟨105, 6⟩ (Leave.map ac.enc) :: .box b23 [.d (.int .i64 To), .nil] :: KJ w24 nexts :: L)), PAt C (aj Tryz.f4) (.a (.b (.a (.b (.b (.b (.b (.b (.b (.a (.a (.b (.a (.a (.b (.a (.b (.b (.b (.b (.b (.b (.b .o))))))))))))))))))))))) ⟨upd (upd (upd (upd (upd (upd (upd (upd (upd (upd g 0 (.pt be0 0)) 3 (.pt b9 0)) 4 (.pt b10 0)) 5 (.pt b11 0)) 8 (w18)) 9 (.d (.int .i64 i))) 10 (.pt b19 0)) 11 (.pt b23 0)) 12 (w24)) 13 (.d (.int .i64 j)), H, n⟩ (cb C Tryz.f4 (fun rs H' n' => ∃ w'0 w'1 w'2 w'3 w'4 w'5 w'6 w'8 w'9 w'10 w'11 w'12 w'13 w'14 w'15 w'16 : AV, rs = [.agg [.d (.str r.1), w'0, w'1, w'2, w'3, w'4, w'5, w'6, .d (.int .i64 r.2.2.2.2.2.2.2.2.1)]] ∧ HP H' n' (.imm w'0 ⟨88, 5⟩ (r.2.1.map ak.enc) :: .imm w'1 ⟨90, 4⟩ (r.2.2.1.map ai.enc) :: .imm w'2 ⟨92, 4⟩ (r.2.2.2.1.map aE.enc) :: .imm w'3 ⟨9, 1⟩ (r.2.2.2.2.1.map Dat.str) :: .imm w'4 ⟨9, 1⟩ (r.2.2.2.2.2.1.map Dat.str) :: .imm w'5 ⟨67, 2⟩ (r.2.2.2.2.2.2.1.map aN.enc) :: .imm w'6 ⟨72, 7⟩ (r.2.2.2.2.2.2.2.1.map ah.enc) :: .box be0 [w'8, w'9, w'10, .nil, w'11, .nil, w'12, w'13, w'14, w'15, .nil, w'16, .nil, .nil, .nil, .nil, .nil] :: bS w'8 r.2.2.2.2.2.2.2.2.2.1 :: bT w'9 r.2.2.2.2.2.2.2.2.2.2.1 :: bU w'10 r.2.2.2.2.2.2.2.2.2.2.2.1 :: cz w'11 r.2.2.2.2.2.2.2.2.2.2.2.2.1 :: bw w'12 r.2.2.2.2.2.2.2.2.2.2.2.2.2.1 :: bz w'13 r.2.2.2.2.2.2.2.2.2.2.2.2.2.2.1 :: bF w'14 r.2.2.2.2.2.2.2.2.2.2.2.2.2.2.2.1 :: bV w'15 r.2.2.2.2.2.2.2.2.2.2.2.2.2.2.2.2.1 :: bL w'16 r.2.2.2.2.2.2.2.2.2.2.2.2.2.2.2.2.2 :: L)))
theorem gK (n_ lo hi r) (h : jV n_ lo hi = some r) : aL C 30 [(.int .i64 n_), (.int .i64 lo), (.int .i64 hi)] = some [(.bool r)] := by
 refine aB (bu _ _ rfl) Pv rfl (jmp 0 (.d (.int .i64 n_)) rfl (jmp 1 (.d (.int .i64 lo)) rfl (jmp 2 (.d (.int .i64 hi)) rfl ?_)))
 refine Z ?_
 refine Wc h rfl rfl ?_ ?_ <;> intro _ h
 refine Z ?_
 refine Wb rfl rfl ?_
 refine Z ?_
 cases h; exact Pq rfl rfl
 refine Z ?_
 cases h; exact Pq rfl rfl
end Go.Proofs.YtkmbagocakiefaaGreatDoor.Wb
namespace Go.Proofs.YtkmbagocakiefaaGreatDoor.Wb
open Go Go.Jv
set_option maxHeartbeats 4000000
open Go.Proofs
set_option maxHeartbeats 4000000
attribute [local irreducible] EW EX PAt con
def ug (tF : aI) (t44F : List ai) (t45F : Int) : um → Bool → Prop := fun st r => match st with
  | .c0 a b t46 => ∀ b0 g H n (hH : HP H n [.box b0 (aI.av tF)]), PAt C (aj Tryz.f29) (.a (.b (.a (.b (.b (.b (.b .o))))))) ⟨upd (upd (upd (upd (upd (upd g 1 (.pt b0 0)) 5 (.d (.int .i64 a))) 6 (.d (.int .i64 b))) 44 (.d (.lst (t44F.map ai.enc)))) 45 (.d (.int .i64 t45F))) 46 (.d (.int .i64 t46)), H, n⟩ (aq C Tryz.f29 [(.bool r)])
  | .c1 c t46 => ∀ b0 b1 g H n (hH : HP H n [.box b0 (aI.av tF), .box b1 (ai.av c)]), PAt C (aj Tryz.f29) (.b (.b (.b (.a (.a (.b (.b (.a (.a (.b (.a (.b (.b (.b (.b .o))))))))))))))) ⟨upd (upd (upd (upd (upd g 1 (.pt b0 0)) 8 (.pt b1 0)) 44 (.d (.lst (t44F.map ai.enc)))) 45 (.d (.int .i64 t45F))) 46 (.d (.int .i64 t46)), H, n⟩ (aq C Tryz.f29 [(.bool r)])
def Ag (t : aI) (t14 : List ak) (t15 : Int) (t16 : Int) (r : Bool) : Prop := ∀ b0 g H n (hH : HP H n [.box b0 (aI.av t)]), PAt C (aj Tryz.f29) (.a (.b (.a (.b (.b .o))))) ⟨upd (upd (upd (upd g 1 (.pt b0 0)) 14 (.d (.lst (t14.map ak.enc)))) 15 (.d (.int .i64 t15))) 16 (.d (.int .i64 t16)), H, n⟩ (aq C Tryz.f29 [(.bool r)])
def wm (l : List ByteArray) (t71 : List ah) (t72 : Int) (t73 : Int) (t : ab) (r : List ByteArray) : Prop := ∀ w0 be0 L g H n (hH : HP H n (fx w0 l :: .box be0 (ab.av t) :: L)), PAt C (aj Tryz.f47) (.a (.b (.a (.b (.b (.b (.b (.b .o)))))))) ⟨upd (upd (upd (upd g 3 (w0)) 71 (.d (.lst (t71.map ah.enc)))) 72 (.d (.int .i64 t72))) 73 (.d (.int .i64 t73)), H, n⟩ (cb C Tryz.f47 (fun rs H' n' => ∃ (w'0 : AV), rs = [w'0] ∧ HP H' n' (fx w'0 r :: .box be0 (ab.av t) :: L)))
def wn (t : ab) (l : List ByteArray) (t56 : List aN) (t57 : Int) (t58 : Int) (r : List ByteArray) : Prop := ∀ w1 be0 L g H n (hH : HP H n (.box be0 (ab.av t) :: fx w1 l :: L)), PAt C (aj Tryz.f47) (.a (.b (.a (.b (.b (.b (.b .o))))))) ⟨upd (upd (upd (upd (upd g 0 (.pt be0 0)) 3 (w1)) 56 (.d (.lst (t56.map aN.enc)))) 57 (.d (.int .i64 t57))) 58 (.d (.int .i64 t58)), H, n⟩ (cb C Tryz.f47 (fun rs H' n' => ∃ (w'0 : AV), rs = [w'0] ∧ HP H' n' (fx w'0 r :: .box be0 (ab.av t) :: L)))
def wo (t : ab) (l : List ByteArray) (t41 : List aE) (t42 : Int) (t43 : Int) (r : List ByteArray) : Prop := ∀ w1 be0 L g H n (hH : HP H n (.box be0 (ab.av t) :: fx w1 l :: L)), PAt C (aj Tryz.f47) (.a (.b (.a (.b (.b (.b .o)))))) ⟨upd (upd (upd (upd (upd g 0 (.pt be0 0)) 3 (w1)) 41 (.d (.lst (t41.map aE.enc)))) 42 (.d (.int .i64 t42))) 43 (.d (.int .i64 t43)), H, n⟩ (cb C Tryz.f47 (fun rs H' n' => ∃ (w'0 : AV), rs = [w'0] ∧ HP H' n' (fx w'0 r :: .box be0 (ab.av t) :: L)))
def wq (t : ab) (l : List ByteArray) (t26 : List ak) (t27 : Int) (t28 : Int) (r : List ByteArray) : Prop := ∀ w1 be0 L g H n (hH : HP H n (.box be0 (ab.av t) :: fx w1 l :: L)), PAt C (aj Tryz.f47) (.a (.b (.a (.b (.b .o))))) ⟨upd (upd (upd (upd (upd g 0 (.pt be0 0)) 3 (w1)) 26 (.d (.lst (t26.map ak.enc)))) 27 (.d (.int .i64 t27))) 28 (.d (.int .i64 t28)), H, n⟩ (cb C Tryz.f47 (fun rs H' n' => ∃ (w'0 : AV), rs = [w'0] ∧ HP H' n' (fx w'0 r :: .box be0 (ab.av t) :: L)))
def wr (text : ByteArray) (t19 : Int) (r : Int) : Prop := ∀ g H n, PAt C (aj Tryz.f55) (.a (.b (.a (.b (.b .o))))) ⟨upd (upd (upd g 0 (.d (.str text))) 18 (.d ((eA Dat.str) bI))) 19 (.d (.int .i64 t19)), H, n⟩ (aq C Tryz.f55 [(.int .i64 r)])
def ws (text : ByteArray) (t8 : Int) (r : Int) : Prop := ∀ g H n, PAt C (aj Tryz.f55) (.a (.b (.a (.b .o)))) ⟨upd (upd (upd g 0 (.d (.str text))) 7 (.d ((eA Dat.str) bY))) 8 (.d (.int .i64 t8)), H, n⟩ (aq C Tryz.f55 [(.int .i64 r)])
theorem wt (c r) (h : ly c = some r) : aL C 56 [(.int .u8 c)] = some [(.bool r)] := by
 refine aB (bu _ _ rfl) PX rfl (jmp 0 (.d (.int .u8 c)) rfl ?_)
 refine Z ?_
 refine Wc h rfl rfl ?_ ?_ <;> intro _ h
 refine Z ?_
 refine Wc h rfl rfl ?_ ?_ <;> intro _ h
 refine Z ?_
 cases h; exact Pq rfl rfl
 refine Z ?_
 refine Wc h rfl rfl ?_ ?_ <;> intro _ h
 refine Z ?_
 refine Wb rfl rfl ?_
 refine Z ?_
 cases h; exact Pq rfl rfl
 refine Z ?_
 cases h; exact Pq rfl rfl
 refine Z ?_
 refine Wc h rfl rfl ?_ ?_ <;> intro _ h
 refine Z ?_
 refine Wb rfl rfl ?_
 refine Z ?_
 cases h; exact Pq rfl rfl
 refine Z ?_
 cases h; exact Pq rfl rfl
theorem yg (c r) (h : nA c = some r) : aL C 89 [(.int .u8 c)] = some [(.bool r)] := by
 refine aB (bu _ _ rfl) Qu rfl (jmp 0 (.d (.int .u8 c)) rfl ?_)
 refine Z ?_
 refine Wc h rfl rfl ?_ ?_ <;> intro _ h
 refine Z ?_
 refine Wb rfl rfl ?_
 refine Z ?_
 cases h; exact Pq rfl rfl
 refine Z ?_
 cases h; exact Pq rfl rfl
def yh (s_ : ByteArray) (n_ : Int) (r : Int) : Prop := ∀ g H n, PAt C (aj Tryz.f57) (.a (.a (.b (.b .o)))) ⟨upd (upd g 0 (.d (.str s_))) 3 (.d (.int .i64 n_)), H, n⟩ (aq C Tryz.f57 [(.int .i64 r)])
def nX (s_F : ByteArray) (baseF : Int) : oe → (Int × Bool) → Prop := fun st r => match st with
  | .c0 under v i => ∀ g H n, PAt C (aj Tryz.f71) (.a (.b (.a (.b (.b .o))))) ⟨upd (upd (upd (upd (upd g 0 (.d (.str s_F))) 1 (.d (.int .i64 baseF))) 2 (.d (.bool under))) 8 (.d (.int .i64 v))) 9 (.d (.int .i64 i)), H, n⟩ (aq C Tryz.f71 [(.int .i64 r.1), (.bool r.2)])
  | .c1 under v i d c => ∀ g H n, PAt C (aj Tryz.f71) (.b (.b (.b (.b (.a (.b (.a (.b (.a (.a (.b (.a (.a (.b (.a (.b (.b .o))))))))))))))))) ⟨upd (upd (upd (upd (upd (upd (upd g 0 (.d (.str s_F))) 1 (.d (.int .i64 baseF))) 2 (.d (.bool under))) 8 (.d (.int .i64 v))) 9 (.d (.int .i64 i))) 10 (.d (.int .i64 d))) 11 (.d (.int .u8 c)), H, n⟩ (aq C Tryz.f71 [(.int .i64 r.1), (.bool r.2)])
  | .c2 under v i d c => ∀ g H n, PAt C (aj Tryz.f71) (.b (.b (.b (.b (.b (.b (.a (.b (.a (.b (.a (.a (.b (.a (.a (.b (.a (.b (.b .o))))))))))))))))))) ⟨upd (upd (upd (upd (upd (upd (upd g 0 (.d (.str s_F))) 1 (.d (.int .i64 baseF))) 2 (.d (.bool under))) 8 (.d (.int .i64 v))) 9 (.d (.int .i64 i))) 10 (.d (.int .i64 d))) 11 (.d (.int .u8 c)), H, n⟩ (aq C Tryz.f71 [(.int .i64 r.1), (.bool r.2)])
  | .c3 under v i d => ∀ g H n, PAt C (aj Tryz.f71) (.b (.b (.a (.a (.b (.a (.a (.b (.a (.b (.b .o))))))))))) ⟨upd (upd (upd (upd (upd (upd g 0 (.d (.str s_F))) 1 (.d (.int .i64 baseF))) 2 (.d (.bool under))) 8 (.d (.int .i64 v))) 9 (.d (.int .i64 i))) 10 (.d (.int .i64 d)), H, n⟩ (aq C Tryz.f71 [(.int .i64 r.1), (.bool r.2)])
  | .c4 under v i => ∀ g H n, PAt C (aj Tryz.f71) (.b (.b (.a (.a (.b (.a (.b (.b .o)))))))) ⟨upd (upd (upd (upd (upd g 0 (.d (.str s_F))) 1 (.d (.int .i64 baseF))) 2 (.d (.bool under))) 8 (.d (.int .i64 v))) 9 (.d (.int .i64 i)), H, n⟩ (aq C Tryz.f71 [(.int .i64 r.1), (.bool r.2)])
theorem C3 (s_ prefix_ r) (h : sy s_ prefix_ = some r) : aL C 95 [(.str s_), (.str prefix_)] = some [(.bool r)] := by
 refine aB (bu _ _ rfl) QA rfl (jmp 0 (.d (.str s_)) rfl (jmp 1 (.d (.str prefix_)) rfl ?_))
 refine Z ?_
 refine du rfl (dsc ty9) rfl ?_
 refine Z ?_
 refine du rfl (dsc ty9) rfl ?_
 refine Wc h rfl rfl ?_ ?_ <;> intro _ h
 refine Z ?_
 refine du rfl (dsc ty9) rfl ?_
 refine uR h rfl ty9 rfl (iD) (fun t14 h => ?_)
 refine Z ?_
 refine Wb rfl rfl ?_
 refine Z ?_
 cases h; exact Pq rfl rfl
 refine Z ?_
 cases h; exact Pq rfl rfl
theorem uS (a0 : ByteArray) (a1 : Int) (r : Int) (h : la a0 a1 = some r) : aL C 102 [(.str a0), (.int .u8 a1)] = some [(.int .i64 r)] := by
 cases Option.some.inj h
 exact J0 rfl
def lS (e0_unitF : ByteArray) (e0_worthF : Int) (e1_unitF : ByteArray) (e1_worthF : Int) (e2_unitF : ByteArray) (e2_worthF : Int) : lU → (Int × Bool) → Prop := fun st r => match st with
  | .c0 s_ v any t16 => ∀ g H n, PAt C (aj Tryz.f73) (.a (.b (.a (.b (.b .o))))) ⟨upd (upd (upd (upd (upd g 0 (.d (.str s_))) 4 (.d (.int .i64 v))) 5 (.d (.bool any))) 15 (.agg [.d (.str e0_unitF), .d (.int .i64 e0_worthF), .d (.str e1_unitF), .d (.int .i64 e1_worthF), .d (.str e2_unitF), .d (.int .i64 e2_worthF)])) 16 (.d (.int .i64 t16)), H, n⟩ (aq C Tryz.f73 [(.int .i64 r.1), (.bool r.2)])
  | .c1 s_ v any u head rest ok t16 => ∀ b0 g H n (hH : HP H n [.box b0 [.d (.str u.unit), .d (.int .i64 u.worth)]]), PAt C (aj Tryz.f73) (.b (.b (.a (.a (.b (.b (.a (.a (.b (.a (.b (.b .o)))))))))))) ⟨upd (upd (upd (upd (upd (upd (upd (upd (upd g 0 (.d (.str s_))) 4 (.d (.int .i64 v))) 5 (.d (.bool any))) 7 (.pt b0 0)) 8 (.d (.str head))) 9 (.d (.str rest))) 10 (.d (.bool ok))) 15 (.agg [.d (.str e0_unitF), .d (.int .i64 e0_worthF), .d (.str e1_unitF), .d (.int .i64 e1_worthF), .d (.str e2_unitF), .d (.int .i64 e2_worthF)])) 16 (.d (.int .i64 t16)), H, n⟩ (aq C Tryz.f73 [(.int .i64 r.1), (.bool r.2)])
  | .c2 v u rest ok n_ t16 => ∀ b0 g H n (hH : HP H n [.box b0 [.d (.str u.unit), .d (.int .i64 u.worth)]]), PAt C (aj Tryz.f73) (.b (.b (.b (.b (.a (.a (.b (.b (.a (.a (.b (.a (.b (.b .o)))))))))))))) ⟨upd (upd (upd (upd (upd (upd (upd g 4 (.d (.int .i64 v))) 7 (.pt b0 0)) 9 (.d (.str rest))) 10 (.d (.bool ok))) 11 (.d (.int .i64 n_))) 15 (.agg [.d (.str e0_unitF), .d (.int .i64 e0_worthF), .d (.str e1_unitF), .d (.int .i64 e1_worthF), .d (.str e2_unitF), .d (.int .i64 e2_worthF)])) 16 (.d (.int .i64 t16)), H, n⟩ (aq C Tryz.f73 [(.int .i64 r.1), (.bool r.2)])
  | .c3 s_ v any t16 => ∀ g H n, PAt C (aj Tryz.f73) (.b (.b (.b (.a (.a (.b (.a (.b (.b .o))))))))) ⟨upd (upd (upd (upd (upd g 0 (.d (.str s_))) 4 (.d (.int .i64 v))) 5 (.d (.bool any))) 15 (.agg [.d (.str e0_unitF), .d (.int .i64 e0_worthF), .d (.str e1_unitF), .d (.int .i64 e1_worthF), .d (.str e2_unitF), .d (.int .i64 e2_worthF)])) 16 (.d (.int .i64 t16)), H, n⟩ (aq C Tryz.f73 [(.int .i64 r.1), (.bool r.2)])
theorem iw (v ok r) (h : fP v ok = some r) (g H n) : PAt C (aj Tryz.f58) (.b (.b (.b .o))) ⟨upd (upd g 4 (.d (.int .i64 v))) 5 (.d (.bool ok)), H, n⟩ (aq C Tryz.f58 [(.int .i32 r.1), (.int .i64 r.2)]) := by
 refine Z ?_
 refine bA (b := (!ok)) h rfl (kC rfl rfl) rfl (fun _ => ⟨rfl, rfl⟩) ?_ ?_ <;> intro _ h
 refine Z ?_
 cases h; exact Pq rfl rfl
 refine Z ?_
 refine Wc h rfl rfl ?_ ?_ <;> intro _ h
 refine Z ?_
 cases h; exact Pq rfl rfl
 refine Z ?_
 cases h; exact Pq rfl rfl
def rZ (tF : ab) (t10F : List ByteArray) (t11F : Int) : sC → Bool → Prop := fun st r => match st with
  | .c0 seen t12 => ∀ m1 w2 be0 L g H n (hH : HP H n (.box be0 (ab.av tF) :: .mp m1 (eM Dat.str (Dat.int .i64) seen) :: fx w2 t10F :: L)), PAt C (aj Tryz.f31) (.a (.b (.a (.b (.b .o))))) ⟨upd (upd (upd (upd (upd g 0 (.pt be0 0)) 3 (.mp m1)) 10 (w2)) 11 (.d (.int .i64 t11F))) 12 (.d (.int .i64 t12)), H, n⟩ (cb C Tryz.f31 (fun rs H' n' => rs = [.d (.bool r)] ∧ HP H' n' (.box be0 (ab.av tF) :: L)))
  | .c1 seen i s_ twice t12 => ∀ m1 w2 be0 L g H n (hH : HP H n (.box be0 (ab.av tF) :: .mp m1 (eM Dat.str (Dat.int .i64) seen) :: fx w2 t10F :: L)), PAt C (aj Tryz.f31) (.b (.a (.b (.a (.a (.b (.b (.a (.a (.b (.a (.b (.b .o))))))))))))) ⟨upd (upd (upd (upd (upd (upd (upd (upd g 0 (.pt be0 0)) 3 (.mp m1)) 4 (.d (.int .i64 i))) 5 (.d (.str s_))) 7 (.d (.bool twice))) 10 (w2)) 11 (.d (.int .i64 t11F))) 12 (.d (.int .i64 t12)), H, n⟩ (cb C Tryz.f31 (fun rs H' n' => rs = [.d (.bool r)] ∧ HP H' n' (.box be0 (ab.av tF) :: L)))
def yi (n_ : Int) (t34 : List aw) (t35 : Int) (t36 : Int) (r : Int) : Prop := ∀ g H n, PAt C (aj Tryz.f32) (.a (.b (.a (.b (.b (.b .o)))))) ⟨upd (upd (upd (upd g 3 (.d (.int .i64 n_))) 34 (.d (.lst (t34.map aw.enc)))) 35 (.d (.int .i64 t35))) 36 (.d (.int .i64 t36)), H, n⟩ (aq C Tryz.f32 [(.int .i64 r)])
def sa (s_F : ah) (t16F : A3 (List ac)) : sD → Int → Prop := fun st r => match st with
  | .c0 n_ t17 => ∀ b0 g H n (hH : HP H n [.box b0 (ah.av s_F)]), PAt C (aj Tryz.f32) (.a (.b (.a (.b (.b .o))))) ⟨upd (upd (upd (upd g 1 (.pt b0 0)) 3 (.d (.int .i64 n_))) 16 (.agg [.d (.lst (t16F.e0.map ac.enc)), .d (.lst (t16F.e1.map ac.enc)), .d (.lst (t16F.e2.map ac.enc))])) 17 (.d (.int .i64 t17)), H, n⟩ (aq C Tryz.f32 [(.int .i64 r)])
  | .c1 n_ t17 t20 t21 t22 => ∀ b0 g H n (hH : HP H n [.box b0 (ah.av s_F)]), PAt C (aj Tryz.f32) (.a (.b (.b (.a (.a (.b (.b (.a (.a (.b (.a (.b (.b .o))))))))))))) ⟨upd (upd (upd (upd (upd (upd (upd g 1 (.pt b0 0)) 3 (.d (.int .i64 n_))) 16 (.agg [.d (.lst (t16F.e0.map ac.enc)), .d (.lst (t16F.e1.map ac.enc)), .d (.lst (t16F.e2.map ac.enc))])) 17 (.d (.int .i64 t17))) 20 (.d (.lst (t20.map ac.enc)))) 21 (.d (.int .i64 t21))) 22 (.d (.int .i64 t22)), H, n⟩ (aq C Tryz.f32 [(.int .i64 r)])
theorem qI (op r) (h : lC op = some r) (g H n) : PAt C (aj Tryz.f74) (.b (.b (.a (.a (.b .o))))) ⟨upd g 0 (.d (.int .i64 op)), H, n⟩ (aq C Tryz.f74 [(.int .i64 r)]) := by
 refine Z ?_
 refine Wc h rfl rfl ?_ ?_ <;> intro _ h
 refine Z ?_
 refine Wc h rfl rfl ?_ ?_ <;> intro _ h
 refine Z ?_
 refine zj h rfl IL bZ.1 Kg rfl rfl I9q (fun t19 h _ _ => ?_)
 refine Z ?_
 refine Wc h rfl rfl ?_ ?_ <;> intro _ h
 refine Z ?_
 refine zj h rfl IL bZ.1 Kg rfl rfl I9q (fun t24 h _ _ => ?_)
 refine Z ?_
 cases h; exact Pq rfl rfl
 refine Z ?_
 cases h; exact Pq rfl rfl
 refine Z ?_
 cases h; exact Pq rfl rfl
 refine Z ?_
 cases h; exact Pq rfl rfl
def uT (e : List ae) (wanted : Int) (j : Int) (r : Int) : Prop := ∀ g H n, PAt C (aj Tryz.f60) (.a (.b (.a (.b (.b (.b .o)))))) ⟨upd (upd (upd g 0 (.d (.lst (e.map ae.enc)))) 5 (.d (.int .i64 wanted))) 6 (.d (.int .i64 j)), H, n⟩ (aq C Tryz.f60 [(.int .i64 r)])
theorem sd (op r) (h : mI op = some r) (g H n) : PAt C (aj Tryz.f76) (.b (.b (.b (.b (.b (.b (.b (.b (.a (.a (.b .o))))))))))) ⟨upd g 0 (.d (.int .i64 op)), H, n⟩ (aq C Tryz.f76 [(.int .i64 r)]) := by
 refine Z ?_
 refine Wc h rfl rfl ?_ ?_ <;> intro _ h
 refine Z ?_
 cases h; exact Pq rfl rfl
 refine Z ?_
 refine Wc h rfl rfl ?_ ?_ <;> intro _ h
 refine Z ?_
 cases h; exact Pq rfl rfl
 refine Z ?_
 refine Wc h rfl rfl ?_ ?_ <;> intro _ h
 refine Z ?_
 cases h; exact Pq rfl rfl
 refine Z ?_
 refine Wc h rfl rfl ?_ ?_ <;> intro _ h
 refine Z ?_
 cases h; exact Pq rfl rfl
 refine Z ?_
 refine Wc h rfl rfl ?_ ?_ <;> intro _ h
 refine Z ?_
 cases h; exact Pq rfl rfl
 refine Z ?_
 refine Wc h rfl rfl ?_ ?_ <;> intro _ h
 refine Z ?_
 cases h; exact Pq rfl rfl
 refine Z ?_
 cases h; exact Pq rfl rfl
theorem nY (t2 r) (h : lb t2 = some r) (b0 g H n) (hH : HP H n [.box b0 [.d (.int .i64 t2.e0), .d (.int .i64 t2.e1)]]) : PAt C (aj Tryz.f75) (.a (.b (.b (.b (.b (.b (.a (.a (.b .o))))))))) ⟨upd g 2 (.pt b0 0), H, n⟩ (aq C Tryz.f75 [((A2.enc (Dat.int .i64)) r)]) := by
 refine Z ?_
 refine iu (cs := [.d (.int .i64 1), .d (.int .i64 1)]) rfl rC xW bZ.1 rfl ?_
 refine ax (new := [.d (.int .i64 1), .d (.int .i64 1)]) rfl nU.1 hH (i := 0) rfl rfl rfl rfl rfl (Nat.le_of_ble_eq_true rfl) (fun H' hH => ?_)
 refine Z ?_
 refine Pt rfl (Cr ?_)
 obtain rfl := si h
 exact pdF (.inl rfl) (iI (.agg [.d (.int .i64 1), .d (.int .i64 1)]) nU.1 hH (i := 0) rfl rfl rfl (aJ)) (FS.agg (FS.d (FS.d (FS.nil hH))) (fun _ hH => FS.nil hH))
def pg (t18F : List ae) (t19F : Int) : pp → Int → Prop := fun st r => match st with
  | .c0 stack t20 => ∀ w0 g H n (hH : HP H n [yG w0 stack]), PAt C (aj Tryz.f61) (.a (.b (.a (.b (.b (.b .o)))))) ⟨upd (upd (upd (upd g 3 (w0)) 18 (.d (.lst (t18F.map ae.enc)))) 19 (.d (.int .i64 t19F))) 20 (.d (.int .i64 t20)), H, n⟩ (aq C Tryz.f61 [(.int .i64 r)])
  | .c1 stack n_ k d want t20 t38lo t39 t40 => ∀ w0 b1 b2 b3 g H n (hH : HP H n [yG w0 stack, .box b1 (ae.av n_), .box b2 (aP.av d), .box b3 [.d (.int .i64 want.e0), .d (.int .i64 want.e1)]]), PAt C (aj Tryz.f61) (.a (.b (.a (.b (.b (.b (.b (.a (.a (.b (.b (.a (.a (.b (.a (.b (.b (.b .o)))))))))))))))))) ⟨upd (upd (upd (upd (upd (upd (upd (upd (upd (upd (upd g 3 (w0)) 5 (.pt b1 0)) 6 (.d (.int .i64 k))) 7 (.pt b2 0)) 8 (.pt b3 0)) 18 (.d (.lst (t18F.map ae.enc)))) 19 (.d (.int .i64 t19F))) 20 (.d (.int .i64 t20))) 38 (mE w0 t38lo.toNat stack.length)) 39 (.d (.int .i64 t39))) 40 (.d (.int .i64 t40)), H, n⟩ (aq C Tryz.f61 [(.int .i64 r)])
  | .c2 stack n_ k d want nest t20 t38lo t39 t40 => ∀ w0 b1 b2 b3 g H n (hH : HP H n [yG w0 stack, .box b1 (ae.av n_), .box b2 (aP.av d), .box b3 [.d (.int .i64 want.e0), .d (.int .i64 want.e1)]]), PAt C (aj Tryz.f61) (.b (.b (.b (.a (.a (.b (.b (.a (.a (.b (.a (.b (.b (.b (.b (.a (.a (.b (.b (.a (.a (.b (.a (.b (.b (.b .o)))))))))))))))))))))))))) ⟨upd (upd (upd (upd (upd (upd (upd (upd (upd (upd (upd (upd g 3 (w0)) 5 (.pt b1 0)) 6 (.d (.int .i64 k))) 7 (.pt b2 0)) 8 (.pt b3 0)) 11 (.d (.int .i64 nest))) 18 (.d (.lst (t18F.map ae.enc)))) 19 (.d (.int .i64 t19F))) 20 (.d (.int .i64 t20))) 38 (mE w0 t38lo.toNat stack.length)) 39 (.d (.int .i64 t39))) 40 (.d (.int .i64 t40)), H, n⟩ (aq C Tryz.f61 [(.int .i64 r)])
  | .c3 stack d t20 => ∀ w0 b1 g H n (hH : HP H n [yG w0 stack, .box b1 (aP.av d)]), PAt C (aj Tryz.f61) (.a (.b (.a (.b (.a (.b (.b (.b (.b (.b (.b (.a (.a (.b (.b (.a (.a (.b (.a (.b (.b (.b .o)))))))))))))))))))))) ⟨upd (upd (upd (upd (upd g 3 (w0)) 7 (.pt b1 0)) 18 (.d (.lst (t18F.map ae.enc)))) 19 (.d (.int .i64 t19F))) 20 (.d (.int .i64 t20)), H, n⟩ (aq C Tryz.f61 [(.int .i64 r)])
  | .c4 stack d t20 => ∀ w0 b1 g H n (hH : HP H n [yG w0 stack, .box b1 (aP.av d)]), PAt C (aj Tryz.f61) (.b (.b (.b (.b (.b (.b (.b (.a (.a (.b (.b (.a (.a (.b (.a (.b (.b (.b .o)))))))))))))))))) ⟨upd (upd (upd (upd (upd g 3 (w0)) 7 (.pt b1 0)) 18 (.d (.lst (t18F.map ae.enc)))) 19 (.d (.int .i64 t19F))) 20 (.d (.int .i64 t20)), H, n⟩ (aq C Tryz.f61 [(.int .i64 r)])
theorem ls (v n_ r) (h : lD v n_ = some r) : aL C 77 [(.int .i32 v), (.int .i64 n_)] = some [(.bool r)] := by
 refine aB (bu _ _ rfl) Qi rfl (jmp 0 (.d (.int .i32 v)) rfl (jmp 1 (.d (.int .i64 n_)) rfl ?_))
 refine Z ?_
 refine Wc h rfl rfl ?_ ?_ <;> intro _ h
 refine Z ?_
 refine Wb rfl rfl ?_
 refine Z ?_
 cases h; exact Pq rfl rfl
 refine Z ?_
 cases h; exact Pq rfl rfl
theorem se (a r) (h : kp a = some r) (g H n) : PAt C (aj Tryz.f78) (.a (.b (.a (.b (.a (.b .o)))))) ⟨upd g 1 (.d (.int .i64 a)), H, n⟩ (aq C Tryz.f78 [(.int .i64 r)]) := by
 refine Z ?_
 refine Wc h rfl rfl ?_ ?_ <;> intro _ h
 refine Z ?_
 cases h; exact Pq rfl rfl
 refine Z ?_
 cases h; exact Pq rfl rfl
theorem sf (a b r) (h : kq a b = some r) (g H n) : PAt C (aj Tryz.f78) (.a (.b (.b (.b (.b (.b (.a (.b (.a (.b .o)))))))))) ⟨upd (upd g 1 (.d (.int .i64 a))) 2 (.d (.int .i64 b)), H, n⟩ (aq C Tryz.f78 [(.int .i64 r)]) := by
 refine Z ?_
 refine Wc h rfl rfl ?_ ?_ <;> intro _ h
 refine Z ?_
 cases h; exact Pq rfl rfl
 refine Z ?_
 cases h; exact Pq rfl rfl
theorem jR (a b r) (h : gT a b = some r) (g H n) : PAt C (aj Tryz.f78) (.a (.b (.b (.b (.b (.b (.b (.b (.a (.b (.a (.b .o)))))))))))) ⟨upd (upd g 1 (.d (.int .i64 a))) 2 (.d (.int .i64 b)), H, n⟩ (aq C Tryz.f78 [(.int .i64 r)]) := by
 refine Z ?_
 refine Wc h rfl rfl ?_ ?_ <;> intro _ h
 refine Z ?_
 refine Wc h rfl rfl ?_ ?_ <;> intro _ h
 refine Z ?_
 cases h; exact Pq rfl rfl
 refine Z ?_
 cases h; exact Pq rfl rfl
 refine Z ?_
 cases h; exact Pq rfl rfl
theorem sg (a b r) (h : kr a b = some r) (g H n) : PAt C (aj Tryz.f78) (.a (.b (.b (.b (.b (.b (.b (.b (.b (.b (.a (.b (.a (.b .o)))))))))))))) ⟨upd (upd g 1 (.d (.int .i64 a))) 2 (.d (.int .i64 b)), H, n⟩ (aq C Tryz.f78 [(.int .i64 r)]) := by
 refine Z ?_
 refine Wc h rfl rfl ?_ ?_ <;> intro _ h
 refine Z ?_
 refine Wc h rfl rfl ?_ ?_ <;> intro _ h
 refine Z ?_
 cases h; exact Pq rfl rfl
 refine Z ?_
 cases h; exact Pq rfl rfl
 refine Z ?_
 cases h; exact Pq rfl rfl
def nf (typF : Int) (tF : ab) (t33F : List ae) (t34F : Int) : nh → Bool → Prop := fun st r => match st with
  | .c0 stack t35 => ∀ b0 w1 g H n (hH : HP H n [.box b0 (ab.av tF), gw w1 stack]), PAt C (aj Tryz.f50) (.a (.b (.a (.b (.b (.b .o)))))) ⟨upd (upd (upd (upd (upd (upd g 2 (.d (.int .i64 typF))) 3 (.pt b0 0)) 7 (w1)) 33 (.d (.lst (t33F.map ae.enc)))) 34 (.d (.int .i64 t34F))) 35 (.d (.int .i64 t35)), H, n⟩ (aq C Tryz.f50 [(.bool r)])
  | .c1 stack t35 => ∀ b0 w1 g H n (hH : HP H n [.box b0 (ab.av tF), gw w1 stack]), PAt C (aj Tryz.f50) (.a (.b (.a (.b (.b (.b (.a (.a (.b (.b (.a (.a (.b (.a (.b (.b (.b .o))))))))))))))))) ⟨upd (upd (upd (upd (upd (upd g 2 (.d (.int .i64 typF))) 3 (.pt b0 0)) 7 (w1)) 33 (.d (.lst (t33F.map ae.enc)))) 34 (.d (.int .i64 t34F))) 35 (.d (.int .i64 t35)), H, n⟩ (aq C Tryz.f50 [(.bool r)])
  | .c2 stack t35 => ∀ b0 w1 g H n (hH : HP H n [.box b0 (ab.av tF), gw w1 stack]), PAt C (aj Tryz.f50) (.a (.b (.b (.b (.a (.b (.b (.b (.a (.a (.b (.b (.a (.a (.b (.a (.b (.b (.b .o))))))))))))))))))) ⟨upd (upd (upd (upd (upd (upd g 2 (.d (.int .i64 typF))) 3 (.pt b0 0)) 7 (w1)) 33 (.d (.lst (t33F.map ae.enc)))) 34 (.d (.int .i64 t34F))) 35 (.d (.int .i64 t35)), H, n⟩ (aq C Tryz.f50 [(.bool r)])
  | .c3 stack ok t35 => ∀ b0 w1 g H n (hH : HP H n [.box b0 (ab.av tF), gw w1 stack]), PAt C (aj Tryz.f50) (.b (.b (.b (.b (.b (.b (.a (.b (.b (.b (.a (.a (.b (.b (.a (.a (.b (.a (.b (.b (.b .o))))))))))))))))))))) ⟨upd (upd (upd (upd (upd (upd (upd g 2 (.d (.int .i64 typF))) 3 (.pt b0 0)) 7 (w1)) 10 (.d (.bool ok))) 33 (.d (.lst (t33F.map ae.enc)))) 34 (.d (.int .i64 t34F))) 35 (.d (.int .i64 t35)), H, n⟩ (aq C Tryz.f50 [(.bool r)])
  | .c4 stack t35 => ∀ b0 w1 g H n (hH : HP H n [.box b0 (ab.av tF), gw w1 stack]), PAt C (aj Tryz.f50) (.b (.b (.b (.a (.a (.b (.a (.b (.b (.b .o)))))))))) ⟨upd (upd (upd (upd (upd (upd g 2 (.d (.int .i64 typF))) 3 (.pt b0 0)) 7 (w1)) 33 (.d (.lst (t33F.map ae.enc)))) 34 (.d (.int .i64 t34F))) 35 (.d (.int .i64 t35)), H, n⟩ (aq C Tryz.f50 [(.bool r)])
theorem lT (t s_ r) (h : jA t s_ = some r) (b1 be0 L g H n) (hH : HP H n (.box be0 (ab.av t) :: .box b1 (ac.av s_) :: L)) : PAt C (aj Tryz.f59) (.a (.b (.a (.b (.a (.b (.b (.b (.b .o))))))))) ⟨upd (upd g 0 (.pt be0 0)) 3 (.pt b1 0), H, n⟩ (cb C Tryz.f59 (fun rs H' n' => rs = [.d (.bool r)] ∧ HP H' n' (.box be0 (ab.av t) :: L))) := by
 refine Z ?_
 refine cB rfl (by kernel_rfl) ?_
 refine Z ?_
 refine Wb rfl rfl ?_
 refine Z ?_
 refine Pt rfl (Cr ?_)
 obtain rfl := si h
 exact prF (.inl rfl) (aS (.d (.bool (decide (s_.Ix < (t.Timers.length : Int))))) rfl (aJ)) ⟨rfl, (hH.sl 2 [0])⟩
theorem qJ (t s_ r) (h : lG t s_ = some r) (b1 be0 L g H n) (hH : HP H n (.box be0 (ab.av t) :: .box b1 (ac.av s_) :: L)) : PAt C (aj Tryz.f59) (.a (.b (.b (.b (.a (.b (.a (.b (.b (.b (.b .o))))))))))) ⟨upd (upd g 0 (.pt be0 0)) 3 (.pt b1 0), H, n⟩ (cb C Tryz.f59 (fun rs H' n' => rs = [.d (.bool r)] ∧ HP H' n' (.box be0 (ab.av t) :: L))) := by
 refine Z ?_
 refine cB rfl (by kernel_rfl) ?_
 refine Z ?_
 refine Wb rfl rfl ?_
 refine Z ?_
 refine Pt rfl (Cr ?_)
 obtain rfl := si h
 exact prF (.inl rfl) (aS (.d (.bool (decide (s_.Ix < (t.Counters.length : Int))))) rfl (aJ)) ⟨rfl, (hH.sl 2 [0])⟩
theorem qK (s_ t r) (h : lH s_ t = some r) (b0 be0 L g H n) (hH : HP H n (.box b0 (ac.av s_) :: .box be0 (ab.av t) :: L)) : PAt C (aj Tryz.f59) (.a (.b (.b (.b (.b (.b (.b (.b (.a (.b (.a (.b (.b (.b (.b .o))))))))))))))) ⟨upd g 3 (.pt b0 0), H, n⟩ (cb C Tryz.f59 (fun rs H' n' => rs = [.d (.bool r)] ∧ HP H' n' (.box be0 (ab.av t) :: L))) := by
 refine Z ?_
 refine Wb rfl rfl ?_
 refine Z ?_
 refine Pt rfl (Cr ?_)
 obtain rfl := si h
 exact prF (.inl rfl) (aS (.d (.bool (decide (s_.Ix = 0)))) rfl (aJ)) ⟨rfl, (hH.sl 2 [1])⟩
end Go.Proofs.YtkmbagocakiefaaGreatDoor.Wb
