/- The abstract machine computes these functions. Printed by decomp.py. -/
import Derived.Test.YtkmbagocakiefaaGreatDoorD2
import Derived.Test.YtkmbagocakiefaaGreatDoorW1
import Derived.Test.YtkmbagocakiefaaGreatDoorW2
import Derived.Test.YtkmbagocakiefaaGreatDoorW3
import Derived.Test.YtkmbagocakiefaaGreatDoorW4
import Derived.Test.YtkmbagocakiefaaGreatDoorW5
import Derived.Test.YtkmbagocakiefaaGreatDoorW6
import Derived.Test.YtkmbagocakiefaaGreatDoorW7
namespace Go.Proofs.YtkmbagocakiefaaGreatDoor.Wb
open Go Go.Jv
set_option maxHeartbeats 4000000
open Go.Proofs
set_option maxHeartbeats 4000000
attribute [local irreducible] EW EX PAt con
theorem Ca (a b r) (h : oG a b = some r) : aL C 23 [(bn.enc a), (bn.enc b)] = some [(.bool r)] := by
 refine aB (bu _ _ rfl) Ph rfl (jmp 0 (.d (bn.enc a)) rfl (jmp 1 (.d (bn.enc b)) rfl ?_))
 refine Z ?_
 refine cu (cs := (bn.av a)) rfl nV.1 rfl rfl rfl (HP.nil _ _) (fun b14359 H' n' hH => ?_)
 refine cu (cs := (bn.av b)) rfl nV.1 rfl rfl rfl hH (fun b14360 H' n' hH => ?_)
 refine Z ?_
 refine al h rfl Hx (sc rfl (sc rfl (sn))) (fun y hy => lM _ _ y hy) (fun _ => rfl) (fun t10 h => ?_)
 revert h; cases t10 <;> intro h
 replace h := if0 h
 refine ba rfl rfl rfl ?_
 refine Z ?_
 cases h; exact Pq rfl rfl
 replace h := if1 h
 refine ba rfl rfl rfl ?_
 refine Z ?_
 refine Wd h rfl rfl ?_ ?_ <;> intro _ h
 refine Z ?_
 exact J fun g => yy _ _ _ _ h b14359 b14360 g _ _ (hH.sl 2 [1, 0])
 refine Z ?_
 cases h; exact Pq rfl rfl
theorem Cb (a b r) (h : oH a b = some r) : aL C 26 [(ah.enc a), (ah.enc b)] = some [(.bool r)] := by
 refine aB (bu _ _ rfl) Pm rfl (jmp 0 (.d (ah.enc a)) rfl (jmp 1 (.d (ah.enc b)) rfl ?_))
 refine Z ?_
 refine cu (cs := (ah.av a)) rfl bK.1 rfl rfl rfl (HP.nil _ _) (fun b14375 H' n' hH => ?_)
 refine cu (cs := (ah.av b)) rfl bK.1 rfl rfl rfl hH (fun b14376 H' n' hH => ?_)
 refine Z ?_
 refine Wd h rfl rfl ?_ ?_ <;> intro _ h
 refine Z ?_
 refine Wd h rfl rfl ?_ ?_ <;> intro _ h
 refine Z ?_
 refine Wd h rfl rfl ?_ ?_ <;> intro _ h
 refine Z ?_
 refine Wd h rfl rfl ?_ ?_ <;> intro _ h
 refine Z ?_
 exact J fun g => yz _ _ _ _ h b14375 b14376 g _ _ (hH.sl 2 [1, 0])
 refine Z ?_
 cases h; exact Pq rfl rfl
 refine Z ?_
 cases h; exact Pq rfl rfl
 refine Z ?_
 cases h; exact Pq rfl rfl
 refine Z ?_
 cases h; exact Pq rfl rfl
theorem AN (nodes stmts tnexts stages groups pairs dets vars texts r) (h : mM nodes stmts tnexts stages groups pairs dets vars texts = some r) (be0 we1 we2 we3 we4 we5 we6 we7 we8 we9 H n L) (hH : HP H n (.box be0 [we1, we2, we3, .nil, we4, .nil, we5, we6, we7, we8, .nil, we9, .nil, .nil, .nil, .nil, .nil] :: bS we1 nodes :: bT we2 stmts :: bU we3 tnexts :: cz we4 stages :: bw we5 groups :: bz we6 pairs :: bF we7 dets :: bV we8 vars :: bL we9 texts :: L)) : Raw C 27 [.pt be0 0] H n (fun rs H' n' => ∃ w'1 w'2 w'3 w'4 w'5 w'6 w'7 w'8 w'9 : AV, rs = [.d (.bool r.1)] ∧ HP H' n' (.box be0 [w'1, w'2, w'3, .nil, w'4, .nil, w'5, w'6, w'7, w'8, .nil, w'9, .nil, .nil, .nil, .nil, .nil] :: bS w'1 r.2.1 :: bT w'2 r.2.2.1 :: bU w'3 r.2.2.2.1 :: cz w'4 r.2.2.2.2.1 :: bw w'5 r.2.2.2.2.2.1 :: bz w'6 r.2.2.2.2.2.2.1 :: bF w'7 r.2.2.2.2.2.2.2.1 :: bV w'8 r.2.2.2.2.2.2.2.2.1 :: bL w'9 r.2.2.2.2.2.2.2.2.2 :: L)) := by
 refine fa Pn rfl (jmp 0 (.pt be0 0) rfl ?_)
 refine Z ?_
 exact J fun g => wZ _ _ _ _ _ _ _ _ _ _ _ h we1 we2 we3 we4 we5 we6 we7 we8 we9 _ _ g _ _ hH
theorem Cc (s_ r) (h : yN s_ = some r) : aL C 73 [(.str s_)] = some [(.int .i64 r.1), (.bool r.2)] := by
 refine aB (bu _ _ rfl) Qe rfl (jmp 0 (.d (.str s_)) rfl ?_)
 refine Z ?_
 refine cr (cs := [.d (.str ⟨#[104]⟩), .d (.int .i64 3600)]) rfl zh xZ rfl (cr (cs := [.d (.str ⟨#[109]⟩), .d (.int .i64 60)]) rfl zh xZ rfl (cr (cs := [.d (.str ⟨#[115]⟩), .d (.int .i64 1)]) rfl zh xZ rfl (iu (cs := [.d (.str ⟨#[104]⟩), .d (.int .i64 3600), .d (.str ⟨#[109]⟩), .d (.int .i64 60), .d (.str ⟨#[115]⟩), .d (.int .i64 1)]) rfl KY IK Fv.1 rfl ?_)))
 refine Z ?_
 exact J fun g => yc _ _ _ _ _ _ _ _ _ _ _ h g _ _
theorem pi (t e typ r) (h : fl t e typ = some r) : aL C 50 [(ab.enc t), (.lst (e.map ae.enc)), (.int .i64 typ)] = some [(.bool r)] := by
 refine aB (bu _ _ rfl) PR rfl (jmp 0 (.d (ab.enc t)) rfl (jmp 1 (.d (.lst (e.map ae.enc))) rfl (jmp 2 (.d (.int .i64 typ)) rfl ?_)))
 refine Z ?_
 refine cu (cs := (ab.av t)) rfl bJ.1 rfl rfl rfl (HP.nil _ _) (fun b13736 H' n' hH => ?_)
 refine Z ?_
 refine al h rfl kJ (sc rfl (sc rfl (sc rfl (sn)))) (fun y hy => gK _ _ _ y hy) (fun _ => rfl) (fun t12 h => ?_)
 revert h; cases t12 <;> intro h
 replace h := if0 h
 refine ba rfl rfl rfl ?_
 refine Z ?_
 cases h; exact Pq rfl rfl
 replace h := if1 h
 refine ba rfl rfl rfl ?_
 refine Z ?_
 refine al h rfl kJ (sc rfl (sc rfl (sc rfl (sn)))) (fun y hy => gK _ _ _ y hy) (fun _ => rfl) (fun t17 h => ?_)
 revert h; cases t17 <;> intro h
 replace h := if0 h
 refine ba rfl rfl rfl ?_
 refine Z ?_
 cases h; exact Pq rfl rfl
 replace h := if1 h
 refine ba rfl rfl rfl ?_
 refine Z ?_
 refine al h rfl Kq (sc rfl (sc rfl (sn))) (fun y hy => xj _ _ y hy) (fun _ => rfl) (fun t25 h => ?_)
 refine Wd h rfl rfl ?_ ?_ <;> intro _ h
 refine Z ?_
 refine al h rfl NQ (sc rfl (sn)) (fun y hy => Fw _ y hy) (fun _ => rfl) (fun t30 h => ?_)
 refine Wc h rfl rfl ?_ ?_ <;> intro _ h
 refine Z ?_
 cases h; exact Pq rfl rfl
 refine Z ?_
 exact J fun g => zw _ _ _ _ _ _ _ h b13736 .nil g _ _ ((hH.addNil (z := ⟨3, 1⟩)).sl 2 [1, 0])
 refine Z ?_
 cases h; exact Pq rfl rfl
theorem E5 (t r) (h : vY t = some r) : aL C 16 [(ab.enc t)] = some [(.bool r)] := by
 refine aB (bu _ _ rfl) P9 rfl (jmp 0 (.d (ab.enc t)) rfl ?_)
 refine Z ?_
 refine cu (cs := (ab.av t)) rfl bJ.1 rfl rfl rfl (HP.nil _ _) (fun b13790 H' n' hH => ?_)
 refine Z ?_
 exact J fun g => AK _ _ _ _ _ h b13790 g _ _ hH
theorem D4 (t s_ r) (h : pM t s_ = some r) (be0 H n L) (hH : HP H n (.box be0 (ab.av t) :: L)) : Raw C 18 [.pt be0 0, .agg (ah.av s_)] H n (fun rs H' n' => ∃ w'0 w'1 w'2 w'3 w'4 : AV, rs = [.agg [w'0, w'1, w'2, w'3, w'4]] ∧ HP H' n' (fx w'0 r.1 :: br w'1 r.2.1 :: br w'2 r.2.2.1 :: br w'3 r.2.2.2.1 :: mo w'4 r.2.2.2.2 :: .box be0 (ab.av t) :: L)) := by
 refine fa Pc rfl (jmp 0 (.pt be0 0) rfl (jmp 1 (.agg (ah.av s_)) rfl ?_))
 refine Z ?_
 refine cu (cs := (ah.av s_)) rfl bK.1 rfl rfl rfl hH (fun b13894 H' n' hH => ?_)
 refine aQ rfl yb hH (fun b13895 H' n' hH => ?_)
 refine Z ?_
 refine ct (pz := [(2, 6), (3, 6), (2, 10), (3, 10), (6, 10), (7, 10), (2, 13), (3, 13), (6, 13), (7, 13), (10, 13), (11, 13)]) rfl rfl (by kernel_rfl) (by kernel_rfl) ?_
 refine Z ?_
 have hHr := (hH.selG 3 [2, 0, 1] (by decide) (by decide) (gc rfl (gc rfl (gc rfl (gt rfl)))))
 refine uW (A0 := [.box be0 (ab.av t)]) (A1 := []) (L := .box b13895 [.nil, .nil, .nil, .nil, .nil] :: .box b13894 (ah.av s_) :: L) (P := fun y rs As => ∃ (w'0 : AV), rs = [w'0] ∧ As = [br w'0 y, .box be0 (ab.av t)]) [.pt be0 0, .d (.lst (s_.Enter.map ac.enc))] h rfl rfl Hy rfl hHr (mcc (.pt (j := 0) rfl) (mcc (.d _) (mcn))) (cbb (mcc (.d _) (mcc (.d _) (mcc (.d _) (mcc (.d _) (mcc (.d _) (mcc (.d _) (mcc (.d _) (mcc (.d _) (mcc (.d _) (mcn)))))))))) (cbn)) (rcc (cc 0 rfl (dl)) (rcn)) rfl (fun y hy H n L' hH => (qC _ _ y hy be0 _ _ _ hH).to (fun rs H' n' ⟨w0, e, hp⟩ => ⟨_, ⟨w0, e, rfl⟩, hp⟩)) (by rintro _ _ _ ⟨_, rfl, rfl⟩ _ hi; simp only [List.mem_cons, List.not_mem_nil, or_false] at hi; subst hi; simp) (fun t13 rs As H' n12896 h hP hH hoff12896 hoffk12896 hn12896 => ?_)
 obtain ⟨w12896_0, rfl, rfl⟩ := hP
 clear hHr
 have hof12896_0 := hoffk12896.box (k := 0) rfl
 have hof12896_1 := hoffk12896.box (k := 1) rfl
 have hof12896_2 := hoffk12896.box (k := 2) rfl
 have hof12896 := hoff12896.lt
 clear hoff12896 hoffk12896
 refine Z ?_
 have hHr := (hH.selG 4 [1, 0, 2, 3] (by decide) (by decide) (gc rfl (gc rfl (gc rfl (gc rfl (gt rfl))))))
 refine uW (A0 := [.box be0 (ab.av t)]) (A1 := []) (L := br w12896_0 t13 :: .box b13895 [.nil, .nil, .nil, .nil, .nil] :: .box b13894 (ah.av s_) :: L) (P := fun y rs As => ∃ (w'0 : AV), rs = [w'0] ∧ As = [br w'0 y, .box be0 (ab.av t)]) [.pt be0 0, .d (.lst (s_.During.map ac.enc))] h rfl rfl Hy rfl hHr (mcc (.pt (j := 0) rfl) (mcc (.d _) (mcn))) (cbb (mcc (.d _) (mcc (.d _) (mcc (.d _) (mcc (.d _) (mcc (.d _) (mcc (.d _) (mcc (.d _) (mcc (.d _) (mcc (.d _) (mcn)))))))))) (cbn)) (rcc (cc 0 rfl (dl)) (rcn)) rfl (fun y hy H n L' hH => (qC _ _ y hy be0 _ _ _ hH).to (fun rs H' n' ⟨w0, e, hp⟩ => ⟨_, ⟨w0, e, rfl⟩, hp⟩)) (by rintro _ _ _ ⟨_, rfl, rfl⟩ _ hi; simp only [List.mem_cons, List.not_mem_nil, or_false] at hi; subst hi; simp) (fun t17 rs As H' n12897 h hP hH hoff12897 hoffk12897 hn12897 => ?_)
 obtain ⟨w12897_0, rfl, rfl⟩ := hP
 clear hHr
 have hof12897_0 := hoffk12897.box (k := 0) rfl
 have hof12897_1 := hoffk12897.own (k := 1) rfl
 have hof12897_2 := hoffk12897.box (k := 2) rfl
 have hof12897_3 := hoffk12897.box (k := 3) rfl
 have hof12897 := hoff12897.lt
 clear hoff12897 hoffk12897
 refine Z ?_
 have hHr := (hH.selG 5 [1, 0, 2, 3, 4] (by decide) (by decide) (gc rfl (gc rfl (gc rfl (gc rfl (gc rfl (gt rfl)))))))
 refine uW (A0 := [.box be0 (ab.av t)]) (A1 := []) (L := br w12897_0 t17 :: br w12896_0 t13 :: .box b13895 [.nil, .nil, .nil, .nil, .nil] :: .box b13894 (ah.av s_) :: L) (P := fun y rs As => ∃ (w'0 : AV), rs = [w'0] ∧ As = [br w'0 y, .box be0 (ab.av t)]) [.pt be0 0, .d (.lst (s_.Leave.map ac.enc))] h rfl rfl Hy rfl hHr (mcc (.pt (j := 0) rfl) (mcc (.d _) (mcn))) (cbb (mcc (.d _) (mcc (.d _) (mcc (.d _) (mcc (.d _) (mcc (.d _) (mcc (.d _) (mcc (.d _) (mcc (.d _) (mcc (.d _) (mcn)))))))))) (cbn)) (rcc (cc 0 rfl (dl)) (rcn)) rfl (fun y hy H n L' hH => (qC _ _ y hy be0 _ _ _ hH).to (fun rs H' n' ⟨w0, e, hp⟩ => ⟨_, ⟨w0, e, rfl⟩, hp⟩)) (by rintro _ _ _ ⟨_, rfl, rfl⟩ _ hi; simp only [List.mem_cons, List.not_mem_nil, or_false] at hi; subst hi; simp) (fun t21 rs As H' n12898 h hP hH hoff12898 hoffk12898 hn12898 => ?_)
 obtain ⟨w12898_0, rfl, rfl⟩ := hP
 clear hHr
 have hof12898_0 := hoffk12898.box (k := 0) rfl
 have hof12898_1 := hoffk12898.own (k := 1) rfl
 have hof12898_2 := hoffk12898.own (k := 2) rfl
 have hof12898_3 := hoffk12898.box (k := 3) rfl
 have hof12898_4 := hoffk12898.box (k := 4) rfl
 have hof12898 := hoff12898.lt
 clear hoff12898 hoffk12898
 refine bi (v := .agg [.nil, w12896_0, w12897_0, w12898_0, .nil]) (az) rfl (cy yb JO (by show er dD _ _ [(1, w12896_0), (2, w12897_0), (3, w12898_0)] = _; simp only [er, eH (hH.okOwn (j := 3) rfl), eH (hH.okOwn (j := 2) rfl), eH (hH.okOwn (j := 0) rfl)]; rfl)) ⟨rfl, rfl⟩ ?_
 refine uZ rfl yb hH (fun b13899 H' n12899 hH hoff12899 hn12899 => ?_)
 have hof12899_0 := hoff12899.own (k := 0) rfl
 have hof12899_1 := hoff12899.box (k := 1) rfl
 have hof12899_2 := hoff12899.own (k := 2) rfl
 have hof12899_3 := hoff12899.own (k := 3) rfl
 have hof12899_4 := hoff12899.box (k := 4) rfl
 have hof12899_5 := hoff12899.box (k := 5) rfl
 have hof12899 := hoff12899.2
 clear hoff12899
 refine bX (new := [.nil, w12896_0, w12897_0, w12898_0, .nil]) [.nil, w12896_0, w12897_0, w12898_0, .nil] rfl nV.1 hH (i := 0) rfl rfl rfl rfl (by simp only [List.all_cons, List.all_nil, (hH.okOwn (j := 4) rfl).1, (hH.okOwn (j := 3) rfl).1, (hH.okOwn (j := 1) rfl).1]; rfl) (Nat.le_of_ble_eq_true rfl) rfl (fun H' hH => ?_)
 refine xn (pk rfl rfl aG (pk rfl rfl (HV hof12896_2) (pk rfl rfl aG (pk rfl rfl (HV hof12896_2) (pk rfl rfl aG (pk rfl rfl (HV hof12897_3) (pk rfl rfl nco (pk rfl rfl HU (pk rfl rfl nco (pk rfl rfl HU (pk rfl rfl nco (pk rfl rfl HU (pkn))))))))))))) ?_
 refine Z ?_
 exact J fun g => zI _ _ _ _ _ _ _ _ _ _ h b13894 b13895 b13899 .nil w12896_0 w12897_0 w12898_0 _ _ g _ _ ((hH.addNil (z := ⟨9, 1⟩)).sl 8 [3, 7, 6, 1, 0, 5, 4, 2])
theorem D5 (w r) (h : Al w = some r) : aL C 81 [(.str w)] = some [(.int .i64 r.1), (.bool r.2)] := by
 refine aB (bu _ _ rfl) Qm rfl (jmp 0 (.d (.str w)) rfl ?_)
 refine Z ?_
 refine iu (cs := [.d (.int .i64 3600), .d (.int .i64 60), .d (.int .i64 1)]) rfl GM IM JS.1 rfl ?_
 refine aQ rfl GM (HP.nil _ _) (fun b14009 H' n' hH => ?_)
 refine ax (new := [.d (.int .i64 3600), .d (.int .i64 60), .d (.int .i64 1)]) rfl LP.1 hH (i := 0) rfl rfl rfl rfl rfl (Nat.le_of_ble_eq_true rfl) (fun H' hH => ?_)
 refine Z ?_
 exact J fun g => zJ _ _ _ _ _ _ _ h b14009 g _ _ hH
theorem IW (e r) (h : FR e = some r) : aL C 83 [(.lst (e.map ae.enc))] = some [(.bool r)] := by
 refine aB (bu _ _ rfl) Qo rfl (jmp 0 (.d (.lst (e.map ae.enc))) rfl ?_)
 refine Z ?_
 refine Wc h rfl rfl ?_ ?_ <;> intro _ h
 refine Z ?_
 cases h; exact Pq rfl rfl
 refine Z ?_
 refine al h rfl Ks (sc rfl (sc rfl (sn))) (fun y hy => C2 _ _ y hy) (fun _ => rfl) (fun t11 h => ?_)
 refine Z ?_
 refine Wb rfl rfl ?_
 refine Z ?_
 cases h; exact Pq rfl rfl
theorem ww (e ok r) (h : rv e ok = some r) (g H n) : PAt C (aj Tryz.f68) (.b (.b .o)) ⟨upd (upd g 0 (.d (.lst (e.map ae.enc)))) 3 (.d (.bool ok)), H, n⟩ (aq C Tryz.f68 [(.int .i64 r)]) := by
 refine Z ?_
 refine bA (b := (!ok)) h rfl (kC rfl rfl) rfl (fun _ => ⟨rfl, rfl⟩) ?_ ?_ <;> intro _ h
 refine Z ?_
 cases h; exact Pq rfl rfl
 refine Z ?_
 exact J fun g => E1 _ _ _ _ _ h .nil .nil g _ _ ((((HP.nil _ _).addNil (z := ⟨3, 1⟩)).addNil (z := ⟨3, 1⟩)).sl 2 [1, 0])
theorem zK (tF i r) (h : il tF i = some r) : na tF (.c0 i) r := uQ tF (.c0 i) r h
theorem rm (tF : ab) (s_F : ah) (st : kc) (r : bn) (h : cj tF s_F st = some r) : jU tF s_F st r := by
 refine cj.partial_correctness tF s_F (jU tF s_F) (fun r5_writtenStage_L1_run' ih_ st r h => ?_) st r h
 cases st with
 | c0 Green g_ =>
  intro b0 b1 b2 b3 w4 g H n hH
  refine Po rfl ?_
  refine Z ?_
  refine Wc h rfl rfl ?_ ?_ <;> intro _ h
  refine Z ?_
  refine Et h rfl rfl rfl (fun t19 h => ?_)
  refine Z ?_
  refine Wc h rfl rfl ?_ ?_ <;> intro _ h
  refine Z ?_
  refine ct (pz := [(1, 4), (1, 6), (1, 8), (1, 9)]) rfl rfl (by kernel_rfl) (by kernel_rfl) ?_
  refine Z ?_
  refine bQ (fv := fun v => .d (.ptr (ak.enc v).cells)) (az) h rfl (bR dj.1 cq.1 (fun _ => rfl) rfl rfl) ⟨rfl, rfl⟩ (fun t28 h => ?_)
  refine Z ?_
  refine pm (enc := Dat.str) (xs := [t28.Name]) [.d (.str t28.Name)] rfl bv.1 bM.1 mz ⟨by decide, Nat.le_of_ble_eq_true rfl⟩ zd9 (fun _ => rfl) (fun _ => rfl) rfl rfl rfl hH (fun w14223 i13223 H' n13223 hH hoff13223 hn13223 hi13223 => ?_)
  have hof13223_0 := hoff13223.box (k := 0) rfl
  have hof13223_1 := hoff13223.box (k := 1) rfl
  have hof13223_2 := hoff13223.box (k := 2) rfl
  have hof13223_3 := hoff13223.box (k := 3) rfl
  have hof13223_4 := hoff13223.own (k := 4) rfl
  have hof13223 := hoff13223.2
  clear hoff13223
  refine cG (enc := Dat.str) (w14223) h rfl bv.1 bM.1 gV (by decide) (fun _ => rfl) hH (j := 5) rfl rfl rfl (aM hH (j := 0) rfl) (fun t32 w14224 i13224 H' n13224 h hH hoff13224 hn13224 hi13224 => ?_)
  have hof13224_0 := hoff13224.own (k := 0) rfl
  have hof13224_1 := hoff13224.box (k := 1) rfl
  have hof13224_2 := hoff13224.box (k := 2) rfl
  have hof13224_3 := hoff13224.box (k := 3) rfl
  have hof13224_4 := hoff13224.box (k := 4) rfl
  have hof13224 := hoff13224.2
  clear hoff13224
  refine Z ?_
  refine bX (new := [w14224]) [w14224, .nil, .nil, .nil, .nil] rfl ze.1 hH (i := 5) rfl rfl (hH.okOwn (j := 0) rfl).2 rfl (by simp only [List.all_cons, List.all_nil, (hH.okOwn (j := 0) rfl).1]; rfl) (Nat.le_of_ble_eq_true rfl) rfl (fun H' hH => ?_)
  refine xn (pk rfl rfl aG (pk rfl rfl aY (pk rfl rfl aY (pk rfl rfl nco (pkn))))) ?_
  refine Zs ?_
  exact J fun g => ih_ (.c1 _ _) _ h b0 b1 b2 b3 w14224 g _ _ (hH.sl 6 [2, 3, 4, 5, 0])
  iterate 3 refine Zs ?_
  exact J fun g => ih_ (.c1 _ _) _ h b0 b1 b2 b3 w4 g _ _ hH
  refine Z ?_
  refine aF (v := .agg (ab.av tF)) rfl bJ.1 hH (i := 0) rfl rfl rfl ?_
  refine Z ?_
  refine yV (xs := [(ab.enc tF), (.lst (s_F.Enter.map ac.enc))]) h rfl HA rfl rfl (fun y hy => lR _ _ y hy) (fun t37 h => ?_)
  refine Z ?_
  refine iO rfl kK.1 hH (i := 3) rfl rfl rfl rfl rfl (Nat.le_of_ble_eq_true rfl) (fun H' hH => ?_)
  refine Z ?_
  refine aF (v := .agg (ab.av tF)) rfl bJ.1 hH (i := 0) rfl rfl rfl ?_
  refine Z ?_
  refine yV (xs := [(ab.enc tF), (.lst (s_F.During.map ac.enc))]) h rfl HA rfl rfl (fun y hy => lR _ _ y hy) (fun t42 h => ?_)
  refine Z ?_
  refine iO rfl kK.1 hH (i := 3) rfl rfl rfl rfl rfl (Nat.le_of_ble_eq_true rfl) (fun H' hH => ?_)
  refine Z ?_
  refine aF (v := .agg (ab.av tF)) rfl bJ.1 hH (i := 0) rfl rfl rfl ?_
  refine Z ?_
  refine yV (xs := [(ab.enc tF), (.lst (s_F.Leave.map ac.enc))]) h rfl HA rfl rfl (fun y hy => lR _ _ y hy) (fun t47 h => ?_)
  refine Z ?_
  refine iO rfl kK.1 hH (i := 3) rfl rfl rfl rfl rfl (Nat.le_of_ble_eq_true rfl) (fun H' hH => ?_)
  refine Z ?_
  exact J fun g => ux _ _ _ _ _ _ _ _ _ h b0 b1 b2 b3 w4 .nil g _ _ ((hH.addNil (z := ⟨118, 4⟩)).sl 6 [1, 2, 3, 4, 5, 0])
 | c1 Green g_ =>
  intro b0 b1 b2 b3 w4 g H n hH
  refine Z ?_
  exact J fun g => ih_ (.c0 _ _) _ h b0 b1 b2 b3 w4 g _ _ hH
theorem zM (a b i r) (h : fi a b i = some r) : sr a b i r := by
 refine fi.partial_correctness a b (fun i r => sr a b i r) (fun fi ih_fi i r h b0 b1 g H n hH => ?_) i r h
 refine Po rfl ?_
 refine Z ?_
 refine Wc h rfl rfl ?_ ?_ <;> intro _ h
 refine Z ?_
 refine aA h rfl eZ.1 dC.1 (fun _ => rfl) rfl rfl (fun t32 h => ?_)
 refine aR (d := (aV.enc t32)) rfl dC.1 rfl rfl ?_
 refine aQ rfl cO hH (fun b14365 H' n' hH => ?_)
 refine ax (new := (aV.av t32)) rfl dC.1 hH (i := 0) rfl rfl rfl rfl rfl (Nat.le_of_ble_eq_true rfl) (fun H' hH => ?_)
 refine Z ?_
 refine aA h rfl eZ.1 dC.1 (fun _ => rfl) rfl rfl (fun t37 h => ?_)
 refine aR (d := (aV.enc t37)) rfl dC.1 rfl rfl ?_
 refine aQ rfl cO hH (fun b14366 H' n' hH => ?_)
 refine ax (new := (aV.av t37)) rfl dC.1 hH (i := 0) rfl rfl rfl rfl rfl (Nat.le_of_ble_eq_true rfl) (fun H' hH => ?_)
 refine Z ?_
 refine Wd h rfl rfl ?_ ?_ <;> intro _ h
 refine Z ?_
 refine aF (v := .agg (bd.av t32.At)) rfl tv.1 hH (i := 1) rfl rfl rfl ?_
 refine Z ?_
 refine aF (v := .agg (bd.av t37.At)) rfl tv.1 hH (i := 0) rfl rfl rfl ?_
 refine bA (b := (!(decide (t32.At.Line = t37.At.Line) && (decide (t32.At.Col = t37.At.Col) && true)))) h rfl (kW xX BV rfl rfl rfl) rfl (fun _ => ⟨rfl, rfl⟩) ?_ ?_ <;> intro _ h
 refine Z ?_
 cases h; exact Pq rfl rfl
 refine Z ?_
 refine Wd h rfl rfl ?_ ?_ <;> intro _ h
 refine Z ?_
 refine Wd h rfl rfl ?_ ?_ <;> intro _ h
 refine Z ?_
 refine Wd h rfl rfl ?_ ?_ <;> intro _ h
 refine Z ?_
 refine aF (v := .agg [.d (.int .i32 t32.N.e0), .d (.int .i32 t32.N.e1), .d (.int .i32 t32.N.e2)]) rfl Kz.1 hH (i := 1) rfl rfl rfl ?_
 refine Z ?_
 refine aF (v := .agg [.d (.int .i32 t37.N.e0), .d (.int .i32 t37.N.e1), .d (.int .i32 t37.N.e2)]) rfl Kz.1 hH (i := 0) rfl rfl rfl ?_
 refine bA (b := (!(decide (t32.N.e0 = t37.N.e0) && (decide (t32.N.e1 = t37.N.e1) && (decide (t32.N.e2 = t37.N.e2) && true))))) h rfl (kW LC Na rfl rfl rfl) rfl (fun _ => ⟨rfl, rfl⟩) ?_ ?_ <;> intro _ h
 refine Z ?_
 cases h; exact Pq rfl rfl
 refine Z ?_
 refine al h rfl Em (sc rfl (sc rfl (sn))) (fun y hy => kF _ _ y hy) (fun _ => rfl) (fun t83 h => ?_)
 revert h; cases t83 <;> intro h
 replace h := if0 h
 refine ba rfl rfl rfl ?_
 refine Z ?_
 cases h; exact Pq rfl rfl
 replace h := if1 h
 refine ba rfl rfl rfl ?_
 refine Z ?_
 refine aF (v := .agg (bn.av t32.Stage)) rfl nV.1 hH (i := 1) rfl rfl rfl ?_
 refine Z ?_
 refine aF (v := .agg (bn.av t37.Stage)) rfl nV.1 hH (i := 0) rfl rfl rfl ?_
 refine al h rfl Ny (sc rfl (sc rfl (sn))) (fun y hy => Ca _ _ y hy) (fun _ => rfl) (fun t90 h => ?_)
 revert h; cases t90 <;> intro h
 replace h := if0 h
 refine ba rfl rfl rfl ?_
 refine Z ?_
 cases h; exact Pq rfl rfl
 replace h := if1 h
 refine ba rfl rfl rfl ?_
 refine Z ?_
 exact J fun g => ih_fi _ _ h b0 b1 g _ _ (hH.sl 4 [2, 3])
 refine Z ?_
 cases h; exact Pq rfl rfl
 refine Z ?_
 cases h; exact Pq rfl rfl
 refine Z ?_
 cases h; exact Pq rfl rfl
 refine Z ?_
 cases h; exact Pq rfl rfl
 refine Z ?_
 cases h; exact Pq rfl rfl
theorem yj (a b i r) (h : eB a b i = some r) : qP a b i r := by
 refine eB.partial_correctness a b (fun i r => qP a b i r) (fun eB ih_eB i r h b0 b1 g H n hH => ?_) i r h
 refine Po rfl ?_
 refine Z ?_
 refine Wc h rfl rfl ?_ ?_ <;> intro _ h
 refine Z ?_
 refine cB rfl (by kernel_rfl) ?_
 refine Z ?_
 refine aA h rfl dr.1 bK.1 (fun _ => rfl) rfl rfl (fun t115 h => ?_)
 refine aR (d := (ah.enc t115)) rfl bK.1 rfl rfl ?_
 refine Z ?_
 refine aA h rfl dr.1 bK.1 (fun _ => rfl) rfl rfl (fun t120 h => ?_)
 refine aR (d := (ah.enc t120)) rfl bK.1 rfl rfl ?_
 refine al h rfl NA (sc rfl (sc rfl (sn))) (fun y hy => Cb _ _ y hy) (fun _ => rfl) (fun t122 h => ?_)
 revert h; cases t122 <;> intro h
 replace h := if0 h
 refine ba rfl rfl rfl ?_
 refine Z ?_
 cases h; exact Pq rfl rfl
 replace h := if1 h
 refine ba rfl rfl rfl ?_
 refine Z ?_
 exact J fun g => ih_eB _ _ h b0 b1 g _ _ hH
 refine Z ?_
 cases h; exact Pq rfl rfl
theorem wV (nodes stmts tnexts stages groups pairs dets vars texts i r) (h : nr nodes stmts tnexts stages groups pairs dets vars texts i = some r) (w1 w2 w3 w4 w5 w6 w7 w8 w9 be0 L g H n) (hH : HP H n (.box be0 [w1, w2, w3, .nil, w4, .nil, w5, w6, w7, w8, .nil, w9, .nil, .nil, .nil, .nil, .nil] :: bS w1 nodes :: bT w2 stmts :: bU w3 tnexts :: cz w4 stages :: bw w5 groups :: bz w6 pairs :: bF w7 dets :: bV w8 vars :: bL w9 texts :: L)) : PAt C (aj Tryz.f9) (.a (.b (.a (.b (.b (.b (.b .o))))))) ⟨upd (upd g 0 (.pt be0 0)) 9 (.d (.int .i64 i)), H, n⟩ (cb C Tryz.f9 (fun rs H' n' => ∃ w'1 w'2 w'3 w'4 w'5 w'6 w'7 w'8 w'9 : AV, rs = [.d (.bool r.1)] ∧ HP H' n' (.box be0 [w'1, w'2, w'3, .nil, w'4, .nil, w'5, w'6, w'7, w'8, .nil, w'9, .nil, .nil, .nil, .nil, .nil] :: bS w'1 r.2.1 :: bT w'2 r.2.2.1 :: bU w'3 r.2.2.2.1 :: cz w'4 r.2.2.2.2.1 :: bw w'5 r.2.2.2.2.2.1 :: bz w'6 r.2.2.2.2.2.2.1 :: bF w'7 r.2.2.2.2.2.2.2.1 :: bV w'8 r.2.2.2.2.2.2.2.2.1 :: bL w'9 r.2.2.2.2.2.2.2.2.2 :: L))) := by
 refine Po rfl ?_
 refine Z ?_
 refine pf rfl Ly.1 rfl ?_
 refine Wc h rfl rfl ?_ ?_ <;> intro _ h
 refine Z ?_
 cases h
 refine Z ?_
 refine fw [.pt be0 0] h rfl rfl NB rfl (fun y hy => AN _ _ _ _ _ _ _ _ _ y hy be0 w1 w2 w3 w4 w5 w6 w7 w8 w9 _ _ (L) hH) (fun t140 rs H' n' h hP => ?_)
 obtain ⟨w13423_1, w13423_2, w13423_3, w13423_4, w13423_5, w13423_6, w13423_7, w13423_8, w13423_9, rfl, hH⟩ := hP
 refine Z ?_
 revert h; cases t140.1 <;> intro h
 replace h := if0 h
 refine Z ?_
 refine Pt rfl (Cr ?_)
 obtain rfl := si h
 exact prF (.inl rfl) (aS (.d (.bool false)) rfl (aJ)) ⟨w13423_1, w13423_2, w13423_3, w13423_4, w13423_5, w13423_6, w13423_7, w13423_8, w13423_9, rfl, hH⟩
 replace h := if1 h
 refine Z ?_
 refine fw [.pt be0 0] h rfl rfl NC rfl (fun y hy => zS _ _ _ _ _ _ _ _ _ y hy be0 w13423_1 w13423_2 w13423_3 w13423_4 w13423_5 w13423_6 w13423_7 w13423_8 w13423_9 _ _ (L) hH) (fun t143 rs H' n' h hP => ?_)
 obtain ⟨w13424_1, w13424_2, w13424_3, w13424_4, w13424_5, w13424_6, w13424_7, w13424_8, w13424_9, rfl, hH⟩ := hP
 refine Z ?_
 refine Pt rfl (Cr ?_)
 obtain rfl := si h
 exact prF (.inl rfl) (aS (.d (.bool t143.1)) rfl (aJ)) ⟨w13424_1, w13424_2, w13424_3, w13424_4, w13424_5, w13424_6, w13424_7, w13424_8, w13424_9, rfl, hH⟩
theorem sj (text hex is r) (h : kl text hex is = some r) (g H n) : PAt C (aj Tryz.f58) (.b (.a (.b (.a (.b (.b .o)))))) ⟨upd (upd (upd g 0 (.d (.str text))) 6 (.d (.str hex))) 7 (.d (.bool is)), H, n⟩ (aq C Tryz.f58 [(.int .i32 r.1), (.int .i64 r.2)]) := by
 refine Z ?_
 refine KM rfl h rfl ?_ ?_ <;> intro _ h
 refine Z ?_
 refine al h rfl HG (sc rfl (sc rfl (sc rfl (sn)))) (fun y hy => qw _ _ _ y hy) (fun _ => rfl) (fun t23 h => ?_)
 refine Z ?_
 refine bA (b := t23.2) h rfl (fN rfl rfl) rfl (fun _ => ⟨rfl, rfl⟩) ?_ ?_ <;> intro _ h
 refine Zs ?_
 exact J fun g => iw _ _ _ h g _ _
 refine Zs ?_
 exact J fun g => iw _ _ _ h g _ _
 refine Z ?_
 refine al h rfl NZ (sc rfl (sn)) (fun y hy => Cc _ y hy) (fun _ => rfl) (fun t28 h => ?_)
 refine Z ?_
 refine bA (b := t28.2) h rfl (fN rfl rfl) rfl (fun _ => ⟨rfl, rfl⟩) ?_ ?_ <;> intro _ h
 refine Zs ?_
 exact J fun g => iw _ _ _ h g _ _
 refine Zs ?_
 exact J fun g => iw _ _ _ h g _ _
end Go.Proofs.YtkmbagocakiefaaGreatDoor.Wb
namespace Go.Proofs.YtkmbagocakiefaaGreatDoor.Wb
open Go Go.Jv
set_option maxHeartbeats 4000000
open Go.Proofs
set_option maxHeartbeats 4000000
attribute [local irreducible] EW EX PAt con
theorem D9 (t s_ r) (h : ms t s_ = some r) (be0 H n L) (hH : HP H n (.box be0 (ab.av t) :: L)) : Raw C 59 [.pt be0 0, .agg (ac.av s_)] H n (fun rs H' n' => rs = [.d (.bool r)] ∧ HP H' n' (.box be0 (ab.av t) :: L)) := by
 refine fa Q0 rfl (jmp 0 (.pt be0 0) rfl (jmp 1 (.agg (ac.av s_)) rfl ?_))
 refine Z ?_
 refine cu (cs := (ac.av s_)) rfl bj.1 rfl rfl rfl hH (fun b13746 H' n' hH => ?_)
 refine Z ?_
 refine Wd h rfl rfl ?_ ?_ <;> intro _ h
 refine Z ?_
 refine aF (v := .agg (bd.av s_.At)) rfl tv.1 hH (i := 0) rfl rfl rfl (cr (cs := [.d (.int .i64 0), .d (.int .i64 0)]) rfl IR Fu rfl ?_)
 refine bA (b := (!(decide (s_.At.Line = 0) && (decide (s_.At.Col = 0) && true)))) h rfl (kW xX BV rfl rfl rfl) rfl (fun _ => ⟨rfl, rfl⟩) ?_ ?_ <;> intro _ h
 refine Z ?_
 refine Pt rfl (Cr ?_)
 obtain rfl := si h
 exact prF (.inl rfl) (aS (.d (.bool false)) rfl (aJ)) ⟨rfl, (hH.sl 2 [1])⟩
 refine Z ?_
 refine Wc h rfl rfl ?_ ?_ <;> intro _ h
 refine Z ?_
 refine Pt rfl (Cr ?_)
 obtain rfl := si h
 exact prF (.inl rfl) (aS (.d (.bool false)) rfl (aJ)) ⟨rfl, (hH.sl 2 [1])⟩
 refine Z ?_
 refine Wc h rfl rfl ?_ ?_ <;> intro _ h
 refine Z ?_
 refine cB rfl (by kernel_rfl) ?_
 refine Z ?_
 refine Wc h rfl rfl ?_ ?_ <;> intro _ h
 refine Z ?_
 refine aF (v := .agg (ab.av t)) rfl bJ.1 hH (i := 1) rfl rfl rfl ?_
 refine Z ?_
 refine al h rfl HC (sc rfl (sc rfl (sc rfl (sn)))) (fun y hy => pi _ _ _ y hy) (fun _ => rfl) (fun t37 h => ?_)
 refine Z ?_
 refine Pt rfl (Cr ?_)
 obtain rfl := si h
 exact prF (.inl rfl) (aS (.d (.bool t37)) rfl (aJ)) ⟨rfl, (hH.sl 2 [1])⟩
 refine Z ?_
 refine Pt rfl (Cr ?_)
 obtain rfl := si h
 exact prF (.inl rfl) (aS (.d (.bool false)) rfl (aJ)) ⟨rfl, (hH.sl 2 [1])⟩
 refine Z ?_
 refine Wc h rfl rfl ?_ ?_ <;> intro _ h
 refine Z ?_
 refine cB rfl (by kernel_rfl) ?_
 refine Z ?_
 refine Wc h rfl rfl ?_ ?_ <;> intro _ h
 refine Z ?_
 refine aF (v := .agg (ab.av t)) rfl bJ.1 hH (i := 1) rfl rfl rfl ?_
 refine Z ?_
 refine al h rfl HC (sc rfl (sc rfl (sc rfl (sn)))) (fun y hy => pi _ _ _ y hy) (fun _ => rfl) (fun t50 h => ?_)
 refine Z ?_
 refine Pt rfl (Cr ?_)
 obtain rfl := si h
 exact prF (.inl rfl) (aS (.d (.bool t50)) rfl (aJ)) ⟨rfl, (hH.sl 2 [1])⟩
 refine Z ?_
 refine Pt rfl (Cr ?_)
 obtain rfl := si h
 exact prF (.inl rfl) (aS (.d (.bool false)) rfl (aJ)) ⟨rfl, (hH.sl 2 [1])⟩
 refine Z ?_
 refine Wd h rfl rfl ?_ ?_ <;> intro _ h
 refine Z ?_
 refine Wc h rfl rfl ?_ ?_ <;> intro _ h
 iterate 4 refine Zs ?_
 exact J fun g => lT _ _ _ h b13746 _ _ g _ _ (hH.sl 2 [1, 0])
 refine Z ?_
 refine Wc h rfl rfl ?_ ?_ <;> intro _ h
 iterate 4 refine Zs ?_
 exact J fun g => lT _ _ _ h b13746 _ _ g _ _ (hH.sl 2 [1, 0])
 refine Z ?_
 refine Wc h rfl rfl ?_ ?_ <;> intro _ h
 iterate 2 refine Zs ?_
 exact J fun g => lT _ _ _ h b13746 _ _ g _ _ (hH.sl 2 [1, 0])
 refine Z ?_
 refine Wc h rfl rfl ?_ ?_ <;> intro _ h
 iterate 4 refine Zs ?_
 exact J fun g => qJ _ _ _ h b13746 _ _ g _ _ (hH.sl 2 [1, 0])
 refine Z ?_
 refine Wc h rfl rfl ?_ ?_ <;> intro _ h
 iterate 2 refine Zs ?_
 exact J fun g => qJ _ _ _ h b13746 _ _ g _ _ (hH.sl 2 [1, 0])
 refine Z ?_
 refine Wc h rfl rfl ?_ ?_ <;> intro _ h
 refine Z ?_
 refine cB rfl (by kernel_rfl) ?_
 refine Z ?_
 refine Wb rfl rfl ?_
 refine Z ?_
 refine Pt rfl (Cr ?_)
 obtain rfl := si h
 exact prF (.inl rfl) (aS (.d (.bool (decide (s_.Ix < (t.Dets.length : Int))))) rfl (aJ)) ⟨rfl, (hH.sl 2 [1])⟩
 refine Z ?_
 refine Wc h rfl rfl ?_ ?_ <;> intro _ h
 iterate 4 refine Zs ?_
 exact J fun g => qK _ _ _ h b13746 _ _ g _ _ hH
 refine Z ?_
 refine Wc h rfl rfl ?_ ?_ <;> intro _ h
 iterate 2 refine Zs ?_
 exact J fun g => qK _ _ _ h b13746 _ _ g _ _ hH
 refine Z ?_
 refine Pt rfl (Cr ?_)
 obtain rfl := si h
 exact prF (.inl rfl) (aS (.d (.bool false)) rfl (aJ)) ⟨rfl, (hH.sl 2 [1])⟩
 refine Z ?_
 refine Pt rfl (Cr ?_)
 obtain rfl := si h
 exact prF (.inl rfl) (aS (.d (.bool false)) rfl (aJ)) ⟨rfl, (hH.sl 2 [1])⟩
 refine Z ?_
 refine Pt rfl (Cr ?_)
 obtain rfl := si h
 exact prF (.inl rfl) (aS (.d (.bool false)) rfl (aJ)) ⟨rfl, (hH.sl 2 [1])⟩
theorem yp (t i t73 t74 t75 r) (h : et t i t73 t74 t75 = some r) : qG t i t73 t74 t75 r := by
 refine et.partial_correctness t i t73 t74 (fun t75 r => qG t i t73 t74 t75 r) (fun et ih_et t75 r h be0 L g H n hH => ?_) t75 r h
 refine Po rfl ?_
 refine Z ?_
 refine Wc h rfl rfl ?_ ?_ <;> intro _ h
 refine Z ?_
 refine aA h rfl ek.1 cZ.1 (fun _ => rfl) rfl rfl (fun t77 h => ?_)
 refine aR (d := (aw.enc t77)) rfl cZ.1 rfl rfl ?_
 refine aQ rfl mi hH (fun b13768 H' n' hH => ?_)
 refine ax (new := (aw.av t77)) rfl cZ.1 hH (i := 0) rfl rfl rfl rfl rfl (Nat.le_of_ble_eq_true rfl) (fun H' hH => ?_)
 refine Z ?_
 refine cB rfl (by kernel_rfl) ?_
 refine Z ?_
 refine al h rfl kJ (sc rfl (sc rfl (sc rfl (sn)))) (fun y hy => gK _ _ _ y hy) (fun _ => rfl) (fun t87 h => ?_)
 revert h; cases t87 <;> intro h
 replace h := if0 h
 refine ba rfl rfl rfl ?_
 refine Z ?_
 refine Pt rfl (Cr ?_)
 obtain rfl := si h
 exact prF (.inl rfl) (aS (.d (.bool false)) rfl (aJ)) ⟨rfl, (hH.sl 2 [1])⟩
 replace h := if1 h
 refine ba rfl rfl rfl ?_
 refine Z ?_
 refine Wc h rfl rfl ?_ ?_ <;> intro _ h
 refine Z ?_
 refine Pt rfl (Cr ?_)
 obtain rfl := si h
 exact prF (.inl rfl) (aS (.d (.bool false)) rfl (aJ)) ⟨rfl, (hH.sl 2 [1])⟩
 refine Z ?_
 refine aF (v := .agg (ab.av t)) rfl bJ.1 hH (i := 1) rfl rfl rfl ?_
 refine Z ?_
 refine al h rfl HC (sc rfl (sc rfl (sc rfl (sn)))) (fun y hy => pi _ _ _ y hy) (fun _ => rfl) (fun t101 h => ?_)
 revert h; cases t101 <;> intro h
 replace h := if0 h
 refine ba rfl rfl rfl ?_
 refine Z ?_
 refine Pt rfl (Cr ?_)
 obtain rfl := si h
 exact prF (.inl rfl) (aS (.d (.bool false)) rfl (aJ)) ⟨rfl, (hH.sl 2 [1])⟩
 replace h := if1 h
 refine ba rfl rfl rfl ?_
 refine Z ?_
 exact J fun g => ih_et _ _ h _ _ g _ _ (hH.sl 2 [1])
 refine Z ?_
 refine Pt rfl (Cr ?_)
 obtain rfl := si h
 exact prF (.inl rfl) (aS (.d (.bool true)) rfl (aJ)) ⟨rfl, hH⟩
theorem FH (t Name Name1 Decls t160 t161 t162 r) (h : gA t Name Name1 Decls t160 t161 t162 = some r) : A8 t Name Name1 Decls t160 t161 t162 r := by
 refine gA.partial_correctness t Name t160 t161 (fun Name1 Decls t162 r => A8 t Name Name1 Decls t160 t161 t162 r) (fun gA ih_gA Name1 Decls t162 r h b0 b1 b2 w3 g H n hH => ?_) Name1 Decls t162 r h
 refine Po rfl ?_
 refine Z ?_
 refine Wc h rfl rfl ?_ ?_ <;> intro _ h
 refine Z ?_
 refine aA h rfl dr.1 bK.1 (fun _ => rfl) rfl rfl (fun t164 h => ?_)
 refine aR (d := (ah.enc t164)) rfl bK.1 rfl rfl ?_
 refine aQ rfl kf hH (fun b13990 H' n' hH => ?_)
 refine ax (new := (ah.av t164)) rfl bK.1 hH (i := 0) rfl rfl rfl rfl rfl (Nat.le_of_ble_eq_true rfl) (fun H' hH => ?_)
 refine Z ?_
 refine ct (pz := [(2, 3), (2, 4)]) rfl rfl (by kernel_rfl) (by kernel_rfl) (bi (v := .fn 17 [.pt b2 0]) (az) rfl (uU) ⟨rfl, rfl⟩ ?_)
 refine Z ?_
 refine bi (v := .agg (ah.av t164)) (.of [b13990] []) rfl (dR bK.1 hH (i := 0) rfl rfl rfl) ⟨rfl, rfl⟩ ?_
 have hHr := (hH.selG 5 [1, 0, 2, 3, 4] (by decide) (by decide) (gc rfl (gc rfl (gc rfl (gc rfl (gc rfl (gt rfl)))))))
 refine uW (A0 := [.box b0 (ab.av t)]) (A1 := []) (L := [.box b13990 (ah.av t164), .box b1 [.d (.str Name), .nil], .box b2 [.d (.str Name1), w3], dS w3 Decls]) (P := fun y rs As => ∃ w'0 w'1 w'2 w'3 w'4 : AV, rs = [.agg [w'0, w'1, w'2, w'3, w'4]] ∧ As = [fx w'0 y.1, br w'1 y.2.1, br w'2 y.2.2.1, br w'3 y.2.2.2.1, mo w'4 y.2.2.2.2, .box b0 (ab.av t)]) [.pt b0 0, .agg (ah.av t164)] h rfl rfl Nt rfl hHr (mcc (.pt (j := 0) rfl) (mcc (.agg (mcc (.d _) (mcc (.d _) (mcc (.d _) (mcc (.d _) (mcc (.d _) (mcc (.d _) (mcc (.d _) (mcn))))))))) (mcn))) (cbb (mcc (.d _) (mcc (.d _) (mcc (.d _) (mcc (.d _) (mcc (.d _) (mcc (.d _) (mcc (.d _) (mcc (.d _) (mcc (.d _) (mcn)))))))))) (cbn)) (rcc (cc 0 rfl (dl)) (rcn)) rfl (fun y hy H n L' hH => (D4 _ _ y hy b0 _ _ _ hH).to (fun rs H' n' ⟨w0, w1, w2, w3, w4, e, hp⟩ => ⟨_, ⟨w0, w1, w2, w3, w4, e, rfl⟩, hp⟩)) (by rintro _ _ _ ⟨_, _, _, _, _, rfl, rfl⟩ _ hi; simp only [List.mem_cons, List.not_mem_nil, or_false] at hi; subst hi; simp) (fun t170 rs As H' n12991 h hP hH hoff12991 hoffk12991 hn12991 => ?_)
 obtain ⟨w12991_0, w12991_1, w12991_2, w12991_3, w12991_4, rfl, rfl⟩ := hP
 clear hHr
 have hof12991_1 := hoffk12991.box (k := 1) rfl
 clear hoff12991 hoffk12991
 refine bi (v := .agg [.d (.int .i64 9), .d (.int .i64 0), .d (.int .i64 0), .d (.str t164.Name), .d (.str ⟨#[]⟩), .d (.int .i64 0), .d (.int .i32 0), .d (.int .i32 0), .d (.int .i32 0), .nil, w12991_0, w12991_1, w12991_2, w12991_3, w12991_4]) (az) rfl (cy cO eo (by show er dD _ _ [(0, .d (.int .i64 9)), (2, .d (.str t164.Name)), (7, .agg [w12991_0, w12991_1, w12991_2, w12991_3, w12991_4])] = _; simp only [er, Ak (cs := [w12991_0, w12991_1, w12991_2, w12991_3, w12991_4]) (by simp only [List.all_cons, List.all_nil, (hH.okOwn (j := 0) rfl).1, (hH.okOwn (j := 1) rfl).1, (hH.okOwn (j := 2) rfl).1, (hH.okOwn (j := 3) rfl).1, (hH.okOwn (j := 4) rfl).1]; rfl)]; rfl)) ⟨rfl, rfl⟩ ?_
 have hHr := (hH.selG 10 [0, 1, 2, 3, 4, 8, 9, 5, 6, 7] (by decide) (by decide) (gc rfl (gc rfl (gc rfl (gc rfl (gc rfl (gc rfl (gc rfl (gc rfl (gc rfl (gc rfl (gt rfl))))))))))))
 refine vl (A := [fx w12991_0 t170.1, br w12991_1 t170.2.1, br w12991_2 t170.2.2.1, br w12991_3 t170.2.2.2.1, mo w12991_4 t170.2.2.2.2, .box b2 [.d (.str Name1), w3], dS w3 Decls]) (L := [.box b0 (ab.av t), .box b13990 (ah.av t164), .box b1 [.d (.str Name), .nil]]) (P := fun y rs As => ∃ (w'1 : AV), rs = [] ∧ As = [.box b2 [.d (.str y.1), w'1], dS w'1 y.2]) [.agg [.d (.int .i64 9), .d (.int .i64 0), .d (.int .i64 0), .d (.str t164.Name), .d (.str ⟨#[]⟩), .d (.int .i64 0), .d (.int .i32 0), .d (.int .i32 0), .d (.int .i32 0), .nil, w12991_0, w12991_1, w12991_2, w12991_3, w12991_4], .pt b2 0] h rfl rfl tt rfl hHr (mcc (.agg (mcc (.d _) (mcc (.d _) (mcc (.d _) (mcc (.d _) (mcc (.d _) (mcc (.d _) (mcc (.d _) (mcc (.d _) (mcc (.d _) (mcc (.nil) (mcc (.own (j := 0) rfl) (mcc (.own (j := 1) rfl) (mcc (.own (j := 2) rfl) (mcc (.own (j := 3) rfl) (mcc (.own (j := 4) rfl) (mcn))))))))))))))))) (mcc (.pt (j := 5) rfl) (mcn))) (cbo (cbo (cbo (cbo (cbo (cbb (mcc (.d _) (mcc (.own (j := 6) rfl) (mcn))) (cbo (cbn)))))))) (rcc (cc 0 rfl (xe 10 rfl (dI))) (rcc (cc 0 rfl (xe 11 rfl (dI))) (rcc (cc 0 rfl (xe 12 rfl (dI))) (rcc (cc 0 rfl (xe 13 rfl (dI))) (rcc (cc 0 rfl (xe 14 rfl (dI))) (rcc (cc 1 rfl (dl)) (rcc (fm 5 hHr rfl (cc 1 rfl (dl)) 1 rfl (dI)) (rcn)))))))) (fun y hy H n L' hH => (gk _ _ _ _ _ _ _ _ _ _ _ _ _ _ _ _ y hy w12991_0 w12991_1 w12991_2 w12991_3 w12991_4 b2 w3 _ _ _ hH).to (fun rs H' n' ⟨w0, e, hp⟩ => ⟨_, ⟨w0, e, rfl⟩, hp⟩)) (fun t172 rs As H' n12992 h hP hH hoff12992 hn12992 => ?_)
 obtain ⟨w12992_1, rfl, rfl⟩ := hP
 clear hHr
 clear hoff12992
 refine xn (pk rfl rfl aG (pk rfl rfl (Cd hof12991_1) (pkn))) ?_
 refine Z ?_
 exact J fun g => ih_gA _ _ _ _ h b0 b1 b2 w12992_1 g _ _ (hH.sl 5 [2, 4, 0, 1])
 refine Z ?_
 refine aA h rfl dr.1 bK.1 (fun _ => rfl) rfl rfl (fun t179 h => ?_)
 refine Z ?_
 refine cr (cs := [.d (.int .i64 10), .d (.int .i64 0), .d (.int .i64 0), .d (.str t179.Name), .d (.str ⟨#[]⟩), .d (.int .i64 0), .d (.int .i32 0), .d (.int .i32 0), .d (.int .i32 0), .nil, .nil, .nil, .nil, .nil, .nil]) rfl cO eo rfl ?_
 refine fw [.agg [.d (.int .i64 10), .d (.int .i64 0), .d (.int .i64 0), .d (.str t179.Name), .d (.str ⟨#[]⟩), .d (.int .i64 0), .d (.int .i32 0), .d (.int .i32 0), .d (.int .i32 0), .nil, .nil, .nil, .nil, .nil, .nil], .pt b2 0] h rfl rfl tt rfl (fun y hy => gk _ _ _ _ _ _ _ _ _ _ _ _ _ _ _ _ y hy .nil .nil .nil .nil .nil b2 w3 _ _ ([.box b0 (ab.av t), .box b1 [.d (.str Name), .nil]]) ((((((hH.addNil (z := ⟨9, 1⟩)).addNil (z := ⟨105, 6⟩)).addNil (z := ⟨105, 6⟩)).addNil (z := ⟨105, 6⟩)).addNil (z := ⟨118, 4⟩)).sl 9 [4, 3, 2, 1, 0, 7, 8, 5, 6])) (fun t183 rs H' n' h hP => ?_)
 obtain ⟨w12993_1, rfl, hH⟩ := hP
 refine Z ?_
 refine aF (v := .agg [.d (.str t183.1), w12993_1]) rfl iB.1 hH (i := 0) rfl rfl rfl ?_
 refine ax (new := [.d (.str t183.1), w12993_1]) rfl iB.1 hH (i := 3) rfl rfl rfl rfl (by simp only [List.all_cons, List.all_nil, (hH.okOwn (j := 1) rfl).1]; rfl) (Nat.le_of_ble_eq_true rfl) (fun H' hH => ?_)
 refine Z ?_
 refine Pt rfl (Cr ?_)
 obtain rfl := si h
 exact pdF (.inl rfl) (iI (.agg [.d (.str t183.1), w12993_1]) iB.1 hH (i := 3) rfl rfl rfl (aS (.d (.int .i64 0)) rfl (aJ))) (FS.agg (FS.d (FS.own hH (j := 1) rfl (fun _ hH => FS.nil hH))) (fun _ hH => FS.d (FS.nil hH)))
theorem gM (w n_ ok r) (h : fA w n_ ok = some r) (g H n) : PAt C (aj Tryz.f66) (.b (.b (.b .o))) ⟨upd (upd (upd g 0 (.d (.str w))) 4 (.d (.int .i64 n_))) 5 (.d (.bool ok)), H, n⟩ (aq C Tryz.f66 [(.int .i32 r.1), (.int .i64 r.2)]) := by
 refine Z ?_
 refine bA (b := (!ok)) h rfl (kC rfl rfl) rfl (fun _ => ⟨rfl, rfl⟩) ?_ ?_ <;> intro _ h
 refine Z ?_
 refine al h rfl O3 (sc rfl (sn)) (fun y hy => D5 _ y hy) (fun _ => rfl) (fun t38 h => ?_)
 refine Z ?_
 refine bA (b := t38.2) h rfl (fN rfl rfl) rfl (fun _ => ⟨rfl, rfl⟩) ?_ ?_ <;> intro _ h
 refine Zs ?_
 exact J fun g => nO _ _ _ h g _ _
 refine Zs ?_
 exact J fun g => nO _ _ _ h g _ _
 iterate 3 refine Zs ?_
 exact J fun g => nO _ _ _ h g _ _
theorem I4 (e r) (h : zq e = some r) : aL C 68 [(.lst (e.map ae.enc))] = some [(.int .i64 r)] := by
 refine aB (bu _ _ rfl) Q9 rfl (jmp 0 (.d (.lst (e.map ae.enc))) rfl ?_)
 refine Z ?_
 refine al h rfl O4 (sc rfl (sn)) (fun y hy => IW _ y hy) (fun _ => rfl) (fun t17 h => ?_)
 revert h; cases t17 <;> intro h
 replace h := if0 h
 refine Zs ?_
 exact J fun g => ww _ _ _ h g _ _
 replace h := if1 h
 refine Zs ?_
 exact J fun g => ww _ _ _ h g _ _
theorem zP (t i r) (h : fg t i = some r) : rW t i r := by
 refine fg.partial_correctness t (fun i r => rW t i r) (fun fg ih_fg i r h b0 g H n hH => ?_) i r h
 refine Po rfl ?_
 refine Z ?_
 refine Wc h rfl rfl ?_ ?_ <;> intro _ h
 refine Z ?_
 refine aA h rfl fq.1 dB.1 (fun _ => rfl) rfl rfl (fun t17 h => ?_)
 refine Z ?_
 refine Wc h rfl rfl ?_ ?_ <;> intro _ h
 refine Z ?_
 cases h; exact Pq rfl rfl
 refine Z ?_
 exact J fun g => ih_fg _ _ h b0 g _ _ hH
 refine Z ?_
 exact J fun g => zK _ _ _ h b0 g _ _ hH
theorem vb (tF s_F Green g_ r) (h : dt tF s_F Green g_ = some r) : jU tF s_F (.c0 Green g_) r := rm tF s_F (.c0 Green g_) r h
theorem Da (a b r) (h : pS a b = some r) : aL C 7 [(aW.enc a), (aW.enc b)] = some [(.bool r)] := by
 refine aB (bu _ _ rfl) fn7 rfl (jmp 0 (.d (aW.enc a)) rfl (jmp 1 (.d (aW.enc b)) rfl ?_))
 refine Z ?_
 refine cu (cs := (aW.av a)) rfl iB.1 rfl rfl rfl (HP.nil _ _) (fun b14363 H' n' hH => ?_)
 refine cu (cs := (aW.av b)) rfl iB.1 rfl rfl rfl hH (fun b14364 H' n' hH => ?_)
 refine Z ?_
 refine Wd h rfl rfl ?_ ?_ <;> intro _ h
 refine Z ?_
 refine Wd h rfl rfl ?_ ?_ <;> intro _ h
 refine Z ?_
 exact J fun g => zM _ _ _ _ h b14363 b14364 g _ _ (hH.sl 2 [1, 0])
 refine Z ?_
 cases h; exact Pq rfl rfl
 refine Z ?_
 cases h; exact Pq rfl rfl
theorem yq (a b i r) (h : eC a b i = some r) : qQ a b i r := by
 refine eC.partial_correctness a b (fun i r => qQ a b i r) (fun eC ih_eC i r h b0 b1 g H n hH => ?_) i r h
 refine Po rfl ?_
 refine Z ?_
 refine Wc h rfl rfl ?_ ?_ <;> intro _ h
 refine Z ?_
 refine cB rfl (by kernel_rfl) ?_
 refine Z ?_
 refine aA h rfl fq.1 dB.1 (fun _ => rfl) rfl rfl (fun t97 h => ?_)
 refine aR (d := (aN.enc t97)) rfl dB.1 rfl rfl ?_
 refine Z ?_
 refine aA h rfl fq.1 dB.1 (fun _ => rfl) rfl rfl (fun t102 h => ?_)
 refine aR (d := (aN.enc t102)) rfl dB.1 rfl rfl ?_
 refine bA (b := (!(decide (t97.Name = t102.Name) && (decide (t97.Init = t102.Init) && true)))) h rfl (kW LB N9 rfl rfl rfl) rfl (fun _ => ⟨rfl, rfl⟩) ?_ ?_ <;> intro _ h
 refine Z ?_
 cases h; exact Pq rfl rfl
 refine Z ?_
 exact J fun g => ih_eC _ _ h b0 b1 g _ _ hH
 refine Z ?_
 exact J fun g => yj _ _ _ _ h b0 b1 g _ _ hH
theorem wW (nodes stmts tnexts stages groups pairs dets vars texts i r) (h : ns nodes stmts tnexts stages groups pairs dets vars texts i = some r) (w1 w2 w3 w4 w5 w6 w7 w8 w9 be0 L g H n) (hH : HP H n (.box be0 [w1, w2, w3, .nil, w4, .nil, w5, w6, w7, w8, .nil, w9, .nil, .nil, .nil, .nil, .nil] :: bS w1 nodes :: bT w2 stmts :: bU w3 tnexts :: cz w4 stages :: bw w5 groups :: bz w6 pairs :: bF w7 dets :: bV w8 vars :: bL w9 texts :: L)) : PAt C (aj Tryz.f9) (.a (.b (.a (.b (.b (.b .o)))))) ⟨upd (upd g 0 (.pt be0 0)) 7 (.d (.int .i64 i)), H, n⟩ (cb C Tryz.f9 (fun rs H' n' => ∃ w'1 w'2 w'3 w'4 w'5 w'6 w'7 w'8 w'9 : AV, rs = [.d (.bool r.1)] ∧ HP H' n' (.box be0 [w'1, w'2, w'3, .nil, w'4, .nil, w'5, w'6, w'7, w'8, .nil, w'9, .nil, .nil, .nil, .nil, .nil] :: bS w'1 r.2.1 :: bT w'2 r.2.2.1 :: bU w'3 r.2.2.2.1 :: cz w'4 r.2.2.2.2.1 :: bw w'5 r.2.2.2.2.2.1 :: bz w'6 r.2.2.2.2.2.2.1 :: bF w'7 r.2.2.2.2.2.2.2.1 :: bV w'8 r.2.2.2.2.2.2.2.2.1 :: bL w'9 r.2.2.2.2.2.2.2.2.2 :: L))) := by
 refine Po rfl ?_
 refine Z ?_
 refine pf rfl Lx.1 rfl ?_
 refine Wc h rfl rfl ?_ ?_ <;> intro _ h
 refine Z ?_
 cases h
 refine Z ?_
 exact J fun g => wV _ _ _ _ _ _ _ _ _ _ _ h w1 w2 w3 w4 w5 w6 w7 w8 w9 _ _ g _ _ hH
theorem sm (text v ok r) (h : kn text v ok = some r) (g H n) : PAt C (aj Tryz.f58) (.b (.b .o)) ⟨upd (upd (upd g 0 (.d (.str text))) 4 (.d (.int .i64 v))) 5 (.d (.bool ok)), H, n⟩ (aq C Tryz.f58 [(.int .i32 r.1), (.int .i64 r.2)]) := by
 refine Z ?_
 refine bA (b := (!ok)) h rfl (kC rfl rfl) rfl (fun _ => ⟨rfl, rfl⟩) ?_ ?_ <;> intro _ h
 refine Z ?_
 refine al h rfl NY (sc rfl (sc rfl (sn))) (fun y hy => vh _ _ y hy) (fun _ => rfl) (fun t17 h => ?_)
 refine Z ?_
 refine bA (b := t17.2) h rfl (fN rfl rfl) rfl (fun _ => ⟨rfl, rfl⟩) ?_ ?_ <;> intro _ h
 refine Zs ?_
 exact J fun g => sj _ _ _ _ h g _ _
 refine Zs ?_
 exact J fun g => sj _ _ _ _ h g _ _
 iterate 3 refine Zs ?_
 exact J fun g => iw _ _ _ h g _ _
theorem vc (tF : ab) (t9F : List ac) (t10F : Int) (st : ni) (r : Bool) (h : cn tF t9F t10F st = some r) : mR tF t9F t10F st r := by
 refine cn.partial_correctness tF t9F t10F (mR tF t9F t10F) (fun c_soundList_L1_run' ih_ st r h => ?_) st r h
 cases st with
 | c0 open_ t11 =>
  intro w1 be0 L g H n hH
  refine Po rfl ?_
  refine Z ?_
  refine Wc h rfl rfl ?_ ?_ <;> intro _ h
  refine Z ?_
  refine aA h rfl cf.1 bj.1 (fun _ => rfl) rfl rfl (fun t13 h => ?_)
  refine aR (d := (ac.enc t13)) rfl bj.1 rfl rfl ?_
  refine aQ rfl fM hH (fun b13752 H' n' hH => ?_)
  refine ax (new := (ac.av t13)) rfl bj.1 hH (i := 0) rfl rfl rfl rfl rfl (Nat.le_of_ble_eq_true rfl) (fun H' hH => ?_)
  refine Z ?_
  refine aF (v := .agg (ac.av t13)) rfl bj.1 hH (i := 0) rfl rfl rfl ?_
  refine fw [.pt be0 0, .agg (ac.av t13)] h rfl rfl NP rfl (fun y hy => D9 _ _ y hy be0 _ _ (.box b13752 (ac.av t13) :: yH w1 open_ :: L) (hH.sl 3 [1, 0, 2])) (fun t17 rs H' n' h hP => ?_)
  obtain ⟨rfl, hH⟩ := hP
  refine bA (b := (!t17)) h rfl (kC rfl rfl) rfl (fun _ => ⟨rfl, rfl⟩) ?_ ?_ <;> intro _ h
  refine Z ?_
  refine Pt rfl (Cr ?_)
  obtain rfl := si h
  exact prF (.inl rfl) (aS (.d (.bool false)) rfl (aJ)) ⟨rfl, (hH.sl 3 [0])⟩
  refine Z ?_
  refine Wc h rfl rfl ?_ ?_ <;> intro _ h
  refine Z ?_
  refine Wc h rfl rfl ?_ ?_ <;> intro _ h
  refine Z ?_
  refine Pt rfl (Cr ?_)
  obtain rfl := si h
  exact prF (.inl rfl) (aS (.d (.bool false)) rfl (aJ)) ⟨rfl, (hH.sl 3 [0])⟩
  refine Z ?_
  refine cN (enc := Dat.bool) (xs := [false]) [.d (.bool false)] rfl kz.1 lQ.1 KC ⟨by decide, Nat.le_of_ble_eq_true rfl⟩ zd4 (fun _ => rfl) (fun _ => rfl) rfl rfl hH (fun w13754 H' n' hH => ?_)
  refine bl (enc := Dat.bool) h rfl kz.1 lQ.1 IN (by decide) (fun _ => rfl) hH (j := 3) rfl rfl (aM hH (j := 0) rfl) (fun t29 w13755 H' n' h hH => ?_)
  refine Zs ?_
  exact J fun g => ih_ (.c1 _ _) _ h w13755 _ _ g _ _ (hH.sl 4 [2, 0])
  refine Z ?_
  refine Wc h rfl rfl ?_ ?_ <;> intro _ h
  refine Z ?_
  refine Wc h rfl rfl ?_ ?_ <;> intro _ h
  refine Z ?_
  refine Pt rfl (Cr ?_)
  obtain rfl := si h
  exact prF (.inl rfl) (aS (.d (.bool false)) rfl (aJ)) ⟨rfl, (hH.sl 3 [0])⟩
  refine Z ?_
  refine bO h rfl kz.1 lQ.1 hH (j := 2) rfl rfl rfl (fun i12756 t38 h hl12756 hv12756 => ?_)
  refine bA (b := t38) h rfl (FF lQ.1 hH (j := 2) rfl hl12756 rfl hv12756 rfl) rfl (fun _ => ⟨rfl, rfl⟩) ?_ ?_ <;> intro _ h
  refine Z ?_
  refine Pt rfl (Cr ?_)
  obtain rfl := si h
  exact prF (.inl rfl) (aS (.d (.bool false)) rfl (aJ)) ⟨rfl, (hH.sl 3 [0])⟩
  refine Z ?_
  refine bO h rfl kz.1 lQ.1 hH (j := 2) rfl rfl rfl (fun i12757 t44 h hl12757 hv12757 => ?_)
  replace h := (ro _ _).symm.trans h
  refine tE (e' := true) (d := (.bool true)) rfl lQ.1 hH (j := 2) rfl hl12757 rfl hv12757 rfl rfl rfl (Nat.le_of_ble_eq_true rfl) rfl (fun l12758 H' hq hl12758 hv12758 hH => ?_)
  rw [← hq] at h
  refine Zs ?_
  exact J fun g => ih_ (.c1 _ _) _ h w1 _ _ g _ _ (hH.sl 3 [0, 2])
  refine Z ?_
  refine Wc h rfl rfl ?_ ?_ <;> intro _ h
  refine Z ?_
  refine Wc h rfl rfl ?_ ?_ <;> intro _ h
  refine Z ?_
  refine Pt rfl (Cr ?_)
  obtain rfl := si h
  exact prF (.inl rfl) (aS (.d (.bool false)) rfl (aJ)) ⟨rfl, (hH.sl 3 [0])⟩
  refine Z ?_
  refine kV h rfl kz.1 lQ.1 hH (j := 2) rfl rfl iD (fun t52 w13759 H' n' h hH => ?_)
  refine Zs ?_
  exact J fun g => ih_ (.c1 _ _) _ h w13759 _ _ g _ _ (hH.sl 3 [0, 2])
  iterate 3 refine Zs ?_
  exact J fun g => ih_ (.c1 _ _) _ h w1 _ _ g _ _ (hH.sl 3 [0, 2])
  refine Z ?_
  refine Wb rfl rfl ?_
  refine Z ?_
  refine Pt rfl (Cr ?_)
  obtain rfl := si h
  exact prF (.inl rfl) (aS (.d (.bool (decide ((open_.length : Int) = 0)))) rfl (aJ)) ⟨rfl, (hH.sl 2 [0])⟩
 | c1 open_ t11 =>
  intro w1 be0 L g H n hH
  refine Z ?_
  exact J fun g => ih_ (.c0 _ _) _ h w1 _ _ g _ _ hH
theorem FI (t Name Name1 Decls t144 t145 t146 r) (h : gB t Name Name1 Decls t144 t145 t146 = some r) : A9 t Name Name1 Decls t144 t145 t146 r := by
 refine gB.partial_correctness t Name t144 t145 (fun Name1 Decls t146 r => A9 t Name Name1 Decls t144 t145 t146 r) (fun gB ih_gB Name1 Decls t146 r h b0 b1 b2 w3 g H n hH => ?_) Name1 Decls t146 r h
 refine Po rfl ?_
 refine Z ?_
 refine Wc h rfl rfl ?_ ?_ <;> intro _ h
 refine Z ?_
 refine aA h rfl fq.1 dB.1 (fun _ => rfl) rfl rfl (fun t148 h => ?_)
 refine aR (d := (aN.enc t148)) rfl dB.1 rfl rfl ?_
 refine aQ rfl uO hH (fun b13988 H' n' hH => ?_)
 refine ax (new := (aN.av t148)) rfl dB.1 hH (i := 0) rfl rfl rfl rfl rfl (Nat.le_of_ble_eq_true rfl) (fun H' hH => ?_)
 refine Z ?_
 refine iu (cs := [.d (.int .i32 t148.Init), .d (.int .i32 0), .d (.int .i32 0)]) rfl pY tr tu.1 rfl (cr (cs := [.d (.int .i64 7), .d (.int .i64 0), .d (.int .i64 0), .d (.str t148.Name), .d (.str ⟨#[]⟩), .d (.int .i64 0), .d (.int .i32 t148.Init), .d (.int .i32 0), .d (.int .i32 0), .nil, .nil, .nil, .nil, .nil, .nil]) rfl cO eo rfl ?_)
 refine fw [.agg [.d (.int .i64 7), .d (.int .i64 0), .d (.int .i64 0), .d (.str t148.Name), .d (.str ⟨#[]⟩), .d (.int .i64 0), .d (.int .i32 t148.Init), .d (.int .i32 0), .d (.int .i32 0), .nil, .nil, .nil, .nil, .nil, .nil], .pt b2 0] h rfl rfl tt rfl (fun y hy => gk _ _ _ _ _ _ _ _ _ _ _ _ _ _ _ _ y hy .nil .nil .nil .nil .nil b2 w3 _ _ ([.box b13988 (aN.av t148), .box b0 (ab.av t), .box b1 [.d (.str Name), .nil]]) ((((((hH.addNil (z := ⟨9, 1⟩)).addNil (z := ⟨105, 6⟩)).addNil (z := ⟨105, 6⟩)).addNil (z := ⟨105, 6⟩)).addNil (z := ⟨118, 4⟩)).sl 10 [4, 3, 2, 1, 0, 8, 9, 5, 6, 7])) (fun t157 rs H' n' h hP => ?_)
 obtain ⟨w12989_1, rfl, hH⟩ := hP
 refine Z ?_
 exact J fun g => ih_gB _ _ _ _ h b0 b1 b2 w12989_1 g _ _ (hH.sl 5 [3, 4, 0, 1])
 refine Z ?_
 exact J fun g => FH _ _ _ _ _ _ _ _ h b0 b1 b2 w3 g _ _ hH
theorem tG (w n_ ok r) (h : le w n_ ok = some r) (g H n) : PAt C (aj Tryz.f66) (.b (.b .o)) ⟨upd (upd (upd g 0 (.d (.str w))) 4 (.d (.int .i64 n_))) 5 (.d (.bool ok)), H, n⟩ (aq C Tryz.f66 [(.int .i32 r.1), (.int .i64 r.2)]) := by
 refine Z ?_
 refine bA (b := (!ok)) h rfl (kC rfl rfl) rfl (fun _ => ⟨rfl, rfl⟩) ?_ ?_ <;> intro _ h
 refine Z ?_
 refine du rfl (dsc ty9) rfl ?_
 refine Wc h rfl rfl ?_ ?_ <;> intro _ h
 refine Z ?_
 refine ir h rfl ty9 rfl rfl (fun t20 h => ?_)
 refine Wc h rfl rfl ?_ ?_ <;> intro _ h
 refine Z ?_
 refine ir h rfl ty9 rfl rfl (fun t25 h => ?_)
 refine Wc h rfl rfl ?_ ?_ <;> intro _ h
 refine Z ?_
 refine uR h rfl ty9 rfl (Eu) (fun t30 h => ?_)
 refine al h rfl HH (sc rfl (sc rfl (sc rfl (sn)))) (fun y hy => rM _ _ _ y hy) (fun _ => rfl) (fun t31 h => ?_)
 refine Z ?_
 refine bA (b := t31.2) h rfl (fN rfl rfl) rfl (fun _ => ⟨rfl, rfl⟩) ?_ ?_ <;> intro _ h
 refine Zs ?_
 exact J fun g => gM _ _ _ _ h g _ _
 refine Zs ?_
 exact J fun g => gM _ _ _ _ h g _ _
 iterate 3 refine Zs ?_
 exact J fun g => gM _ _ _ _ h g _ _
 iterate 3 refine Zs ?_
 exact J fun g => gM _ _ _ _ h g _ _
 iterate 3 refine Zs ?_
 exact J fun g => gM _ _ _ _ h g _ _
 iterate 3 refine Zs ?_
 exact J fun g => gM _ _ _ _ h g _ _
end Go.Proofs.YtkmbagocakiefaaGreatDoor.Wb
