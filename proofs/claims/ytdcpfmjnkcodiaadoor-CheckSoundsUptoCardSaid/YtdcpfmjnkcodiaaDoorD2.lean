/- The abstract machine computes these functions. Printed by decomp.py. -/
import Derived.Test.YtdcpfmjnkcodiaaDoorC2
import Derived.Test.YtdcpfmjnkcodiaaDoorD1
namespace Go.Proofs.YtdcpfmjnkcodiaaDoor.We
open Go Go.Jv
set_option maxHeartbeats 4000000
open Go.Proofs
set_option maxHeartbeats 4000000
theorem r5_Room_Typed_ok (t : TypedT) (r : ByteArray × (List GroupT) × (List ConflictT) × (List DetT) × (List ByteArray) × (List ByteArray) × (List VarT) × (List TStageT) × Int × R9) (h : r5_Room_Typed t = some r) (be0 : Nat) (H : Hs) (n : Nat) (L : List Jv.Item) (hH : HP H n (.box be0 [.nil, .nil, .nil, .nil, .nil, .nil, .nil, .nil, .nil, .nil, .nil, .nil, .nil, .nil, .nil, .nil, .nil] :: L)) : Raw C 46 [.pt be0 0, .agg (TypedT.av t)] H n (fun rs H' n' => ∃ w'0 w'1 w'2 w'3 w'4 w'5 w'6 w'8 w'9 w'10 w'11 w'12 w'13 w'14 w'15 w'16 : AV, rs = [.agg [.d (.str r.1), w'0, w'1, w'2, w'3, w'4, w'5, w'6, .d (.int .i64 r.2.2.2.2.2.2.2.2.1)]] ∧ HP H' n' (.imm w'0 ⟨200, 5⟩ (r.2.1.map GroupT.enc) :: .imm w'1 ⟨203, 4⟩ (r.2.2.1.map ConflictT.enc) :: .imm w'2 ⟨207, 4⟩ (r.2.2.2.1.map DetT.enc) :: .imm w'3 ⟨9, 1⟩ (r.2.2.2.2.1.map Dat.str) :: .imm w'4 ⟨9, 1⟩ (r.2.2.2.2.2.1.map Dat.str) :: .imm w'5 ⟨193, 2⟩ (r.2.2.2.2.2.2.1.map VarT.enc) :: .imm w'6 ⟨196, 7⟩ (r.2.2.2.2.2.2.2.1.map TStageT.enc) :: .box be0 [w'8, w'9, w'10, .nil, w'11, .nil, w'12, w'13, w'14, w'15, .nil, w'16, .nil, .nil, .nil, .nil, .nil] :: o22_1 w'8 r.2.2.2.2.2.2.2.2.2.1 :: o58_1 w'9 r.2.2.2.2.2.2.2.2.2.2.1 :: o194_1 w'10 r.2.2.2.2.2.2.2.2.2.2.2.1 :: o93_1 w'11 r.2.2.2.2.2.2.2.2.2.2.2.2.1 :: o86_1 w'12 r.2.2.2.2.2.2.2.2.2.2.2.2.2.1 :: o87_1 w'13 r.2.2.2.2.2.2.2.2.2.2.2.2.2.2.1 :: o90_1 w'14 r.2.2.2.2.2.2.2.2.2.2.2.2.2.2.2.1 :: o92_1 w'15 r.2.2.2.2.2.2.2.2.2.2.2.2.2.2.2.2.1 :: o91_1 w'16 r.2.2.2.2.2.2.2.2.2.2.2.2.2.2.2.2.2 :: L)) := by
 refine raw_at fn46 rfl (jmp 0 (.pt be0 0) rfl (jmp 1 (.agg (TypedT.av t)) rfl (Ps (Pr rfl ?_))))
 refine w_box (cs := (TypedT.av t)) rfl szg95 rfl rfl rfl hH (fun b7586 H' n' hH => ?_)
 refine alloc_z rfl zero95 hH (fun b7587 H' n' hH => ?_)
 refine Wn (Ns (Ps (p_fts (pz := [(1, 3), (1, 6), (3, 6), (1, 7), (3, 7), (1, 10), (3, 10), (6, 10), (7, 10), (1, 11), (3, 11), (1, 14), (3, 14), (6, 14), (7, 14), (10, 14), (11, 14), (1, 15), (3, 15), (1, 18), (3, 18), (6, 18), (7, 18), (10, 18), (11, 18), (14, 18), (15, 18), (1, 19), (3, 19), (1, 21), (3, 21), (6, 21), (7, 21), (10, 21), (11, 21), (14, 21), (15, 21), (18, 21), (19, 21)]) rfl rfl (by kernel_rfl) (by kernel_rfl) (x_op (v := .pt b7586 0) (noFt) rfl (o_faddr fo95_0 (by decide) rfl) ⟨rfl, rfl⟩ (x_op (v := .d (.str t.Name)) (.of [b7586] []) rfl (o_load_b szg9 hH (i := 1) rfl rfl rfl) ⟨rfl, rfl⟩ (x_op (v := .pt b7586 8) (noFt) rfl (o_faddr fo95_7 (by decide) rfl) ⟨rfl, rfl⟩ (x_op (v := .d (.int .i64 t.Start)) (.of [b7586] []) rfl (o_load_b szg3 hH (i := 1) rfl rfl rfl) ⟨rfl, rfl⟩ (x_op (v := .pt be0 0) (noFt) rfl (o_move) ⟨rfl, rfl⟩ (x_op (v := .pt b7586 1) (noFt) rfl (o_faddr fo95_1 (by decide) rfl) ⟨rfl, rfl⟩ ?_)))))))))
 refine x_op (v := .agg (TablesT.av t.Tables)) (.of [b7586] []) rfl (o_load_b szg89 hH (i := 1) rfl rfl rfl) ⟨rfl, rfl⟩ ?_
 have hHr := (hH.selG 3 [2, 0, 1] (by decide) (by decide) (gc rfl (gc rfl (gc rfl (gt rfl)))))
 refine x_raw (A := [.box be0 [.nil, .nil, .nil, .nil, .nil, .nil, .nil, .nil, .nil, .nil, .nil, .nil, .nil, .nil, .nil, .nil, .nil]]) (L := .box b7587 [.d (.str ⟨#[]⟩), .nil, .nil, .nil, .nil, .nil, .nil, .nil, .d (.int .i64 0)] :: .box b7586 (TypedT.av t) :: L) (P := fun y rs As => ∃ w'0 w'1 w'3 w'4 : AV, rs = [.agg [w'0, w'1]] ∧ As = [.imm w'0 ⟨200, 5⟩ (y.1.map GroupT.enc), .imm w'1 ⟨203, 4⟩ (y.2.1.map ConflictT.enc), .box be0 [.nil, .nil, .nil, .nil, .nil, .nil, w'3, w'4, .nil, .nil, .nil, .nil, .nil, .nil, .nil, .nil, .nil], o86_1 w'3 y.2.2.1, o87_1 w'4 y.2.2.2]) [.pt be0 0, .agg (TablesT.av t.Tables)] h rfl rfl sig110 rfl hHr (mcc (.pt (j := 0) rfl) (mcc (.agg (mcc (.d _) (mcc (.d _) (mcn)))) (mcn))) (cbb (mcc (.nil) (mcc (.nil) (mcc (.nil) (mcc (.nil) (mcc (.nil) (mcc (.nil) (mcc (.nil) (mcc (.nil) (mcc (.nil) (mcc (.nil) (mcc (.nil) (mcc (.nil) (mcc (.nil) (mcc (.nil) (mcc (.nil) (mcc (.nil) (mcc (.nil) (mcn)))))))))))))))))) (cbn)) (rcc (li_arg 0 rfl (mi_pt)) (rcn)) (fun y hy H n L' hH => (r5_Room_Tables_ok _ y hy be0 _ _ _ hH).to (fun rs H' n' ⟨w0, w1, w2, w3, e, hp⟩ => ⟨_, ⟨w0, w1, w2, w3, e, rfl⟩, hp⟩)) (fun t22 rs As H' n6588 h hP hH hoff6588 hn6588 => ?_)
 obtain ⟨w6588_0, w6588_1, w6588_3, w6588_4, rfl, rfl⟩ := hP
 clear hHr
 have hof6588_0 := hoff6588.box (k := 0) rfl
 have hof6588_1 := hoff6588.box (k := 1) rfl
 have hof6588 := hoff6588.lt
 clear hoff6588
 refine x_op (v := .pt be0 0) (noFt) rfl (o_move) ⟨rfl, rfl⟩ (x_op (v := .pt b7586 3) (noFt) rfl (o_faddr fo95_2 (by decide) rfl) ⟨rfl, rfl⟩ (x_op (v := .d (.lst (t.Dets.map DetT.enc))) (.of [b7586] []) rfl (o_load_b szg90 hH (i := 6) rfl rfl rfl) ⟨rfl, rfl⟩ ?_))
 have hHr := (hH.selG 7 [2, 3, 4, 0, 1, 5, 6] (by decide) (by decide) (gc rfl (gc rfl (gc rfl (gc rfl (gc rfl (gc rfl (gc rfl (gt rfl)))))))))
 refine x_raw (A := [.box be0 [.nil, .nil, .nil, .nil, .nil, .nil, w6588_3, w6588_4, .nil, .nil, .nil, .nil, .nil, .nil, .nil, .nil, .nil], o86_1 w6588_3 t22.2.2.1, o87_1 w6588_4 t22.2.2.2]) (L := .imm w6588_0 ⟨200, 5⟩ (t22.1.map GroupT.enc) :: .imm w6588_1 ⟨203, 4⟩ (t22.2.1.map ConflictT.enc) :: .box b7587 [.d (.str ⟨#[]⟩), .nil, .nil, .nil, .nil, .nil, .nil, .nil, .d (.int .i64 0)] :: .box b7586 (TypedT.av t) :: L) (P := fun y rs As => ∃ w'0 w'2 w'3 w'4 : AV, rs = [w'0] ∧ As = [.imm w'0 ⟨207, 4⟩ (y.1.map DetT.enc), .box be0 [.nil, .nil, .nil, .nil, .nil, .nil, w'2, w'3, w'4, .nil, .nil, .nil, .nil, .nil, .nil, .nil, .nil], o86_1 w'2 y.2.1, o87_1 w'3 y.2.2.1, o90_1 w'4 y.2.2.2]) [.pt be0 0, .d (.lst (t.Dets.map DetT.enc))] h rfl rfl sig111 rfl hHr (mcc (.pt (j := 0) rfl) (mcc (.d _) (mcn))) (cbb (mcc (.nil) (mcc (.nil) (mcc (.nil) (mcc (.nil) (mcc (.nil) (mcc (.nil) (mcc (.own (j := 1) rfl) (mcc (.own (j := 2) rfl) (mcc (.nil) (mcc (.nil) (mcc (.nil) (mcc (.nil) (mcc (.nil) (mcc (.nil) (mcc (.nil) (mcc (.nil) (mcc (.nil) (mcn)))))))))))))))))) (cbo (cbo (cbn)))) (rcc (li_arg 0 rfl (mi_pt)) (rcc (li_box 0 hHr rfl (li_arg 0 rfl (mi_pt)) 6 rfl (mi_own)) (rcc (li_box 0 hHr rfl (li_arg 0 rfl (mi_pt)) 7 rfl (mi_own)) (rcn)))) (fun y hy H n L' hH => (r5_Room_Dets_ok _ _ _ y hy be0 w6588_3 w6588_4 _ _ _ hH).to (fun rs H' n' ⟨w0, w1, w2, w3, e, hp⟩ => ⟨_, ⟨w0, w1, w2, w3, e, rfl⟩, hp⟩)) (fun t26 rs As H' n6589 h hP hH hoff6589 hn6589 => ?_)
 obtain ⟨w6589_0, w6589_2, w6589_3, w6589_4, rfl, rfl⟩ := hP
 clear hHr
 have hof6589_0 := hoff6589.imm (k := 0) rfl
 have hof6589_1 := hoff6589.imm (k := 1) rfl
 have hof6589_2 := hoff6589.box (k := 2) rfl
 have hof6589_3 := hoff6589.box (k := 3) rfl
 have hof6589 := hoff6589.lt
 clear hoff6589
 refine x_op (v := .pt be0 0) (noFt) rfl (o_move) ⟨rfl, rfl⟩ (x_op (v := .pt b7586 4) (noFt) rfl (o_faddr fo95_3 (by decide) rfl) ⟨rfl, rfl⟩ (x_op (v := .d (.lst (t.Timers.map Dat.str))) (.of [b7586] []) rfl (o_load_b szg91 hH (i := 8) rfl rfl rfl) ⟨rfl, rfl⟩ ?_))
 have hHr := ((hH.addNil (z := ⟨91, 1⟩)).selG 10 [2, 3, 4, 5, 0, 1, 6, 7, 8, 9] (by decide) (by decide) (gc rfl (gc rfl (gc rfl (gc rfl (gc rfl (gc rfl (gc rfl (gc rfl (gc rfl (gc rfl (gt rfl))))))))))))
 refine x_raw (A := [.box be0 [.nil, .nil, .nil, .nil, .nil, .nil, w6589_2, w6589_3, w6589_4, .nil, .nil, .nil, .nil, .nil, .nil, .nil, .nil], o86_1 w6589_2 t26.2.1, o87_1 w6589_3 t26.2.2.1, o90_1 w6589_4 t26.2.2.2, .own .nil ⟨91, 1⟩ []]) (L := .imm w6589_0 ⟨207, 4⟩ (t26.1.map DetT.enc) :: .imm w6588_0 ⟨200, 5⟩ (t22.1.map GroupT.enc) :: .imm w6588_1 ⟨203, 4⟩ (t22.2.1.map ConflictT.enc) :: .box b7587 [.d (.str ⟨#[]⟩), .nil, .nil, .nil, .nil, .nil, .nil, .nil, .d (.int .i64 0)] :: .box b7586 (TypedT.av t) :: L) (P := fun y rs As => ∃ w'0 w'2 w'3 w'4 w'5 : AV, rs = [w'0] ∧ As = [.imm w'0 ⟨9, 1⟩ (y.1.map Dat.str), .box be0 [.nil, .nil, .nil, .nil, .nil, .nil, w'2, w'3, w'4, .nil, .nil, w'5, .nil, .nil, .nil, .nil, .nil], o86_1 w'2 y.2.1, o87_1 w'3 y.2.2.1, o90_1 w'4 y.2.2.2.1, o91_1 w'5 y.2.2.2.2]) [.pt be0 0, .d (.lst (t.Timers.map Dat.str))] h rfl rfl sig112 rfl hHr (mcc (.pt (j := 0) rfl) (mcc (.d _) (mcn))) (cbb (mcc (.nil) (mcc (.nil) (mcc (.nil) (mcc (.nil) (mcc (.nil) (mcc (.nil) (mcc (.own (j := 1) rfl) (mcc (.own (j := 2) rfl) (mcc (.own (j := 3) rfl) (mcc (.nil) (mcc (.nil) (mcc (.nil) (mcc (.nil) (mcc (.nil) (mcc (.nil) (mcc (.nil) (mcc (.nil) (mcn)))))))))))))))))) (cbo (cbo (cbo (cbo (cbn)))))) (rcc (li_arg 0 rfl (mi_pt)) (rcc (li_box 0 hHr rfl (li_arg 0 rfl (mi_pt)) 6 rfl (mi_own)) (rcc (li_box 0 hHr rfl (li_arg 0 rfl (mi_pt)) 7 rfl (mi_own)) (rcc (li_box 0 hHr rfl (li_arg 0 rfl (mi_pt)) 8 rfl (mi_own)) (rcc (li_nil) (rcn)))))) (fun y hy H n L' hH => (r5_Room_Texts_ok _ _ _ _ _ y hy be0 w6589_2 w6589_3 w6589_4 .nil _ _ _ hH).to (fun rs H' n' ⟨w0, w1, w2, w3, w4, e, hp⟩ => ⟨_, ⟨w0, w1, w2, w3, w4, e, rfl⟩, hp⟩)) (fun t30 rs As H' n6590 h hP hH hoff6590 hn6590 => ?_)
 obtain ⟨w6590_0, w6590_2, w6590_3, w6590_4, w6590_5, rfl, rfl⟩ := hP
 clear hHr
 have hof6590_0 := hoff6590.imm (k := 0) rfl
 have hof6590_1 := hoff6590.imm (k := 1) rfl
 have hof6590_2 := hoff6590.imm (k := 2) rfl
 have hof6590_3 := hoff6590.box (k := 3) rfl
 have hof6590_4 := hoff6590.box (k := 4) rfl
 have hof6590 := hoff6590.lt
 clear hoff6590
 refine x_op (v := .pt be0 0) (noFt) rfl (o_move) ⟨rfl, rfl⟩ (x_op (v := .pt b7586 5) (noFt) rfl (o_faddr fo95_4 (by decide) rfl) ⟨rfl, rfl⟩ (x_op (v := .d (.lst (t.Counters.map Dat.str))) (.of [b7586] []) rfl (o_load_b szg91 hH (i := 10) rfl rfl rfl) ⟨rfl, rfl⟩ ?_))
 have hHr := (hH.selG 11 [1, 2, 3, 4, 5, 0, 6, 7, 8, 9, 10] (by decide) (by decide) (gc rfl (gc rfl (gc rfl (gc rfl (gc rfl (gc rfl (gc rfl (gc rfl (gc rfl (gc rfl (gc rfl (gt rfl)))))))))))))
 refine x_raw (A := [.box be0 [.nil, .nil, .nil, .nil, .nil, .nil, w6590_2, w6590_3, w6590_4, .nil, .nil, w6590_5, .nil, .nil, .nil, .nil, .nil], o86_1 w6590_2 t30.2.1, o87_1 w6590_3 t30.2.2.1, o90_1 w6590_4 t30.2.2.2.1, o91_1 w6590_5 t30.2.2.2.2]) (L := .imm w6590_0 ⟨9, 1⟩ (t30.1.map Dat.str) :: .imm w6589_0 ⟨207, 4⟩ (t26.1.map DetT.enc) :: .imm w6588_0 ⟨200, 5⟩ (t22.1.map GroupT.enc) :: .imm w6588_1 ⟨203, 4⟩ (t22.2.1.map ConflictT.enc) :: .box b7587 [.d (.str ⟨#[]⟩), .nil, .nil, .nil, .nil, .nil, .nil, .nil, .d (.int .i64 0)] :: .box b7586 (TypedT.av t) :: L) (P := fun y rs As => ∃ w'0 w'2 w'3 w'4 w'5 : AV, rs = [w'0] ∧ As = [.imm w'0 ⟨9, 1⟩ (y.1.map Dat.str), .box be0 [.nil, .nil, .nil, .nil, .nil, .nil, w'2, w'3, w'4, .nil, .nil, w'5, .nil, .nil, .nil, .nil, .nil], o86_1 w'2 y.2.1, o87_1 w'3 y.2.2.1, o90_1 w'4 y.2.2.2.1, o91_1 w'5 y.2.2.2.2]) [.pt be0 0, .d (.lst (t.Counters.map Dat.str))] h rfl rfl sig112 rfl hHr (mcc (.pt (j := 0) rfl) (mcc (.d _) (mcn))) (cbb (mcc (.nil) (mcc (.nil) (mcc (.nil) (mcc (.nil) (mcc (.nil) (mcc (.nil) (mcc (.own (j := 1) rfl) (mcc (.own (j := 2) rfl) (mcc (.own (j := 3) rfl) (mcc (.nil) (mcc (.nil) (mcc (.own (j := 4) rfl) (mcc (.nil) (mcc (.nil) (mcc (.nil) (mcc (.nil) (mcc (.nil) (mcn)))))))))))))))))) (cbo (cbo (cbo (cbo (cbn)))))) (rcc (li_arg 0 rfl (mi_pt)) (rcc (li_box 0 hHr rfl (li_arg 0 rfl (mi_pt)) 6 rfl (mi_own)) (rcc (li_box 0 hHr rfl (li_arg 0 rfl (mi_pt)) 7 rfl (mi_own)) (rcc (li_box 0 hHr rfl (li_arg 0 rfl (mi_pt)) 8 rfl (mi_own)) (rcc (li_box 0 hHr rfl (li_arg 0 rfl (mi_pt)) 11 rfl (mi_own)) (rcn)))))) (fun y hy H n L' hH => (r5_Room_Texts_ok _ _ _ _ _ y hy be0 w6590_2 w6590_3 w6590_4 w6590_5 _ _ _ hH).to (fun rs H' n' ⟨w0, w1, w2, w3, w4, e, hp⟩ => ⟨_, ⟨w0, w1, w2, w3, w4, e, rfl⟩, hp⟩)) (fun t34 rs As H' n6591 h hP hH hoff6591 hn6591 => ?_)
 obtain ⟨w6591_0, w6591_2, w6591_3, w6591_4, w6591_5, rfl, rfl⟩ := hP
 clear hHr
 have hof6591_0 := hoff6591.imm (k := 0) rfl
 have hof6591_1 := hoff6591.imm (k := 1) rfl
 have hof6591_2 := hoff6591.imm (k := 2) rfl
 have hof6591_3 := hoff6591.imm (k := 3) rfl
 have hof6591_4 := hoff6591.box (k := 4) rfl
 have hof6591_5 := hoff6591.box (k := 5) rfl
 have hof6591 := hoff6591.lt
 clear hoff6591
 refine x_op (v := .agg [.d (.str t.Name), w6588_0, w6588_1, w6589_0, w6590_0, w6591_0, .nil, .nil, .d (.int .i64 t.Start)]) (noFt) rfl (o_buildS zero95 places95 (by show fillA okCells _ _ [(0, .d (.str t.Name)), (7, .d (.int .i64 t.Start)), (1, .agg [w6588_0, w6588_1]), (2, w6589_0), (3, w6590_0), (4, w6591_0)] = _; simp only [fillA, okCells_own (hH.okImm (j := 7) rfl), okCells_own (hH.okImm (j := 6) rfl), okCells_own (hH.okImm (j := 0) rfl), okCells_agg (cs := [w6588_0, w6588_1]) (by simp only [List.all_cons, List.all_nil, (hH.okImm (j := 8) rfl).1, (hH.okImm (j := 9) rfl).1]; rfl)]; rfl)) ⟨rfl, rfl⟩ ?_
 refine x_alloc rfl zero95 hH (fun b7592 H' n6592 hH hoff6592 hn6592 => ?_)
 have hof6592_0 := hoff6592.imm (k := 0) rfl
 have hof6592_1 := hoff6592.box (k := 1) rfl
 have hof6592_2 := hoff6592.own (k := 2) rfl
 have hof6592_3 := hoff6592.own (k := 3) rfl
 have hof6592_4 := hoff6592.own (k := 4) rfl
 have hof6592_5 := hoff6592.own (k := 5) rfl
 have hof6592_6 := hoff6592.imm (k := 6) rfl
 have hof6592_7 := hoff6592.imm (k := 7) rfl
 have hof6592_8 := hoff6592.imm (k := 8) rfl
 have hof6592_9 := hoff6592.imm (k := 9) rfl
 have hof6592_10 := hoff6592.box (k := 10) rfl
 have hof6592_11 := hoff6592.box (k := 11) rfl
 have hof6592 := hoff6592.2
 clear hoff6592
 refine x_store (new := [.d (.str t.Name), w6588_0, w6588_1, w6589_0, w6590_0, w6591_0, .nil, .nil, .d (.int .i64 t.Start)]) [.d (.str t.Name), w6588_0, w6588_1, w6589_0, w6590_0, w6591_0, .nil, .nil, .d (.int .i64 t.Start)] rfl szg95 hH (i := 0) rfl rfl rfl rfl (by simp only [List.all_cons, List.all_nil, (hH.okImm (j := 9) rfl).1, (hH.okImm (j := 10) rfl).1, (hH.okImm (j := 8) rfl).1, (hH.okImm (j := 7) rfl).1, (hH.okImm (j := 1) rfl).1]; rfl) (Nat.le_of_ble_eq_true rfl) rfl (fun H' hH => ?_)
 refine x_nil (n := 23) rfl (pkc 21 19 rfl rfl rfl rfl nc_rr (pkc 21 16 rfl rfl rfl rfl nc_rr (pkc 19 16 rfl rfl rfl rfl nc_rr (pkc 21 15 rfl rfl rfl rfl (nc_arb hof6588_1) (pkc 19 15 rfl rfl rfl rfl (nc_arb hof6588_1) (pkc 21 12 rfl rfl rfl rfl nc_rr (pkc 19 12 rfl rfl rfl rfl nc_rr (pkc 16 12 rfl rfl rfl rfl nc_rr (pkc 15 12 rfl rfl rfl rfl (nc_rab hof6588_1) (pkc 21 11 rfl rfl rfl rfl (nc_arb hof6589_3) (pkc 19 11 rfl rfl rfl rfl (nc_arb hof6589_3) (pkc 21 8 rfl rfl rfl rfl nc_rr (pkc 19 8 rfl rfl rfl rfl nc_rr (pkc 16 8 rfl rfl rfl rfl nc_rr (pkc 15 8 rfl rfl rfl rfl (nc_rab hof6588_1) (pkc 12 8 rfl rfl rfl rfl nc_rr (pkc 11 8 rfl rfl rfl rfl (nc_rab hof6589_3) (pkc 21 7 rfl rfl rfl rfl (nc_arb hof6590_4) (pkc 19 7 rfl rfl rfl rfl (nc_arb hof6590_4) (pkc 21 4 rfl rfl rfl rfl nc_rr (pkc 19 4 rfl rfl rfl rfl nc_rr (pkc 16 4 rfl rfl rfl rfl nc_rr (pkc 15 4 rfl rfl rfl rfl (nc_rab hof6588_1) (pkc 12 4 rfl rfl rfl rfl nc_rr (pkc 11 4 rfl rfl rfl rfl (nc_rab hof6589_3) (pkc 8 4 rfl rfl rfl rfl nc_rr (pkc 7 4 rfl rfl rfl rfl (nc_rab hof6590_4) (pkc 21 3 rfl rfl rfl rfl (nc_arb hof6591_5) (pkc 19 3 rfl rfl rfl rfl (nc_arb hof6591_5) (pkc 21 1 rfl rfl rfl rfl (nc_of (by grind [idOf]) (by grind [idOf]) (by grind [idOf])) (pkc 19 1 rfl rfl rfl rfl (nc_of (by grind [idOf]) (by grind [idOf]) (by grind [idOf])) (pkc 16 1 rfl rfl rfl rfl (nc_of (by grind [idOf]) (by grind [idOf]) (by grind [idOf])) (pkc 15 1 rfl rfl rfl rfl (nc_ra (by simp only [List.flatMap_cons, List.flatMap_nil, List.append_nil, Item.ids] at *; grind [idOf]) (by simp only [List.flatMap_cons, List.flatMap_nil, List.append_nil, Item.ids] at *; grind [idOf]) (by simp only [List.flatMap_cons, List.flatMap_nil, List.append_nil, Item.ids] at *; grind [idOf])) (pkc 12 1 rfl rfl rfl rfl (nc_of (by grind [idOf]) (by grind [idOf]) (by grind [idOf])) (pkc 11 1 rfl rfl rfl rfl (nc_ra (by simp only [List.flatMap_cons, List.flatMap_nil, List.append_nil, Item.ids] at *; grind [idOf]) (by simp only [List.flatMap_cons, List.flatMap_nil, List.append_nil, Item.ids] at *; grind [idOf]) (by simp only [List.flatMap_cons, List.flatMap_nil, List.append_nil, Item.ids] at *; grind [idOf])) (pkc 8 1 rfl rfl rfl rfl (nc_of (by grind [idOf]) (by grind [idOf]) (by grind [idOf])) (pkc 7 1 rfl rfl rfl rfl (nc_ra (by simp only [List.flatMap_cons, List.flatMap_nil, List.append_nil, Item.ids] at *; grind [idOf]) (by simp only [List.flatMap_cons, List.flatMap_nil, List.append_nil, Item.ids] at *; grind [idOf]) (by simp only [List.flatMap_cons, List.flatMap_nil, List.append_nil, Item.ids] at *; grind [idOf])) (pkc 4 1 rfl rfl rfl rfl (nc_of (by grind [idOf]) (by grind [idOf]) (by grind [idOf])) (pkc 3 1 rfl rfl rfl rfl (nc_ra (by simp only [List.flatMap_cons, List.flatMap_nil, List.append_nil, Item.ids] at *; grind [idOf]) (by simp only [List.flatMap_cons, List.flatMap_nil, List.append_nil, Item.ids] at *; grind [idOf]) (by simp only [List.flatMap_cons, List.flatMap_nil, List.append_nil, Item.ids] at *; grind [idOf])) (pkn)))))))))))))))))))))))))))))))))))))))) (Ns (Ps (Pr rfl (w_build (cs := [.d (.str ⟨#[]⟩), .d (.int .i32 4444)]) rfl zero193 places193 rfl ?_))))
 refine alloc_z rfl zero193 hH (fun b7594 H' n' hH => ?_)
 refine w_store_b (new := [.d (.str ⟨#[]⟩), .d (.int .i32 4444)]) rfl szg193 hH (i := 0) rfl rfl rfl rfl rfl (Nat.le_of_ble_eq_true rfl) (fun H' hH => ?_)
 refine Wn (Ns (Ps (p_fts (pz := [(1, 3), (2, 3), (1, 4), (2, 4), (3, 4), (1, 5), (2, 5)]) rfl rfl (by kernel_rfl) (by kernel_rfl) (x_op (v := .pt b7586 6) (noFt) rfl (o_faddr fo95_5 (by decide) rfl) ⟨rfl, rfl⟩ (x_op (v := .d (.lst (t.Vars.map VarT.enc))) (.of [b7586] []) rfl (o_load_b szg92 hH (i := 13) rfl rfl rfl) ⟨rfl, rfl⟩ ?_)))))
 have hH := hH.addNil (z := ⟨193, 2⟩)
 refine x_append (enc := VarT.enc) (.d (.lst (t.Vars.map VarT.enc))) h rfl elem92 szg193 bytes193 (by decide) (fun _ => rfl) hH (j := 0) rfl rfl rfl shows_d (fun t39 w7595 i6595 H' n6595 h hH hoff6595 hn6595 hi6595 => ?_)
 have hof6595_0 := hoff6595.box (k := 0) rfl
 have hof6595_1 := hoff6595.box (k := 1) rfl
 have hof6595_2 := hoff6595.imm (k := 2) rfl
 have hof6595_3 := hoff6595.box (k := 3) rfl
 have hof6595_4 := hoff6595.own (k := 4) rfl
 have hof6595_5 := hoff6595.own (k := 5) rfl
 have hof6595_6 := hoff6595.own (k := 6) rfl
 have hof6595_7 := hoff6595.own (k := 7) rfl
 have hof6595_8 := hoff6595.imm (k := 8) rfl
 have hof6595_9 := hoff6595.imm (k := 9) rfl
 have hof6595_10 := hoff6595.imm (k := 10) rfl
 have hof6595_11 := hoff6595.imm (k := 11) rfl
 have hof6595_12 := hoff6595.box (k := 12) rfl
 have hof6595_13 := hoff6595.box (k := 13) rfl
 have hof6595 := hoff6595.2
 clear hoff6595
 refine x_op (v := .agg [.d (.str ⟨#[]⟩), .d (.int .i32 4444)]) (.of [b7594] []) rfl (o_load_b szg193 hH (i := 1) rfl rfl rfl) ⟨rfl, rfl⟩ (x_op (v := .agg [.d (.str ⟨#[]⟩), .d (.int .i32 4444)]) (.of [b7594] []) rfl (o_load_b szg193 hH (i := 1) rfl rfl rfl) ⟨rfl, rfl⟩ ?_)
 refine x_bslice (enc := VarT.enc) (xs := [(⟨⟨#[]⟩, 4444⟩ : VarT), (⟨⟨#[]⟩, 4444⟩ : VarT)]) [.agg [.d (.str ⟨#[]⟩), .d (.int .i32 4444)], .agg [.d (.str ⟨#[]⟩), .d (.int .i32 4444)]] rfl elem92 szg193 zero193 ⟨by decide, Nat.le_of_ble_eq_true rfl⟩ zd193 (fun _ => rfl) (fun _ => rfl) rfl rfl rfl hH (fun w7596 i6596 H' n6596 hH hoff6596 hn6596 hi6596 => ?_)
 have hof6596_0 := hoff6596.own (k := 0) rfl
 have hof6596_1 := hoff6596.box (k := 1) rfl
 have hof6596_2 := hoff6596.box (k := 2) rfl
 have hof6596_3 := hoff6596.imm (k := 3) rfl
 have hof6596_4 := hoff6596.box (k := 4) rfl
 have hof6596_5 := hoff6596.own (k := 5) rfl
 have hof6596_6 := hoff6596.own (k := 6) rfl
 have hof6596_7 := hoff6596.own (k := 7) rfl
 have hof6596_8 := hoff6596.own (k := 8) rfl
 have hof6596_9 := hoff6596.imm (k := 9) rfl
 have hof6596_10 := hoff6596.imm (k := 10) rfl
 have hof6596_11 := hoff6596.imm (k := 11) rfl
 have hof6596_12 := hoff6596.imm (k := 12) rfl
 have hof6596_13 := hoff6596.box (k := 13) rfl
 have hof6596_14 := hoff6596.box (k := 14) rfl
 have hof6596 := hoff6596.2
 clear hoff6596
 refine x_append (enc := VarT.enc) (w7596) h rfl elem92 szg193 bytes193 (by decide) (fun _ => rfl) hH (j := 1) rfl rfl rfl (shows_own hH (j := 0) rfl) (fun t43 w7597 i6597 H' n6597 h hH hoff6597 hn6597 hi6597 => ?_)
 have hof6597_0 := hoff6597.own (k := 0) rfl
 have hof6597_1 := hoff6597.box (k := 1) rfl
 have hof6597_2 := hoff6597.box (k := 2) rfl
 have hof6597_3 := hoff6597.imm (k := 3) rfl
 have hof6597_4 := hoff6597.box (k := 4) rfl
 have hof6597_5 := hoff6597.own (k := 5) rfl
 have hof6597_6 := hoff6597.own (k := 6) rfl
 have hof6597_7 := hoff6597.own (k := 7) rfl
 have hof6597_8 := hoff6597.own (k := 8) rfl
 have hof6597_9 := hoff6597.imm (k := 9) rfl
 have hof6597_10 := hoff6597.imm (k := 10) rfl
 have hof6597_11 := hoff6597.imm (k := 11) rfl
 have hof6597_12 := hoff6597.imm (k := 12) rfl
 have hof6597_13 := hoff6597.box (k := 13) rfl
 have hof6597_14 := hoff6597.box (k := 14) rfl
 have hof6597 := hoff6597.2
 clear hoff6597
 refine x_op (v := w7597) (noFt) rfl (o_assign) ⟨rfl, rfl⟩ (x_nil (n := 8) rfl (pkc 6 4 rfl rfl rfl rfl nc_rr (pkc 5 4 rfl rfl rfl rfl (nc_of (by grind [idOf]) (by grind [idOf]) (by grind [idOf])) (pkc 6 3 rfl rfl rfl rfl nc_rr (pkc 5 3 rfl rfl rfl rfl (nc_of (by grind [idOf]) (by grind [idOf]) (by grind [idOf])) (pkc 4 3 rfl rfl rfl rfl nc_rr (pkc 6 2 rfl rfl rfl rfl (nc_of (by grind [idOf]) (by grind [idOf]) (by grind [idOf])) (pkc 5 2 rfl rfl rfl rfl (nc_of (by grind [idOf]) (by grind [idOf]) (by grind [idOf])) (pkn)))))))) (Ns (Ps (Pr rfl (w_move_v (.pt be0 0) rfl rfl (w_move_v (.pt be0 0) rfl rfl (Wq rfl (Fb fo49_9 (by decide) rfl 9 rfl (w_load_b (v := .nil) rfl szg40 hH (i := 5) rfl rfl rfl ?_)))))))))
 refine w_move_v (w7597) rfl rfl ?_
 refine w_bslice1 (enc := (eL VarT.enc)) (e := t43) (w7597) rfl elem40 szg92 zero92 (by decide) zd92 (fun _ => rfl) (fun _ => rfl) rfl (FS.own hH (j := 0) rfl (fun _ hH => FS.nil hH)) (fun w7598 H' n' hH => ?_)
 have hH := hH.addNil (z := ⟨92, 1⟩)
 refine w_append (enc := (eL VarT.enc)) h rfl elem40 szg92 bytes92 (by decide) (fun _ => rfl) hH (j := 0) rfl rfl (shows_own hH (j := 1) rfl) (fun t51 w7599 H' n' h hH => ?_)
 refine Wq rfl (Fb fo49_9 (by decide) rfl 9 rfl ?_)
 refine w_store_b1 w7599 rfl szg40 hH (i := 7) rfl rfl rfl (hH.okOwn (j := 0) rfl).2 (hH.okOwn (j := 0) rfl).1 (Nat.le_of_ble_eq_true rfl) (fun H' hH => ?_)
 refine Wn (Ns (Ps (Pr rfl (w_move_v (w7597) rfl rfl (Fb fo95_5 (by decide) rfl 6 rfl (Lb szg92 hH (i := 17) rfl rfl rfl (w_len_d elem92 rfl ?_)))))))
 refine w_cut_imm h rfl elem92 szg193 hH (j := 2) rfl rfl (lh_nh) (fun t58 w7600 h hH => ?_)
 refine Fb fo95_5 (by decide) rfl 6 rfl ?_
 refine w_store_b1 w7600 rfl szg92 hH (i := 6) rfl rfl rfl (hH.okImm (j := 0) rfl).2 (hH.okImm (j := 0) rfl).1 (Nat.le_of_ble_eq_true rfl) (fun H' hH => ?_)
 refine Wn (Ns (Ps (Pr rfl (w_assign_v (.nil) rfl rfl (Wn (Ns (Ps (Ps (Pr rfl ?_)))))))))
 refine Wa rfl (Wn (Ns (Pb ?_)))
 exact jm 0 (jm 3 (jm 4 (jm 5 (jm 8 (jm 9 (r5_Room_Typed_L1_ok _ _ _ _ _ _ _ _ _ _ _ _ _ _ _ _ _ _ _ _ _ _ _ h .nil .nil .nil .nil w6591_2 w6591_3 w6591_4 w7599 w6591_5 b7586 b7587 b7592 w6588_0 w6588_1 w6589_0 w6590_0 w6591_0 w7600 .nil _ _ _ _ _ ((((((hH.addNil (z := ⟨22, 1⟩)).addNil (z := ⟨58, 1⟩)).addNil (z := ⟨194, 1⟩)).addNil (z := ⟨93, 1⟩)).addNil (z := ⟨196, 7⟩)).selG 24 [13, 4, 3, 2, 1, 14, 15, 16, 6, 17, 23, 22, 11, 20, 21, 19, 18, 12, 5, 0] (by decide) (by decide) (gc rfl (gc rfl (gc rfl (gc rfl (gc rfl (gc rfl (gc rfl (gc rfl (gc rfl (gc rfl (gc rfl (gc rfl (gc rfl (gc rfl (gc rfl (gc rfl (gc rfl (gc rfl (gc rfl (gc rfl (gt rfl))))))))))))))))))))))))))))
theorem c_in_ok (n_ : Int) (lo : Int) (hi : Int) (r : Bool) (h : c_in n_ lo hi = some r) : callD C 113 [(.int .i64 n_), (.int .i64 lo), (.int .i64 hi)] = some [(.bool r)] := by
 refine callD_at (ext0 _ _ rfl) fn113 rfl (jmp 0 (.d (.int .i64 n_)) rfl (jmp 1 (.d (.int .i64 lo)) rfl (jmp 2 (.d (.int .i64 hi)) rfl (Ps (Pr rfl (Wa rfl (Wn (Ns (Ps ?_)))))))))
 refine Pr rfl (Wm rfl (Wm rfl ?_))
 refine Wc h rfl ?_ ?_ <;> intro _ h
 refine Wm rfl (Wm rfl (Wm rfl (Wb rfl (Wt rfl rfl (Wa rfl (Wn (Ns ?_)))))))
 cases h; exact Pq rfl rfl
 refine Wm rfl (Wk (Wk (Wk (Wf rfl rfl (Wa rfl (Wn (Ns ?_)))))))
 cases h; exact Pq rfl rfl
def c_Grid_L2_m (tF : TablesT) (t44F : List ConflictT) (t45F : Int) : c_Grid_L2_S → Bool → Prop := fun st r => match st with
  | .c0 a b t46 => ∀ (b0 g H n) (hH : HP H n [.box b0 (TablesT.av tF)]), PAt C (bodyOf Tryd.f47) (.a (.b (.a (.b (.b (.b (.b .o))))))) ⟨upd (upd (upd (upd (upd (upd g 1 (.pt b0 0)) 5 (.d (.int .i64 a))) 6 (.d (.int .i64 b))) 44 (.d (.lst (t44F.map ConflictT.enc)))) 45 (.d (.int .i64 t45F))) 46 (.d (.int .i64 t46)), H, n⟩ (PostD C Tryd.f47 [(.bool r)])
  | .c1 c t46 => ∀ (b0 b1 g H n) (hH : HP H n [.box b0 (TablesT.av tF), .box b1 (ConflictT.av c)]), PAt C (bodyOf Tryd.f47) (.b (.b (.b (.a (.a (.b (.b (.a (.a (.b (.a (.b (.b (.b (.b .o))))))))))))))) ⟨upd (upd (upd (upd (upd g 1 (.pt b0 0)) 8 (.pt b1 0)) 44 (.d (.lst (t44F.map ConflictT.enc)))) 45 (.d (.int .i64 t45F))) 46 (.d (.int .i64 t46)), H, n⟩ (PostD C Tryd.f47 [(.bool r)])
theorem c_Grid_L2_run_ok (tF : TablesT) (t44F : List ConflictT) (t45F : Int) (st : c_Grid_L2_S) (r : Bool) (h : c_Grid_L2_run tF t44F t45F st = some r) : c_Grid_L2_m tF t44F t45F st r := by
 refine c_Grid_L2_run.partial_correctness tF t44F t45F (c_Grid_L2_m tF t44F t45F) (fun c_Grid_L2_run' ih_ st r h => ?_) st r h
 cases st with
 | c0 a b t46 =>
  intro b0 g H n hH
  refine Po (Ps (Pr rfl ?_))
  refine Wc h rfl ?_ ?_ <;> intro _ h
  refine Wn (Ns (Ps (Ct (Pk (Nc (Ns (Ps (Pb (Ps ?_)))))))))
  refine Pr rfl ?_
  refine w_idx h rfl elem87 szg203 (fun _ => rfl) rfl rfl (fun t48 h => ?_)
  refine w_load_d (d := (ConflictT.enc t48)) szg203 rfl rfl ?_
  refine alloc_z rfl zero203 hH (fun b7630 H' n' hH => ?_)
  refine w_store_b (new := (ConflictT.av t48)) rfl szg203 hH (i := 0) rfl rfl rfl rfl rfl (Nat.le_of_ble_eq_true rfl) (fun H' hH => ?_)
  refine Wn (Ns (Ps (Ps (Pr rfl (Fb fo203_0 (by decide) rfl 0 rfl (Lb szg3 hH (i := 0) rfl rfl rfl ?_))))))
  refine Wc h rfl ?_ ?_ <;> intro _ h
  refine Wm rfl (Wk (Wk (Wk (Wk (Wk (Wt rfl rfl (Wm rfl (Wk (Wk ?_)))))))))
  refine Wk (Wk (Wk (Wk (Wt rfl rfl (Wm rfl (Wk (Wk (Wk (Wk ?_)))))))))
  refine Wt rfl rfl (Wm rfl (Wk (Wk (Wk (Wk (Wt rfl rfl (Wn (Ns (Ct ?_)))))))))
  refine Ps (Pr rfl (Wa rfl (Wn (Ns ?_))))
  cases h; exact Pq rfl rfl
  refine Wm rfl (Fb fo203_1 (by decide) rfl 1 rfl (Lb szg3 hH (i := 0) rfl rfl rfl (Fb fo203_0 (by decide) rfl 0 rfl (Lb szg3 hH (i := 0) rfl rfl rfl ?_))))
  refine Wc h rfl ?_ ?_ <;> intro _ h
  refine Wf rfl rfl (Wm rfl (Wk (Wk (Wk (Wk (Wk (Wk (Wt rfl rfl (Wm rfl ?_)))))))))
  refine Wk (Wk (Wk (Wk (Wt rfl rfl (Wm rfl (Wk (Wk (Wk (Wk ?_)))))))))
  refine Wt rfl rfl (Wn (Ns (Ct (Ps (Pr rfl (Wa rfl (Wn (Ns ?_))))))))
  cases h; exact Pq rfl rfl
  refine Wf rfl rfl (Wm rfl (Fb fo203_1 (by decide) rfl 1 rfl (Lb szg3 hH (i := 0) rfl rfl rfl (Fb fo89_0 (by decide) rfl 0 rfl (Lb szg86 hH (i := 1) rfl rfl rfl (w_len_d elem86 rfl ?_))))))
  refine Wc h rfl ?_ ?_ <;> intro _ h
  refine Wf rfl rfl (Wm rfl (Wk (Wk (Wk (Wk (Wt rfl rfl (Wm rfl (Wk (Wk ?_)))))))))
  refine Wk (Wk (Wt rfl rfl (Wn (Ns (Ct (Ps (Pr rfl (Wa rfl (Wn ?_)))))))))
  refine Ns ?_
  cases h; exact Pq rfl rfl
  refine Wf rfl rfl (Wm rfl (Fb fo203_2 (by decide) rfl 2 rfl (Lb szg3 hH (i := 0) rfl rfl rfl ?_)))
  refine w_scal (E := eB) h rfl sig113 (sc rfl (sc rfl (sc rfl (sn)))) (fun y hy => c_in_ok _ _ _ y hy) (fun _ => rfl) (fun t71 h => ?_)
  revert h; cases t71 <;> intro h
  replace h := if0 h
  refine w_un rfl rfl (Wf rfl rfl (Wm rfl (Wk (Wk (Wk (Wk (Wt rfl rfl (Wn (Ns ?_)))))))))
  refine Ct (Ps (Pr rfl (Wa rfl (Wn (Ns ?_)))))
  cases h; exact Pq rfl rfl
  replace h := if1 h
  refine w_un rfl rfl (Wf rfl rfl (Wm rfl (Fb fo203_3 (by decide) rfl 3 rfl (Lb szg3 hH (i := 0) rfl rfl rfl ?_))))
  refine w_scal (E := eB) h rfl sig113 (sc rfl (sc rfl (sc rfl (sn)))) (fun y hy => c_in_ok _ _ _ y hy) (fun _ => rfl) (fun t77 h => ?_)
  revert h; cases t77 <;> intro h
  replace h := if0 h
  refine w_un rfl rfl (Wf rfl rfl (Wn (Ns (Ct (Ps (Pr rfl (Wa rfl (Wn (Ns ?_)))))))))
  cases h; exact Pq rfl rfl
  replace h := if1 h
  refine w_un rfl rfl (Wf rfl rfl (Wn (Ns (Cf (Pk (Nb (Nb (Ns (Ps ?_)))))))))
  refine Ps (Pr rfl (Fb fo203_0 (by decide) rfl 0 rfl (Lb szg3 hH (i := 0) rfl rfl rfl (Wm rfl ?_))))
  refine Wc h rfl ?_ ?_ <;> intro _ h
  refine Wm rfl (Wk (Wk (Wk (Wk (Wk (Wk (Wk (Wk (Wk ?_)))))))))
  refine Wk (Wt rfl rfl (Wn (Ns (Ct (Ps (Pr rfl (Wa rfl (Wn (Ns ?_)))))))))
  cases h; exact Pq rfl rfl
  refine Wm rfl (Fb fo203_0 (by decide) rfl 0 rfl (Lb szg3 hH (i := 0) rfl rfl rfl (Wm rfl ?_)))
  refine Wc h rfl ?_ ?_ <;> intro _ h
  refine Wm rfl (Fb fo203_1 (by decide) rfl 1 rfl (Lb szg3 hH (i := 0) rfl rfl rfl (Wm rfl ?_)))
  refine Wc h rfl ?_ ?_ <;> intro _ h
  refine Wt rfl rfl (Wf rfl rfl (Wn (Ns (Ct (Ps (Pr rfl (Wa rfl (Wn (Ns ?_)))))))))
  cases h; exact Pq rfl rfl
  refine Wt rfl rfl (Wf rfl rfl (Wn (Ns (Cf (Pk (Nb (Nb (Ns ?_))))))))
  exact jm 1 (jm 8 (jm 44 (jm 45 (jm 46 (ih_ (.c1 _ _) _ h b0 b7630 _ _ _ (hH.selG 2 [1, 0] (by decide) (by decide) (gc rfl (gc rfl (gt rfl)))))))))
  refine Wm rfl (Wk (Wk (Wk (Wk (Wf rfl rfl (Wf rfl rfl (Wn (Ns (Cf ?_)))))))))
  refine Pk (Nb (Nb (Ns ?_)))
  exact jm 1 (jm 8 (jm 44 (jm 45 (jm 46 (ih_ (.c1 _ _) _ h b0 b7630 _ _ _ (hH.selG 2 [1, 0] (by decide) (by decide) (gc rfl (gc rfl (gt rfl)))))))))
  refine Wn (Ns (Ps (Cf (Px rfl (Nb (Xs (Nb (Xl (Xb ?_)))))))))
  refine Nb (Ns (Ps (Pr rfl (Wa rfl (Wn (Ns ?_))))))
  cases h; exact Pq rfl rfl
 | c1 c t46 =>
  intro b0 b1 g H n hH
  refine p_calm rfl (by kernel_rfl) (Fb fo203_0 (by decide) rfl 0 rfl (Lb szg3 hH (i := 1) rfl rfl rfl (Fb fo203_1 (by decide) rfl 1 rfl (Lb szg3 hH (i := 1) rfl rfl rfl (Wa rfl (Wa rfl (Wn (Nb (Nb ?_)))))))))
  refine Nb (Nk (Ns (Pr rfl (Wb rfl (Wm rfl (Wn (Nb (Nb (Nb ?_)))))))))
  refine Nl ?_
  exact jm 1 (jm 5 (jm 6 (jm 44 (jm 45 (jm 46 (ih_ (.c0 _ _ _) _ h b0 _ _ _ (hH.selG 2 [0] (by decide) (by decide) (gc rfl (gt rfl)))))))))
theorem c_Grid_L2_ok (tF : TablesT) (a : Int) (b : Int) (t44F : List ConflictT) (t45F : Int) (t46 : Int) (r : Bool) (h : c_Grid_L2 tF a b t44F t45F t46 = some r) : c_Grid_L2_m tF t44F t45F (.c0 a b t46) r := c_Grid_L2_run_ok tF t44F t45F (.c0 a b t46) r h
def c_Grid_L1_M (t : TablesT) (t14 : List GroupT) (t15 : Int) (t16 : Int) (r : Bool) : Prop := ∀ (b0 g H n) (hH : HP H n [.box b0 (TablesT.av t)]), PAt C (bodyOf Tryd.f47) (.a (.b (.a (.b (.b .o))))) ⟨upd (upd (upd (upd g 1 (.pt b0 0)) 14 (.d (.lst (t14.map GroupT.enc)))) 15 (.d (.int .i64 t15))) 16 (.d (.int .i64 t16)), H, n⟩ (PostD C Tryd.f47 [(.bool r)])
theorem c_Grid_L1_ok (t : TablesT) (t14 : List GroupT) (t15 : Int) (t16 : Int) (r : Bool) (h : c_Grid_L1 t t14 t15 t16 = some r) : c_Grid_L1_M t t14 t15 t16 r := by
 refine c_Grid_L1.partial_correctness t t14 t15 (fun t16 r => c_Grid_L1_M t t14 t15 t16 r) (fun c_Grid_L1 ih_c_Grid_L1 t16 r h b0 g H n hH => ?_) t16 r h
 refine Po (Ps (Pr rfl ?_))
 refine Wc h rfl ?_ ?_ <;> intro _ h
 refine Wn (Ns (Ps (Ct (Pk (Nc (Ns (Ps (Pb (Ps ?_)))))))))
 refine Pr rfl ?_
 refine w_idx h rfl elem86 szg200 (fun _ => rfl) rfl rfl (fun t18 h => ?_)
 refine w_load_d (d := (GroupT.enc t18)) szg200 rfl rfl ?_
 refine alloc_z rfl zero200 hH (fun b7629 H' n' hH => ?_)
 refine w_store_b (new := (GroupT.av t18)) rfl szg200 hH (i := 0) rfl rfl rfl rfl rfl (Nat.le_of_ble_eq_true rfl) (fun H' hH => ?_)
 refine Wn (Ns (Ps (Pr rfl (Fb fo200_1 (by decide) rfl 1 rfl (Lb szg3 hH (i := 0) rfl rfl rfl ?_)))))
 refine w_scal (E := eB) h rfl sig113 (sc rfl (sc rfl (sc rfl (sn)))) (fun y hy => c_in_ok _ _ _ y hy) (fun _ => rfl) (fun t22 h => ?_)
 revert h; cases t22 <;> intro h
 replace h := if0 h
 refine w_un rfl rfl (Wm rfl (Wk (Wk (Wk (Wk (Wt rfl rfl (Wm rfl (Wk (Wk ?_)))))))))
 refine Wk (Wk (Wt rfl rfl (Wm rfl (Wk (Wk (Wk (Wk (Wt rfl rfl (Wn ?_)))))))))
 refine Ns (Ct (Ps (Pr rfl (Wa rfl (Wn (Ns ?_))))))
 cases h; exact Pq rfl rfl
 replace h := if1 h
 refine w_un rfl rfl (Wm rfl (Fb fo200_2 (by decide) rfl 2 rfl (Lb szg3 hH (i := 0) rfl rfl rfl ?_)))
 refine w_scal (E := eB) h rfl sig113 (sc rfl (sc rfl (sc rfl (sn)))) (fun y hy => c_in_ok _ _ _ y hy) (fun _ => rfl) (fun t27 h => ?_)
 revert h; cases t27 <;> intro h
 replace h := if0 h
 refine w_un rfl rfl (Wf rfl rfl (Wm rfl (Wk (Wk (Wk (Wk (Wt rfl rfl (Wm rfl (Wk ?_)))))))))
 refine Wk (Wk (Wk (Wt rfl rfl (Wn (Ns (Ct (Ps (Pr rfl (Wa rfl ?_)))))))))
 refine Wn (Ns ?_)
 cases h; exact Pq rfl rfl
 replace h := if1 h
 refine w_un rfl rfl (Wf rfl rfl (Wm rfl (Fb fo200_3 (by decide) rfl 3 rfl (Lb szg3 hH (i := 0) rfl rfl rfl ?_))))
 refine w_scal (E := eB) h rfl sig113 (sc rfl (sc rfl (sc rfl (sn)))) (fun y hy => c_in_ok _ _ _ y hy) (fun _ => rfl) (fun t33 h => ?_)
 revert h; cases t33 <;> intro h
 replace h := if0 h
 refine w_un rfl rfl (Wf rfl rfl (Wm rfl (Wk (Wk (Wk (Wk (Wt rfl rfl (Wn (Ns ?_)))))))))
 refine Ct (Ps (Pr rfl (Wa rfl (Wn (Ns ?_)))))
 cases h; exact Pq rfl rfl
 replace h := if1 h
 refine w_un rfl rfl (Wf rfl rfl (Wm rfl (Fb fo200_4 (by decide) rfl 4 rfl (Lb szg3 hH (i := 0) rfl rfl rfl ?_))))
 refine w_scal (E := eB) h rfl sig113 (sc rfl (sc rfl (sc rfl (sn)))) (fun y hy => c_in_ok _ _ _ y hy) (fun _ => rfl) (fun t39 h => ?_)
 revert h; cases t39 <;> intro h
 replace h := if0 h
 refine w_un rfl rfl (Wf rfl rfl (Wn (Ns (Ct (Ps (Pr rfl (Wa rfl (Wn (Ns ?_)))))))))
 cases h; exact Pq rfl rfl
 replace h := if1 h
 refine w_un rfl rfl (Wf rfl rfl (Wn (Ns (Cf (Pk (Nb (Nb (Nb (Nk ?_)))))))))
 refine Ns (Pr rfl (Wb rfl (Wm rfl (Wn (Nb (Nb (Nb (Nl ?_))))))))
 exact jm 1 (jm 14 (jm 15 (jm 16 (ih_c_Grid_L1 _ _ h b0 _ _ _ (hH.selG 2 [1] (by decide) (by decide) (gc rfl (gt rfl)))))))
 refine Wn (Ns (Ps (Cf (Px rfl (Nb (Xs (Nb (Xl (Xb ?_)))))))))
 refine Nb (Ns (Ps (Pr rfl (Wa rfl (Wa rfl (Wn (Ns (Ps (Ps ?_)))))))))
 refine Pr rfl (Fb fo89_1 (by decide) rfl 1 rfl (Lb szg87 hH (i := 0) rfl rfl rfl (w_len_d elem87 rfl (Wm rfl (Wn (Ns (Pb ?_)))))))
 exact jm 1 (jm 5 (jm 6 (jm 44 (jm 45 (jm 46 (c_Grid_L2_ok _ _ _ _ _ _ _ h b0 _ _ _ hH))))))
theorem c_Grid_ok (t : TablesT) (r : Bool) (h : c_Grid t = some r) : callD C 47 [(TablesT.enc t)] = some [(.bool r)] := by
 refine callD_at (ext0 _ _ rfl) fn47 rfl (jmp 0 (.d (TablesT.enc t)) rfl (Ps (Pr rfl ?_)))
 refine w_box (cs := (TablesT.av t)) rfl szg89 rfl rfl rfl (HP.nil _ _) (fun b7628 H' n' hH => ?_)
 refine Wa rfl (Wn (Ns (Ps (Ps (Pr rfl (Fb fo89_0 (by decide) rfl 0 rfl (Lb szg86 hH (i := 0) rfl rfl rfl (w_len_d elem86 rfl ?_))))))))
 refine Wc h rfl ?_ ?_ <;> intro _ h
 refine Wn (Ns (Ct (Ps (Pr rfl (Wa rfl (Wn (Ns ?_)))))))
 cases h; exact Pq rfl rfl
 refine Wn (Ns (Cf (Pk (Nb (Nb (Ns (Ps (Ps (Pr rfl ?_)))))))))
 refine Fb fo89_0 (by decide) rfl 0 rfl (Lb szg86 hH (i := 0) rfl rfl rfl (w_len_d elem86 rfl (Wm rfl (Wn (Ns (Pb ?_))))))
 exact jm 1 (jm 14 (jm 15 (jm 16 (c_Grid_L1_ok _ _ _ _ _ h b7628 _ _ _ hH))))
theorem r5_within_ok (n_ : Int) (lo : Int) (hi : Int) (r : Bool) (h : r5_within n_ lo hi = some r) : callD C 114 [(.int .i64 n_), (.int .i64 lo), (.int .i64 hi)] = some [(.bool r)] := by
 refine callD_at (ext0 _ _ rfl) fn114 rfl (jmp 0 (.d (.int .i64 n_)) rfl (jmp 1 (.d (.int .i64 lo)) rfl (jmp 2 (.d (.int .i64 hi)) rfl (Ps (Pr rfl (Wa rfl (Wn (Ns (Ps ?_)))))))))
 refine Pr rfl (Wm rfl (Wm rfl ?_))
 refine Wc h rfl ?_ ?_ <;> intro _ h
 refine Wm rfl (Wm rfl (Wm rfl (Wb rfl (Wt rfl rfl (Wa rfl (Wn (Ns ?_)))))))
 cases h; exact Pq rfl rfl
 refine Wm rfl (Wk (Wk (Wk (Wf rfl rfl (Wa rfl (Wn (Ns ?_)))))))
 cases h; exact Pq rfl rfl
def r5_Grid_L2_m (tF : TablesT) (n_F : Int) : r5_Grid_L2_S → Bool → Prop := fun st r => match st with
  | .c0 i => ∀ (b0 g H n) (hH : HP H n [.box b0 (TablesT.av tF)]), PAt C (bodyOf Tryd.f48) (.a (.b (.a (.b (.b (.b (.b .o))))))) ⟨upd (upd (upd g 1 (.pt b0 0)) 3 (.d (.int .i64 n_F))) 6 (.d (.int .i64 i)), H, n⟩ (PostD C Tryd.f48 [(.bool r)])
  | .c1 i => ∀ (b0 g H n) (hH : HP H n [.box b0 (TablesT.av tF)]), PAt C (bodyOf Tryd.f48) (.b (.b (.a (.a (.b (.a (.b (.b (.b (.b .o)))))))))) ⟨upd (upd (upd g 1 (.pt b0 0)) 3 (.d (.int .i64 n_F))) 6 (.d (.int .i64 i)), H, n⟩ (PostD C Tryd.f48 [(.bool r)])
theorem r5_Grid_L2_run_ok (tF : TablesT) (n_F : Int) (st : r5_Grid_L2_S) (r : Bool) (h : r5_Grid_L2_run tF n_F st = some r) : r5_Grid_L2_m tF n_F st r := by
 refine r5_Grid_L2_run.partial_correctness tF n_F (r5_Grid_L2_m tF n_F) (fun r5_Grid_L2_run' ih_ st r h => ?_) st r h
 cases st with
 | c0 i =>
  intro b0 g H n hH
  refine Po (Ps (Ps (Pr rfl (Wm rfl (Fb fo89_1 (by decide) rfl 1 rfl (Lb szg87 hH (i := 0) rfl rfl rfl (w_len_d elem87 rfl ?_)))))))
  refine Wc h rfl ?_ ?_ <;> intro _ h
  refine Wn (Ns (Ct (Pk (Nc (Nb (Ns (Ps (Pb (Ps ?_)))))))))
  refine Pr rfl (Fb fo89_1 (by decide) rfl 1 rfl (Lb szg87 hH (i := 0) rfl rfl rfl (Wm rfl ?_)))
  refine w_idx h rfl elem87 szg203 (fun _ => rfl) rfl rfl (fun t56 h => ?_)
  refine w_load_d (d := (ConflictT.enc t56)) szg203 rfl rfl ?_
  refine alloc_z rfl zero203 hH (fun b7640 H' n' hH => ?_)
  refine w_store_b (new := (ConflictT.av t56)) rfl szg203 hH (i := 0) rfl rfl rfl rfl rfl (Nat.le_of_ble_eq_true rfl) (fun H' hH => ?_)
  refine Wn (Ns (Ps (Ps (Pr rfl (Fb fo203_0 (by decide) rfl 0 rfl (Lb szg3 hH (i := 0) rfl rfl rfl ?_))))))
  refine Wc h rfl ?_ ?_ <;> intro _ h
  refine Wm rfl (Wk (Wk (Wk (Wk (Wk (Wt rfl rfl (Wm rfl (Wk (Wk ?_)))))))))
  refine Wk (Wk (Wt rfl rfl (Wm rfl (Wk (Wk (Wk (Wk (Wt rfl rfl (Wm rfl ?_)))))))))
  refine Wk (Wk (Wk (Wk (Wt rfl rfl (Wn (Ns (Ct (Ps (Pr rfl ?_)))))))))
  refine Wa rfl (Wn (Ns ?_))
  cases h; exact Pq rfl rfl
  refine Wm rfl (Fb fo203_1 (by decide) rfl 1 rfl (Lb szg3 hH (i := 0) rfl rfl rfl (Fb fo203_0 (by decide) rfl 0 rfl (Lb szg3 hH (i := 0) rfl rfl rfl ?_))))
  refine Wc h rfl ?_ ?_ <;> intro _ h
  refine Wf rfl rfl (Wm rfl (Wk (Wk (Wk (Wk (Wt rfl rfl (Wm rfl (Wk (Wk ?_)))))))))
  refine Wk (Wk (Wt rfl rfl (Wm rfl (Wk (Wk (Wk (Wk (Wt rfl rfl (Wn ?_)))))))))
  refine Ns (Ct (Ps (Pr rfl (Wa rfl (Wn (Ns ?_))))))
  cases h; exact Pq rfl rfl
  refine Wf rfl rfl (Wm rfl (Fb fo203_1 (by decide) rfl 1 rfl (Lb szg3 hH (i := 0) rfl rfl rfl (Wm rfl ?_))))
  refine Wc h rfl ?_ ?_ <;> intro _ h
  refine Wf rfl rfl (Wm rfl (Wk (Wk (Wk (Wk (Wt rfl rfl (Wm rfl (Wk (Wk ?_)))))))))
  refine Wk (Wk (Wt rfl rfl (Wn (Ns (Ct (Ps (Pr rfl (Wa rfl (Wn ?_)))))))))
  refine Ns ?_
  cases h; exact Pq rfl rfl
  refine Wf rfl rfl (Wm rfl (Fb fo203_2 (by decide) rfl 2 rfl (Lb szg3 hH (i := 0) rfl rfl rfl ?_)))
  refine w_scal (E := eB) h rfl sig114 (sc rfl (sc rfl (sc rfl (sn)))) (fun y hy => r5_within_ok _ _ _ y hy) (fun _ => rfl) (fun t77 h => ?_)
  revert h; cases t77 <;> intro h
  replace h := if0 h
  refine w_un rfl rfl (Wf rfl rfl (Wm rfl (Wk (Wk (Wk (Wk (Wt rfl rfl (Wn (Ns ?_)))))))))
  refine Ct (Ps (Pr rfl (Wa rfl (Wn (Ns ?_)))))
  cases h; exact Pq rfl rfl
  replace h := if1 h
  refine w_un rfl rfl (Wf rfl rfl (Wm rfl (Fb fo203_3 (by decide) rfl 3 rfl (Lb szg3 hH (i := 0) rfl rfl rfl ?_))))
  refine w_scal (E := eB) h rfl sig114 (sc rfl (sc rfl (sc rfl (sn)))) (fun y hy => r5_within_ok _ _ _ y hy) (fun _ => rfl) (fun t83 h => ?_)
  revert h; cases t83 <;> intro h
  replace h := if0 h
  refine w_un rfl rfl (Wf rfl rfl (Wn (Ns (Ct (Ps (Pr rfl (Wa rfl (Wn (Ns ?_)))))))))
  cases h; exact Pq rfl rfl
  replace h := if1 h
  refine w_un rfl rfl (Wf rfl rfl (Wn (Ns (Cf (Pk (Nb (Nb (Ns (Ps ?_)))))))))
  refine Pr rfl (Wm rfl ?_)
  refine Wc h rfl ?_ ?_ <;> intro _ h
  refine Wn (Ns (Ct (Ps (Pr rfl (Fb fo89_1 (by decide) rfl 1 rfl (Lb szg87 hH (i := 1) rfl rfl rfl (Wm rfl (Wb rfl ?_))))))))
  refine w_idx h rfl elem87 szg203 (fun _ => rfl) rfl rfl (fun t92 h => ?_)
  refine w_load_d (d := (ConflictT.enc t92)) szg203 rfl rfl ?_
  refine alloc_z rfl zero203 hH (fun b7641 H' n' hH => ?_)
  refine w_store_b (new := (ConflictT.av t92)) rfl szg203 hH (i := 0) rfl rfl rfl rfl rfl (Nat.le_of_ble_eq_true rfl) (fun H' hH => ?_)
  refine Wn (Ns (Ps (Pr rfl (Fb fo203_0 (by decide) rfl 0 rfl (Lb szg3 hH (i := 1) rfl rfl rfl (Fb fo203_0 (by decide) rfl 0 rfl (Lb szg3 hH (i := 0) rfl rfl rfl ?_)))))))
  refine Wc h rfl ?_ ?_ <;> intro _ h
  refine Wm rfl (Wk (Wk (Wk (Wk (Wk (Wk (Wk (Wk (Wk ?_)))))))))
  refine Wk (Wk (Wk (Wt rfl rfl (Wn (Ns (Ct (Ps (Pr rfl (Wa rfl ?_)))))))))
  refine Wn (Ns ?_)
  cases h; exact Pq rfl rfl
  refine Wm rfl (Fb fo203_0 (by decide) rfl 0 rfl (Lb szg3 hH (i := 1) rfl rfl rfl (Fb fo203_0 (by decide) rfl 0 rfl (Lb szg3 hH (i := 0) rfl rfl rfl ?_))))
  refine Wc h rfl ?_ ?_ <;> intro _ h
  refine Wm rfl (Fb fo203_1 (by decide) rfl 1 rfl (Lb szg3 hH (i := 1) rfl rfl rfl (Fb fo203_1 (by decide) rfl 1 rfl (Lb szg3 hH (i := 0) rfl rfl rfl ?_))))
  refine Wc h rfl ?_ ?_ <;> intro _ h
  refine Wt rfl rfl (Wf rfl rfl (Wn (Ns (Ct (Ps (Pr rfl (Wa rfl (Wn (Ns ?_)))))))))
  cases h; exact Pq rfl rfl
  refine Wt rfl rfl (Wf rfl rfl (Wn (Ns (Cf (Pk (Nb (Nb (Nb (Nc ?_)))))))))
  refine Nb (Nb (Nb (Nk (Ns ?_))))
  exact jm 1 (jm 3 (jm 6 (ih_ (.c1 _) _ h b0 _ _ _ (hH.selG 3 [2] (by decide) (by decide) (gc rfl (gt rfl))))))
  refine Wm rfl (Wk (Wk (Wk (Wk (Wk (Wf rfl rfl (Wf rfl rfl (Wn (Ns ?_)))))))))
  refine Cf (Pk (Nb (Nb (Nb (Nc (Nb (Nb (Nb (Nk ?_)))))))))
  refine Ns ?_
  exact jm 1 (jm 3 (jm 6 (ih_ (.c1 _) _ h b0 _ _ _ (hH.selG 3 [2] (by decide) (by decide) (gc rfl (gt rfl))))))
  refine Wn (Ns (Cf (Pk (Nb (Nb (Nb (Nb (Nk (Ns ?_)))))))))
  exact jm 1 (jm 3 (jm 6 (ih_ (.c1 _) _ h b0 _ _ _ (hH.selG 2 [1] (by decide) (by decide) (gc rfl (gt rfl))))))
  refine Wn (Ns (Cf (Px rfl (Nb (Nb (Xs (Xl (Xb (Nb ?_)))))))))
  refine Ns (Ps (Pr rfl (Wa rfl (Wn (Ns ?_)))))
  cases h; exact Pq rfl rfl
 | c1 i =>
  intro b0 g H n hH
  refine Pr rfl (Wm rfl (Wb rfl (Wa rfl (Wn (Nb (Nb (Nl ?_)))))))
  exact jm 1 (jm 3 (jm 6 (ih_ (.c0 _) _ h b0 _ _ _ hH)))
theorem r5_Grid_L2_ok (tF : TablesT) (n_F : Int) (i : Int) (r : Bool) (h : r5_Grid_L2 tF n_F i = some r) : r5_Grid_L2_m tF n_F (.c0 i) r := r5_Grid_L2_run_ok tF n_F (.c0 i) r h
end Go.Proofs.YtdcpfmjnkcodiaaDoor.We
namespace Go.Proofs.YtdcpfmjnkcodiaaDoor.We
open Go Go.Jv
set_option maxHeartbeats 4000000
open Go.Proofs
set_option maxHeartbeats 4000000
def r5_Grid_L1_M (t : TablesT) (n_ : Int) (i : Int) (r : Bool) : Prop := ∀ (b0 g H n) (hH : HP H n [.box b0 (TablesT.av t)]), PAt C (bodyOf Tryd.f48) (.a (.b (.a (.b (.b (.b .o)))))) ⟨upd (upd (upd g 1 (.pt b0 0)) 3 (.d (.int .i64 n_))) 4 (.d (.int .i64 i)), H, n⟩ (PostD C Tryd.f48 [(.bool r)])
theorem r5_Grid_L1_ok (t : TablesT) (n_ : Int) (i : Int) (r : Bool) (h : r5_Grid_L1 t n_ i = some r) : r5_Grid_L1_M t n_ i r := by
 refine r5_Grid_L1.partial_correctness t n_ (fun i r => r5_Grid_L1_M t n_ i r) (fun r5_Grid_L1 ih_r5_Grid_L1 i r h b0 g H n hH => ?_) i r h
 refine Po (Ps (Ps (Pr rfl (Wm rfl (Wm rfl ?_)))))
 refine Wc h rfl ?_ ?_ <;> intro _ h
 refine Wn (Ns (Ct (Pk (Nc (Nb (Ns (Ps (Pb (Ps ?_)))))))))
 refine Pr rfl (Fb fo89_0 (by decide) rfl 0 rfl (Lb szg86 hH (i := 0) rfl rfl rfl (Wm rfl ?_)))
 refine w_idx h rfl elem86 szg200 (fun _ => rfl) rfl rfl (fun t22 h => ?_)
 refine w_load_d (d := (GroupT.enc t22)) szg200 rfl rfl ?_
 refine alloc_z rfl zero200 hH (fun b7639 H' n' hH => ?_)
 refine w_store_b (new := (GroupT.av t22)) rfl szg200 hH (i := 0) rfl rfl rfl rfl rfl (Nat.le_of_ble_eq_true rfl) (fun H' hH => ?_)
 refine Wn (Ns (Ps (Pr rfl (Fb fo200_1 (by decide) rfl 1 rfl (Lb szg3 hH (i := 0) rfl rfl rfl ?_)))))
 refine w_scal (E := eB) h rfl sig114 (sc rfl (sc rfl (sc rfl (sn)))) (fun y hy => r5_within_ok _ _ _ y hy) (fun _ => rfl) (fun t26 h => ?_)
 revert h; cases t26 <;> intro h
 replace h := if0 h
 refine w_un rfl rfl (Wm rfl (Wk (Wk (Wk (Wk (Wt rfl rfl (Wm rfl (Wk (Wk ?_)))))))))
 refine Wk (Wk (Wt rfl rfl (Wm rfl (Wk (Wk (Wk (Wk (Wt rfl rfl (Wn ?_)))))))))
 refine Ns (Ct (Ps (Pr rfl (Wa rfl (Wn (Ns ?_))))))
 cases h; exact Pq rfl rfl
 replace h := if1 h
 refine w_un rfl rfl (Wm rfl (Fb fo200_2 (by decide) rfl 2 rfl (Lb szg3 hH (i := 0) rfl rfl rfl ?_)))
 refine w_scal (E := eB) h rfl sig114 (sc rfl (sc rfl (sc rfl (sn)))) (fun y hy => r5_within_ok _ _ _ y hy) (fun _ => rfl) (fun t31 h => ?_)
 revert h; cases t31 <;> intro h
 replace h := if0 h
 refine w_un rfl rfl (Wf rfl rfl (Wm rfl (Wk (Wk (Wk (Wk (Wt rfl rfl (Wm rfl (Wk ?_)))))))))
 refine Wk (Wk (Wk (Wt rfl rfl (Wn (Ns (Ct (Ps (Pr rfl (Wa rfl ?_)))))))))
 refine Wn (Ns ?_)
 cases h; exact Pq rfl rfl
 replace h := if1 h
 refine w_un rfl rfl (Wf rfl rfl (Wm rfl (Fb fo200_3 (by decide) rfl 3 rfl (Lb szg3 hH (i := 0) rfl rfl rfl ?_))))
 refine w_scal (E := eB) h rfl sig114 (sc rfl (sc rfl (sc rfl (sn)))) (fun y hy => r5_within_ok _ _ _ y hy) (fun _ => rfl) (fun t37 h => ?_)
 revert h; cases t37 <;> intro h
 replace h := if0 h
 refine w_un rfl rfl (Wf rfl rfl (Wm rfl (Wk (Wk (Wk (Wk (Wt rfl rfl (Wn (Ns ?_)))))))))
 refine Ct (Ps (Pr rfl (Wa rfl (Wn (Ns ?_)))))
 cases h; exact Pq rfl rfl
 replace h := if1 h
 refine w_un rfl rfl (Wf rfl rfl (Wm rfl (Fb fo200_4 (by decide) rfl 4 rfl (Lb szg3 hH (i := 0) rfl rfl rfl ?_))))
 refine w_scal (E := eB) h rfl sig114 (sc rfl (sc rfl (sc rfl (sn)))) (fun y hy => r5_within_ok _ _ _ y hy) (fun _ => rfl) (fun t43 h => ?_)
 revert h; cases t43 <;> intro h
 replace h := if0 h
 refine w_un rfl rfl (Wf rfl rfl (Wn (Ns (Ct (Ps (Pr rfl (Wa rfl (Wn (Ns ?_)))))))))
 cases h; exact Pq rfl rfl
 replace h := if1 h
 refine w_un rfl rfl (Wf rfl rfl (Wn (Ns (Cf (Pk (Nb (Nb (Nb (Nk ?_)))))))))
 refine Ns (Pr rfl (Wm rfl (Wb rfl (Wa rfl (Wn (Nb (Nb (Nl ?_))))))))
 exact jm 1 (jm 3 (jm 4 (ih_r5_Grid_L1 _ _ h b0 _ _ _ (hH.selG 2 [1] (by decide) (by decide) (gc rfl (gt rfl))))))
 refine Wn (Ns (Cf (Px rfl (Nb (Nb (Xs (Xl (Xb (Nb ?_)))))))))
 refine Ns (Ps (Ps (Pr rfl (Wa rfl (Wn (Ns (Pb ?_)))))))
 exact jm 1 (jm 3 (jm 6 (r5_Grid_L2_ok _ _ _ _ h b0 _ _ _ hH)))
theorem r5_Grid_ok (t : TablesT) (r : Bool) (h : r5_Grid t = some r) : callD C 48 [(TablesT.enc t)] = some [(.bool r)] := by
 refine callD_at (ext0 _ _ rfl) fn48 rfl (jmp 0 (.d (TablesT.enc t)) rfl (Ps (Pr rfl ?_)))
 refine w_box (cs := (TablesT.av t)) rfl szg89 rfl rfl rfl (HP.nil _ _) (fun b7638 H' n' hH => ?_)
 refine Wa rfl (Wn (Ns (Ps (Pr rfl (Fb fo89_0 (by decide) rfl 0 rfl (Lb szg86 hH (i := 0) rfl rfl rfl (w_len_d elem86 rfl (Wa rfl (Wn ?_)))))))))
 refine Ns (Ps (Ps (Pr rfl (Wm rfl ?_))))
 refine Wc h rfl ?_ ?_ <;> intro _ h
 refine Wn (Ns (Ct (Ps (Pr rfl (Wa rfl (Wn (Ns ?_)))))))
 cases h; exact Pq rfl rfl
 refine Wn (Ns (Cf (Pk (Nb (Nb (Ns (Ps (Ps (Pr rfl ?_)))))))))
 refine Wa rfl (Wn (Ns (Pb ?_)))
 exact jm 1 (jm 3 (jm 4 (r5_Grid_L1_ok _ _ _ _ h b7638 _ _ _ hH)))
def lex_kind_L2_M (text : ByteArray) (t19 : Int) (r : Int) : Prop := ∀ (g : Nat → AV) (H : Hs) (n : Nat), PAt C (bodyOf Tryd.f193) (.a (.b (.a (.b (.b .o))))) ⟨upd (upd (upd g 0 (.d (.str text))) 18 (.d ((eA Dat.str) lex_signs_tab))) 19 (.d (.int .i64 t19)), H, n⟩ (PostD C Tryd.f193 [(.int .i64 r)])
theorem lex_kind_L2_ok (text : ByteArray) (t19 : Int) (r : Int) (h : lex_kind_L2 text t19 = some r) : lex_kind_L2_M text t19 r := by
 refine lex_kind_L2.partial_correctness text (fun t19 r => lex_kind_L2_M text t19 r) (fun lex_kind_L2 ih_lex_kind_L2 t19 r h g H n => ?_) t19 r h
 refine Po (Ps (Pr rfl ?_))
 refine Wc h rfl ?_ ?_ <;> intro _ h
 refine Wn (Ns (Ps (Ct (Pk (Nc (Ns (Ps (Pb (Ps ?_)))))))))
 refine Pr rfl (Wm rfl ?_)
 refine w_index_l (enc := Dat.str) h rfl arr290 szg9 rfl rfl rfl (fun t22 h => ?_)
 refine Wa rfl (Wa rfl (Wn (Ns (Ps (Pr rfl (Wm rfl (Wm rfl ?_)))))))
 refine Wc h rfl ?_ ?_ <;> intro _ h
 refine Wn (Ns (Ct (Ps (Pr rfl (Wm rfl (Wb rfl (Wa rfl (Wn (Ns ?_)))))))))
 cases h; exact Pq rfl rfl
 refine Wn (Ns (Cf (Pk (Nb (Nb (Nb (Nk (Ns (Pr rfl ?_)))))))))
 refine Wb rfl (Wm rfl (Wn (Nb (Nb (Nb (Nl ?_))))))
 exact jm 0 (jm 18 (jm 19 (ih_lex_kind_L2 _ _ h _ _ _)))
 refine Wn (Ns (Ps (Cf (Px rfl (Nb (Xs (Nb (Xl (Xb ?_)))))))))
 refine Nb (Ns (Ps (Pr rfl (Wa rfl (Wn (Ns ?_))))))
 cases h; exact Pq rfl rfl
def lex_kind_L1_M (text : ByteArray) (t8 : Int) (r : Int) : Prop := ∀ (g : Nat → AV) (H : Hs) (n : Nat), PAt C (bodyOf Tryd.f193) (.a (.b (.a (.b .o)))) ⟨upd (upd (upd g 0 (.d (.str text))) 7 (.d ((eA Dat.str) lex_words_tab))) 8 (.d (.int .i64 t8)), H, n⟩ (PostD C Tryd.f193 [(.int .i64 r)])
theorem lex_kind_L1_ok (text : ByteArray) (t8 : Int) (r : Int) (h : lex_kind_L1 text t8 = some r) : lex_kind_L1_M text t8 r := by
 refine lex_kind_L1.partial_correctness text (fun t8 r => lex_kind_L1_M text t8 r) (fun lex_kind_L1 ih_lex_kind_L1 t8 r h g H n => ?_) t8 r h
 refine Po (Ps (Pr rfl ?_))
 refine Wc h rfl ?_ ?_ <;> intro _ h
 refine Wn (Ns (Ps (Ct (Pk (Nc (Ns (Ps (Pb (Ps ?_)))))))))
 refine Pr rfl (Wm rfl ?_)
 refine w_index_l (enc := Dat.str) h rfl arr289 szg9 rfl rfl rfl (fun t11 h => ?_)
 refine Wa rfl (Wa rfl (Wn (Ns (Ps (Pr rfl (Wm rfl (Wm rfl ?_)))))))
 refine Wc h rfl ?_ ?_ <;> intro _ h
 refine Wn (Ns (Ct (Ps (Pr rfl (Wm rfl (Wb rfl (Wa rfl (Wn (Ns ?_)))))))))
 cases h; exact Pq rfl rfl
 refine Wn (Ns (Cf (Pk (Nb (Nb (Nb (Nk (Ns (Pr rfl ?_)))))))))
 refine Wb rfl (Wm rfl (Wn (Nb (Nb (Nb (Nl ?_))))))
 exact jm 0 (jm 7 (jm 8 (ih_lex_kind_L1 _ _ h _ _ _)))
 refine Wn (Ns (Ps (Cf (Px rfl (Nb (Xs (Nb (Xl (Xb ?_)))))))))
 refine Nb (Ns (Ps (Ps (Pr rfl (w_load_g rfl szg290 glob8 rfl (Wm rfl (Wn (Ns (Pb ?_)))))))))
 exact jm 0 (jm 18 (jm 19 (lex_kind_L2_ok _ _ _ h _ _ _)))
theorem lex_kind_ok (text : ByteArray) (r : Int) (h : lex_kind text = some r) : callD C 193 [(.str text)] = some [(.int .i64 r)] := by
 refine callD_at (ext0 _ _ rfl) fn193 rfl (jmp 0 (.d (.str text)) rfl (Ps (Pr rfl (Wa rfl (Wn (Ns (Ps (Ps (Pr rfl ?_)))))))))
 refine w_load_g rfl szg289 glob7 rfl (Wm rfl (Wn (Ns (Pb ?_))))
 exact jm 0 (jm 7 (jm 8 (lex_kind_L1_ok _ _ _ h _ _ _)))
theorem lex_letter_ok (c : Int) (r : Bool) (h : lex_letter c = some r) : callD C 194 [(.int .u8 c)] = some [(.bool r)] := by
 refine callD_at (ext0 _ _ rfl) fn194 rfl (jmp 0 (.d (.int .u8 c)) rfl (Ps (Pr rfl (Wa rfl (Wn (Ns (Ps (Pr rfl (Wm rfl ?_)))))))))
 refine Wc h rfl ?_ ?_ <;> intro _ h
 refine Wm rfl (Wm rfl ?_)
 refine Wc h rfl ?_ ?_ <;> intro _ h
 refine Wt rfl rfl (Wm rfl (Wk (Wk (Wk (Wk (Wk (Wk (Wt rfl rfl (Wa rfl ?_)))))))))
 refine Wn (Ns ?_)
 cases h; exact Pq rfl rfl
 refine Wt rfl rfl (Wm rfl (Wm rfl ?_))
 refine Wc h rfl ?_ ?_ <;> intro _ h
 refine Wm rfl (Wm rfl (Wb rfl (Wt rfl rfl (Wf rfl rfl (Wa rfl (Wn (Ns ?_)))))))
 cases h; exact Pq rfl rfl
 refine Wm rfl (Wk (Wk (Wf rfl rfl (Wf rfl rfl (Wa rfl (Wn (Ns ?_)))))))
 cases h; exact Pq rfl rfl
 refine Wm rfl (Wk (Wk (Wf rfl rfl (Wm rfl (Wm rfl ?_)))))
 refine Wc h rfl ?_ ?_ <;> intro _ h
 refine Wm rfl (Wm rfl (Wb rfl (Wt rfl rfl (Wf rfl rfl (Wa rfl (Wn (Ns ?_)))))))
 cases h; exact Pq rfl rfl
 refine Wm rfl (Wk (Wk (Wf rfl rfl (Wf rfl rfl (Wa rfl (Wn (Ns ?_)))))))
 cases h; exact Pq rfl rfl
theorem lex_digit_ok (c : Int) (r : Bool) (h : lex_digit c = some r) : callD C 251 [(.int .u8 c)] = some [(.bool r)] := by
 refine callD_at (ext0 _ _ rfl) fn251 rfl (jmp 0 (.d (.int .u8 c)) rfl (Ps (Pr rfl (Wa rfl (Wn (Ns (Ps (Pr rfl (Wm rfl ?_)))))))))
 refine Wc h rfl ?_ ?_ <;> intro _ h
 refine Wm rfl (Wm rfl (Wb rfl (Wt rfl rfl (Wa rfl (Wn (Ns ?_))))))
 cases h; exact Pq rfl rfl
 refine Wm rfl (Wk (Wk (Wf rfl rfl (Wa rfl (Wn (Ns ?_))))))
 cases h; exact Pq rfl rfl
theorem lex_inner_ok (c : Int) (r : Bool) (h : lex_inner c = some r) : callD C 232 [(.int .u8 c)] = some [(.bool r)] := by
 refine callD_at (ext0 _ _ rfl) fn232 rfl (jmp 0 (.d (.int .u8 c)) rfl (Ps (Pr rfl (Wa rfl (Wn (Ns (Ps (Pr rfl (Wm rfl ?_)))))))))
 refine w_scal (E := eB) h rfl sig194 (sc rfl (sn)) (fun y hy => lex_letter_ok _ y hy) (fun _ => rfl) (fun t4 h => ?_)
 revert h; cases t4 <;> intro h
 replace h := if0 h
 refine Wm rfl (Wm rfl ?_)
 refine w_scal (E := eB) h rfl sig251 (sc rfl (sn)) (fun y hy => lex_digit_ok _ y hy) (fun _ => rfl) (fun t7 h => ?_)
 revert h; cases t7 <;> intro h
 replace h := if0 h
 refine Wf rfl rfl (Wm rfl (Wm rfl (Wb rfl (Wf rfl rfl (Wa rfl (Wn (Ns ?_)))))))
 cases h; exact Pq rfl rfl
 replace h := if1 h
 refine Wf rfl rfl (Wm rfl (Wk (Wk (Wt rfl rfl (Wa rfl (Wn (Ns ?_)))))))
 cases h; exact Pq rfl rfl
 replace h := if1 h
 refine Wm rfl (Wk (Wk (Wt rfl rfl (Wm rfl (Wk (Wk (Wt rfl rfl (Wa rfl (Wn ?_)))))))))
 refine Ns ?_
 cases h; exact Pq rfl rfl
def lex_run_L1_M (s_ : ByteArray) (n_ : Int) (r : Int) : Prop := ∀ (g : Nat → AV) (H : Hs) (n : Nat), PAt C (bodyOf Tryd.f195) (.a (.a (.b (.b .o)))) ⟨upd (upd g 0 (.d (.str s_))) 3 (.d (.int .i64 n_)), H, n⟩ (PostD C Tryd.f195 [(.int .i64 r)])
theorem lex_run_L1_ok (s_ : ByteArray) (n_ : Int) (r : Int) (h : lex_run_L1 s_ n_ = some r) : lex_run_L1_M s_ n_ r := by
 refine lex_run_L1.partial_correctness s_ (fun n_ r => lex_run_L1_M s_ n_ r) (fun lex_run_L1 ih_lex_run_L1 n_ r h g H n => ?_) n_ r h
 refine Po (Ps (Ps (Pr rfl (Wm rfl (Wm rfl (w_len_s rfl (dsc ty9) rfl ?_))))))
 refine Wc h rfl ?_ ?_ <;> intro _ h
 refine Wm rfl (Wm rfl (Wm rfl ?_))
 refine w_sidx h rfl ty9 rfl rfl (fun t11 h => ?_)
 refine w_scal (E := eB) h rfl sig232 (sc rfl (sn)) (fun y hy => lex_inner_ok _ y hy) (fun _ => rfl) (fun t12 h => ?_)
 revert h; cases t12 <;> intro h
 replace h := if0 h
 refine Wt rfl rfl (Wn (Ns (Cf (Px rfl (Nb (Nb (Xs (Xl (Xb ?_)))))))))
 refine Ns (Ps (Pr rfl (Wm rfl (Wa rfl (Wn (Ns ?_))))))
 cases h; exact Pq rfl rfl
 replace h := if1 h
 refine Wt rfl rfl (Wn (Ns (Ct (Pk (Nc (Nb (Ns (Pb (Pr rfl ?_)))))))))
 refine Wm rfl (Wb rfl (Wa rfl (Wn (Nk (Nb (Nl ?_))))))
 exact jm 0 (jm 3 (ih_lex_run_L1 _ _ h _ _ _))
 refine Wm rfl (Wk (Wk (Wk (Wk (Wf rfl rfl (Wn (Ns (Cf (Px rfl ?_)))))))))
 refine Nb (Nb (Xs (Xl (Xb (Ns (Ps (Pr rfl (Wm rfl (Wa rfl ?_)))))))))
 refine Wn (Ns ?_)
 cases h; exact Pq rfl rfl
theorem lex_run_ok (s_ : ByteArray) (r : Int) (h : lex_run s_ = some r) : callD C 195 [(.str s_)] = some [(.int .i64 r)] := by
 refine callD_at (ext0 _ _ rfl) fn195 rfl (jmp 0 (.d (.str s_)) rfl (Ps (Pr rfl (Wa rfl (Wn (Ns (Ps (Pr rfl (Wa rfl ?_)))))))))
 refine Wn (Ns (Ps (Pb ?_)))
 exact jm 0 (jm 3 (lex_run_L1_ok _ _ _ h _ _ _))
def lex_digits_L1_m (s_F : ByteArray) (baseF : Int) : lex_digits_L1_S → (Int × Bool) → Prop := fun st r => match st with
  | .c0 under v i => ∀ (g : Nat → AV) (H : Hs) (n : Nat), PAt C (bodyOf Tryd.f233) (.a (.b (.a (.b (.b .o))))) ⟨upd (upd (upd (upd (upd g 0 (.d (.str s_F))) 1 (.d (.int .i64 baseF))) 2 (.d (.bool under))) 8 (.d (.int .i64 v))) 9 (.d (.int .i64 i)), H, n⟩ (PostD C Tryd.f233 [(.int .i64 r.1), (.bool r.2)])
  | .c1 under v i d c => ∀ (g : Nat → AV) (H : Hs) (n : Nat), PAt C (bodyOf Tryd.f233) (.b (.b (.b (.b (.a (.b (.a (.b (.a (.a (.b (.a (.a (.b (.a (.b (.b .o))))))))))))))))) ⟨upd (upd (upd (upd (upd (upd (upd g 0 (.d (.str s_F))) 1 (.d (.int .i64 baseF))) 2 (.d (.bool under))) 8 (.d (.int .i64 v))) 9 (.d (.int .i64 i))) 10 (.d (.int .i64 d))) 11 (.d (.int .u8 c)), H, n⟩ (PostD C Tryd.f233 [(.int .i64 r.1), (.bool r.2)])
  | .c2 under v i d c => ∀ (g : Nat → AV) (H : Hs) (n : Nat), PAt C (bodyOf Tryd.f233) (.b (.b (.b (.b (.b (.b (.a (.b (.a (.b (.a (.a (.b (.a (.a (.b (.a (.b (.b .o))))))))))))))))))) ⟨upd (upd (upd (upd (upd (upd (upd g 0 (.d (.str s_F))) 1 (.d (.int .i64 baseF))) 2 (.d (.bool under))) 8 (.d (.int .i64 v))) 9 (.d (.int .i64 i))) 10 (.d (.int .i64 d))) 11 (.d (.int .u8 c)), H, n⟩ (PostD C Tryd.f233 [(.int .i64 r.1), (.bool r.2)])
  | .c3 under v i d => ∀ (g : Nat → AV) (H : Hs) (n : Nat), PAt C (bodyOf Tryd.f233) (.b (.b (.a (.a (.b (.a (.a (.b (.a (.b (.b .o))))))))))) ⟨upd (upd (upd (upd (upd (upd g 0 (.d (.str s_F))) 1 (.d (.int .i64 baseF))) 2 (.d (.bool under))) 8 (.d (.int .i64 v))) 9 (.d (.int .i64 i))) 10 (.d (.int .i64 d)), H, n⟩ (PostD C Tryd.f233 [(.int .i64 r.1), (.bool r.2)])
  | .c4 under v i => ∀ (g : Nat → AV) (H : Hs) (n : Nat), PAt C (bodyOf Tryd.f233) (.b (.b (.a (.a (.b (.a (.b (.b .o)))))))) ⟨upd (upd (upd (upd (upd g 0 (.d (.str s_F))) 1 (.d (.int .i64 baseF))) 2 (.d (.bool under))) 8 (.d (.int .i64 v))) 9 (.d (.int .i64 i)), H, n⟩ (PostD C Tryd.f233 [(.int .i64 r.1), (.bool r.2)])
theorem lex_digits_L1_run_ok (s_F : ByteArray) (baseF : Int) (st : lex_digits_L1_S) (r : Int × Bool) (h : lex_digits_L1_run s_F baseF st = some r) : lex_digits_L1_m s_F baseF st r := by
 refine lex_digits_L1_run.partial_correctness s_F baseF (lex_digits_L1_m s_F baseF) (fun lex_digits_L1_run' ih_ st r h => ?_) st r h
 cases st with
 | c0 under v i =>
  intro g H n
  refine Po (Ps (Ps (Pr rfl (Wm rfl (Wm rfl (w_len_s rfl (dsc ty9) rfl ?_))))))
  refine Wc h rfl ?_ ?_ <;> intro _ h
  refine Wn (Ns (Ct (Pk (Nc (Nb (Ns (Ps (Pb (Ps ?_)))))))))
  refine Pr rfl (Wa rfl (Wn (Ns (Ps (Ps (Pr rfl (Wm rfl (Wm rfl ?_))))))))
  refine w_sidx h rfl ty9 rfl rfl (fun t20 h => ?_)
  refine Wa rfl (Wn (Ns (Pb (Ps (Pr rfl (Wm rfl ?_))))))
  refine w_scal (E := eB) h rfl sig251 (sc rfl (sn)) (fun y hy => lex_digit_ok _ y hy) (fun _ => rfl) (fun t23 h => ?_)
  revert h; cases t23 <;> intro h
  replace h := if0 h
  refine Wa rfl (Wn (Ns (Cf (Ps (Pr rfl (Wm rfl ?_))))))
  refine Wc h rfl ?_ ?_ <;> intro _ h
  refine Wm rfl (Wm rfl ?_)
  refine Wc h rfl ?_ ?_ <;> intro _ h
  refine Wt rfl rfl (Wa rfl (Wn (Ns (Ct (Pr rfl (Wm rfl (Wb rfl (w_conv rfl (c_int ty5 ty2) (Wb rfl ?_)))))))))
  refine Wa rfl (Wn (Nc (Nb (Nb (Nb (Nk (Nb (Ns ?_))))))))
  exact jm 0 (jm 1 (jm 2 (jm 8 (jm 9 (jm 10 (ih_ (.c3 _ _ _ _) _ h _ _ _))))))
  refine Wt rfl rfl (Wa rfl (Wn (Ns (Cf ?_))))
  exact jm 0 (jm 1 (jm 2 (jm 8 (jm 9 (jm 10 (jm 11 (ih_ (.c1 _ _ _ _ _) _ h _ _ _)))))))
  refine Wm rfl (Wk (Wk (Wf rfl rfl (Wa rfl (Wn (Ns (Cf ?_)))))))
  exact jm 0 (jm 1 (jm 2 (jm 8 (jm 9 (jm 10 (jm 11 (ih_ (.c1 _ _ _ _ _) _ h _ _ _)))))))
  replace h := if1 h
  refine Wa rfl (Wn (Ns (Ct (Pr rfl (Wm rfl (Wb rfl (w_conv rfl (c_int ty5 ty2) (Wa rfl (Wn ?_)))))))))
  refine Nc (Nb (Nk (Nb (Ns ?_))))
  exact jm 0 (jm 1 (jm 2 (jm 8 (jm 9 (jm 10 (ih_ (.c3 _ _ _ _) _ h _ _ _))))))
  refine Wn (Ns (Cf (Px rfl (Nb (Nb (Xs (Xl (Xb (Nb ?_)))))))))
  refine Ns (Ps (Pr rfl (Wm rfl (Wm rfl (Wb rfl (Wa rfl (Wa rfl (Wn (Ns ?_)))))))))
  cases h; exact Pq rfl rfl
 | c1 under v i d c =>
  intro g H n
  refine Ps (Pr rfl (Wm rfl ?_))
  refine Wc h rfl ?_ ?_ <;> intro _ h
  refine Wm rfl (Wm rfl ?_)
  refine Wc h rfl ?_ ?_ <;> intro _ h
  refine Wt rfl rfl (Wa rfl (Wn (Ns (Ct (Pr rfl (Wm rfl (Wb rfl (w_conv rfl (c_int ty5 ty2) (Wb rfl ?_)))))))))
  refine Wa rfl (Wn (Nc (Nb (Nb (Nb (Nb (Nb (Nk (Nb ?_)))))))))
  refine Ns ?_
  exact jm 0 (jm 1 (jm 2 (jm 8 (jm 9 (jm 10 (ih_ (.c3 _ _ _ _) _ h _ _ _))))))
  refine Wt rfl rfl (Wa rfl (Wn (Ns (Cf ?_))))
  exact jm 0 (jm 1 (jm 2 (jm 8 (jm 9 (jm 10 (jm 11 (ih_ (.c2 _ _ _ _ _) _ h _ _ _)))))))
  refine Wm rfl (Wk (Wk (Wf rfl rfl (Wa rfl (Wn (Ns (Cf ?_)))))))
  exact jm 0 (jm 1 (jm 2 (jm 8 (jm 9 (jm 10 (jm 11 (ih_ (.c2 _ _ _ _ _) _ h _ _ _)))))))
 | c2 under v i d c =>
  intro g H n
  refine Ps (Pr rfl (Wm rfl ?_))
  refine Wc h rfl ?_ ?_ <;> intro _ h
  refine Wm rfl (Wm rfl (Wt rfl rfl (Wm rfl ?_)))
  revert h; cases under <;> intro h
  replace h := if0 h
  refine Wk (Wk (Wf rfl rfl (Wm rfl (Wk (Wk (Wk (Wk (Wk (Wf rfl rfl ?_)))))))))
  refine Wm rfl (Wk (Wk (Wk (Wk (Wk (Wf rfl rfl (Wa rfl (Wn (Ns ?_)))))))))
  refine Cf (Pk (Nb (Nb (Nb (Nb (Nb (Nb (Nb (Nb ?_)))))))))
  refine Nk (Nb (Ns ?_))
  exact jm 0 (jm 1 (jm 2 (jm 8 (jm 9 (jm 10 (ih_ (.c3 _ _ _ _) _ h _ _ _))))))
  replace h := if1 h
  refine Wm rfl ?_
  refine Wc h rfl ?_ ?_ <;> intro _ h
  refine Wt rfl rfl (Wm rfl (Wm rfl (Wb rfl (Wm rfl (w_len_s rfl (dsc ty9) rfl ?_)))))
  refine Wc h rfl ?_ ?_ <;> intro _ h
  refine Wt rfl rfl (Wm rfl (Wm rfl (Wm rfl (Wb rfl ?_))))
  refine w_sidx h rfl ty9 rfl rfl (fun t70 h => ?_)
  refine Wd h rfl ?_ ?_ <;> intro _ h
  refine Wt rfl rfl (Wa rfl (Wn (Ns (Cf (Pk (Nb (Nb (Nb (Nb ?_)))))))))
  refine Nb (Nb (Nb (Nb (Nk (Nb (Ns ?_))))))
  exact jm 0 (jm 1 (jm 2 (jm 8 (jm 9 (jm 10 (ih_ (.c3 _ _ _ _) _ h _ _ _))))))
  refine Wt rfl rfl (Wa rfl (Wn (Ns (Ct (Px rfl (Nc (Nb (Nb (Nb ?_)))))))))
  refine Nb (Nb (Nb (Nb (x_out rfl (by decide) (Nb (Xs (Nb (Xb (Ns ?_)))))))))
  exact jm 0 (jm 1 (jm 2 (jm 8 (jm 9 (ih_ (.c4 _ _ _) _ h _ _ _)))))
  refine Wt rfl rfl (Wm rfl (Wk (Wk (Wk (Wk (Wk (Wf rfl rfl (Wa rfl (Wn ?_)))))))))
  refine Ns (Cf (Pk (Nb (Nb (Nb (Nb (Nb (Nb (Nb ?_)))))))))
  refine Nb (Nk (Nb (Ns ?_)))
  exact jm 0 (jm 1 (jm 2 (jm 8 (jm 9 (jm 10 (ih_ (.c3 _ _ _ _) _ h _ _ _))))))
  refine Wt rfl rfl (Wm rfl (Wk (Wk (Wk (Wk (Wk (Wf rfl rfl (Wm rfl (Wk ?_)))))))))
  refine Wk (Wk (Wk (Wk (Wf rfl rfl (Wa rfl (Wn (Ns (Cf (Pk ?_)))))))))
  refine Nb (Nb (Nb (Nb (Nb (Nb (Nb (Nb (Nk (Nb ?_)))))))))
  refine Ns ?_
  exact jm 0 (jm 1 (jm 2 (jm 8 (jm 9 (jm 10 (ih_ (.c3 _ _ _ _) _ h _ _ _))))))
  refine Wm rfl (Wk (Wf rfl rfl (Wm rfl (Wk (Wk (Wf rfl rfl (Wm rfl (Wk (Wk ?_)))))))))
  refine Wk (Wk (Wk (Wf rfl rfl (Wm rfl (Wk (Wk (Wk (Wk (Wk ?_)))))))))
  refine Wf rfl rfl (Wa rfl (Wn (Ns (Cf (Pk (Nb (Nb (Nb (Nb ?_)))))))))
  refine Nb (Nb (Nb (Nb (Nk (Nb (Ns ?_))))))
  exact jm 0 (jm 1 (jm 2 (jm 8 (jm 9 (jm 10 (ih_ (.c3 _ _ _ _) _ h _ _ _))))))
 | c3 under v i d =>
  intro g H n
  refine Ps (Ps (Pr rfl (Wm rfl (Wm rfl ?_))))
  refine Wc h rfl ?_ ?_ <;> intro _ h
  refine Wn (Ns (Ct (Ps (Pr rfl (Wa rfl (Wa rfl (Wn (Ns ?_))))))))
  cases h; exact Pq rfl rfl
  refine Wn (Ns (Cf (Pk (Nb (Nb (Ns (Pr rfl (Wm rfl (Wm rfl ?_)))))))))
  refine Wb rfl (Wm rfl (Wb rfl (w_min rfl rfl rfl (Wa rfl (Wn (Nb (Nb (Nb (Nk ?_)))))))))
  refine Ns ?_
  exact jm 0 (jm 1 (jm 2 (jm 8 (jm 9 (ih_ (.c4 _ _ _) _ h _ _ _)))))
 | c4 under v i =>
  intro g H n
  refine Pr rfl (Wm rfl (Wb rfl (Wa rfl (Wn (Nb (Nb (Nl ?_)))))))
  exact jm 0 (jm 1 (jm 2 (jm 8 (jm 9 (ih_ (.c0 _ _ _) _ h _ _ _)))))
theorem lex_digits_L1_ok (s_F : ByteArray) (baseF : Int) (under : Bool) (v : Int) (i : Int) (r : Int × Bool) (h : lex_digits_L1 s_F baseF under v i = some r) : lex_digits_L1_m s_F baseF (.c0 under v i) r := lex_digits_L1_run_ok s_F baseF (.c0 under v i) r h
theorem lex_digits_ok (s_ : ByteArray) (base : Int) (under : Bool) (r : Int × Bool) (h : lex_digits s_ base under = some r) : callD C 233 [(.str s_), (.int .i64 base), (.bool under)] = some [(.int .i64 r.1), (.bool r.2)] := by
 refine callD_at (ext0 _ _ rfl) fn233 rfl (jmp 0 (.d (.str s_)) rfl (jmp 1 (.d (.int .i64 base)) rfl (jmp 2 (.d (.bool under)) rfl (Ps (Pr rfl (Wa rfl (Wa rfl (Wn (Ns ?_)))))))))
 refine Ps (Pr rfl (Wa rfl (Wn (Ns (Ps (Ps (Pr rfl (Wa rfl (Wn ?_)))))))))
 refine Ns (Pb ?_)
 exact jm 0 (jm 1 (jm 2 (jm 8 (jm 9 (lex_digits_L1_ok _ _ _ _ _ _ h _ _ _)))))
theorem sl_HasPrefix_ok (s_ : ByteArray) (prefix_ : ByteArray) (r : Bool) (h : sl_HasPrefix s_ prefix_ = some r) : callD C 256 [(.str s_), (.str prefix_)] = some [(.bool r)] := by
 refine callD_at (ext0 _ _ rfl) fn256 rfl (jmp 0 (.d (.str s_)) rfl (jmp 1 (.d (.str prefix_)) rfl (Ps (Pr rfl (Wa rfl (Wn (Ns (Ps (Pr rfl ?_)))))))))
 refine Wm rfl (w_len_s rfl (dsc ty9) rfl (Wm rfl (w_len_s rfl (dsc ty9) rfl ?_)))
 refine Wc h rfl ?_ ?_ <;> intro _ h
 refine Wm rfl (Wm rfl (Wm rfl (w_len_s rfl (dsc ty9) rfl ?_)))
 refine w_scut h rfl ty9 rfl (lh_nh) (fun t14 h => ?_)
 refine Wm rfl (Wb rfl (Wt rfl rfl (Wa rfl (Wn (Ns ?_)))))
 cases h; exact Pq rfl rfl
 refine Wm rfl (Wk (Wk (Wk (Wk (Wk (Wk (Wf rfl rfl (Wa rfl (Wn ?_)))))))))
 refine Ns ?_
 cases h; exact Pq rfl rfl
theorem sl_CutPrefix_ok (s_ : ByteArray) (prefix_ : ByteArray) (r : ByteArray × Bool) (h : sl_CutPrefix s_ prefix_ = some r) : callD C 252 [(.str s_), (.str prefix_)] = some [(.str r.1), (.bool r.2)] := by
 refine callD_at (ext0 _ _ rfl) fn252 rfl (jmp 0 (.d (.str s_)) rfl (jmp 1 (.d (.str prefix_)) rfl (Ps (Pr rfl (Wa rfl (Wa rfl (Wn (Ns (Ps ?_)))))))))
 refine Ps (Pr rfl (Wm rfl (Wm rfl ?_)))
 refine w_scal (E := eB) h rfl sig256 (sc rfl (sc rfl (sn))) (fun y hy => sl_HasPrefix_ok _ _ y hy) (fun _ => rfl) (fun t8 h => ?_)
 revert h; cases t8 <;> intro h
 replace h := if0 h
 refine w_un rfl rfl (Wn (Ns (Ct (Ps (Pr rfl (Wm rfl (Wa rfl (Wa rfl (Wn ?_)))))))))
 refine Ns ?_
 cases h; exact Pq rfl rfl
 replace h := if1 h
 refine w_un rfl rfl (Wn (Ns (Cf (Pk (Nb (Nb (Ns (Ps (Pr rfl ?_)))))))))
 refine Wm rfl (Wm rfl (w_len_s rfl (dsc ty9) rfl ?_))
 refine w_scut h rfl ty9 rfl (lh_ln) (fun t14 h => ?_)
 refine Wa rfl (Wa rfl (Wn (Ns ?_)))
 cases h; exact Pq rfl rfl
theorem strings_CutPrefix_ok (s_ : ByteArray) (prefix_ : ByteArray) (r : ByteArray × Bool) (h : strings_CutPrefix s_ prefix_ = some r) : callD C 234 [(.str s_), (.str prefix_)] = some [(.str r.1), (.bool r.2)] := by
 refine callD_at (ext0 _ _ rfl) fn234 rfl (jmp 0 (.d (.str s_)) rfl (jmp 1 (.d (.str prefix_)) rfl (Ps (Pr rfl (Wa rfl (Wa rfl (Wn (Ns (Ps ?_)))))))))
 refine Pr rfl (Wm rfl (Wm rfl ?_))
 refine w_scal (E := (fun y => [(.str y.1), (.bool y.2)])) h rfl sig252 (sc rfl (sc rfl (sn))) (fun y hy => sl_CutPrefix_ok _ _ y hy) (fun _ => rfl) (fun t8 h => ?_)
 refine w_extract_d rfl rfl rfl (w_extract_d rfl rfl rfl (Wa rfl (Wa rfl (Wn (Ns ?_)))))
 cases h; exact Pq rfl rfl
theorem ba_IndexByteString_ok (a0 : ByteArray) (a1 : Int) (r : Int) (h : ba_IndexByteString a0 a1 = some r) : callD C 273 [(.str a0), (.int .u8 a1)] = some [(.int .i64 r)] := by
 cases Option.some.inj h
 exact callD_ext rfl
theorem sl_IndexByte_ok (s_ : ByteArray) (c : Int) (r : Int) (h : sl_IndexByte s_ c = some r) : callD C 264 [(.str s_), (.int .u8 c)] = some [(.int .i64 r)] := by
 refine callD_at (ext0 _ _ rfl) fn264 rfl (jmp 0 (.d (.str s_)) rfl (jmp 1 (.d (.int .u8 c)) rfl (Ps (Pr rfl (Wa rfl (Wn (Ns (Ps (Pr rfl ?_)))))))))
 refine Wm rfl (Wm rfl ?_)
 refine w_dat (E := eI) h rfl sig273 rfl rfl (fun y hy => ba_IndexByteString_ok _ _ y hy) (fun t7 h => ?_)
 refine Wa rfl (Wn (Ns ?_))
 cases h; exact Pq rfl rfl
theorem sl_Index_ok (s_ : ByteArray) (substr : ByteArray) (r : Int) (h : sl_Index s_ substr = some r) : callD C 259 [(.str s_), (.str substr)] = some [(.int .i64 r)] := by
 refine callD_at (ext0 _ _ rfl) fn259 rfl (jmp 0 (.d (.str s_)) rfl (jmp 1 (.d (.str substr)) rfl (Ps (Pr rfl (Wa rfl (Wn (Ns (Ps (Pr rfl ?_)))))))))
 refine Wm rfl (w_len_s rfl (dsc ty9) rfl (Wa rfl (Wn (Ns (Ps (Pb (Ps (Pr rfl (Wm rfl ?_)))))))))
 refine Wc h rfl ?_ ?_ <;> intro _ h
 refine Wm rfl (Wk (Wk (Wk (Wt rfl rfl (Wa rfl (Wn (Ns (Ct (Ps ?_)))))))))
 refine Pr rfl (Wa rfl (Wn (Ns ?_)))
 cases h; exact Pq rfl rfl
 refine Wm rfl (Wm rfl (Wm rfl ?_))
 refine Wc h rfl ?_ ?_ <;> intro _ h
 refine Wf rfl rfl (Wa rfl (Wn (Ns (Ct (Ps (Pr rfl (Wa rfl (Wn (Ns ?_)))))))))
 cases h; exact Pq rfl rfl
 refine Wf rfl rfl (Wa rfl (Wn (Ns (Cf (Ps (Pr rfl (Wm rfl ?_)))))))
 refine Wc h rfl ?_ ?_ <;> intro _ h
 refine Wa rfl (Wn (Ns (Ct (Ps (Pr rfl (Wm rfl (Wm rfl ?_)))))))
 refine w_sidx h rfl ty9 rfl rfl (fun t29 h => ?_)
 refine w_scal (E := eI) h rfl sig264 (sc rfl (sc rfl (sn))) (fun y hy => sl_IndexByte_ok _ _ y hy) (fun _ => rfl) (fun t30 h => ?_)
 refine Wa rfl (Wn (Ns ?_))
 cases h; exact Pq rfl rfl
 refine Wa rfl (Wn (Ns (Cf (Ps (Pr rfl (Wm rfl (Wm rfl (w_len_s rfl (dsc ty9) rfl ?_))))))))
 refine Wc h rfl ?_ ?_ <;> intro _ h
 refine Wa rfl (Wn (Ns (Ct (Ps (Pr rfl (Wa rfl (Wn (Ns ?_))))))))
 cases h; exact Pq rfl rfl
 refine Wa rfl (Wn (Ns (Cf (Ps (Pr rfl (Wm rfl ?_))))))
 cases h
theorem sl_Cut_ok (s_ : ByteArray) (sep : ByteArray) (r : ByteArray × ByteArray × Bool) (h : sl_Cut s_ sep = some r) : callD C 257 [(.str s_), (.str sep)] = some [(.str r.1), (.str r.2.1), (.bool r.2.2)] := by
 refine callD_at (ext0 _ _ rfl) fn257 rfl (jmp 0 (.d (.str s_)) rfl (jmp 1 (.d (.str sep)) rfl (Ps (Pr rfl (Wa rfl (Wa rfl (Wa rfl (Wn (Ns ?_)))))))))
 refine Ps (Ps (Pr rfl (Wm rfl (Wm rfl ?_))))
 refine w_scal (E := eI) h rfl sig259 (sc rfl (sc rfl (sn))) (fun y hy => sl_Index_ok _ _ y hy) (fun _ => rfl) (fun t10 h => ?_)
 refine Wa rfl (Wn (Ns (Ps (Pr rfl (Wm rfl ?_)))))
 refine Wc h rfl ?_ ?_ <;> intro _ h
 refine Wn (Ns (Ct (Ps (p_calm rfl (by kernel_rfl) (Wm rfl (Wm rfl ?_))))))
 refine w_scut h rfl ty9 rfl (lh_nh) (fun t15 h => ?_)
 refine Wm rfl (Wm rfl (Wm rfl (w_len_s rfl (dsc ty9) rfl (Wb rfl ?_))))
 refine w_scut h rfl ty9 rfl (lh_ln) (fun t21 h => ?_)
 refine Wa rfl (Wa rfl (Wa rfl (Wn (Ns ?_))))
 cases h; exact Pq rfl rfl
 refine Wn (Ns (Cf (Pk (Nb (Nb (Nb (Ns (Ps (Pr rfl ?_)))))))))
 refine Wm rfl (Wa rfl (Wa rfl (Wa rfl (Wn (Ns ?_)))))
 cases h; exact Pq rfl rfl
theorem strings_Cut_ok (s_ : ByteArray) (sep : ByteArray) (r : ByteArray × ByteArray × Bool) (h : strings_Cut s_ sep = some r) : callD C 253 [(.str s_), (.str sep)] = some [(.str r.1), (.str r.2.1), (.bool r.2.2)] := by
 refine callD_at (ext0 _ _ rfl) fn253 rfl (jmp 0 (.d (.str s_)) rfl (jmp 1 (.d (.str sep)) rfl (Ps (Pr rfl (Wa rfl (Wa rfl (Wa rfl (Wn (Ns ?_)))))))))
 refine Ps (Pr rfl (Wm rfl (Wm rfl ?_)))
 refine w_scal (E := (fun y => [(.str y.1), (.str y.2.1), (.bool y.2.2)])) h rfl sig257 (sc rfl (sc rfl (sn))) (fun y hy => sl_Cut_ok _ _ y hy) (fun _ => rfl) (fun t9 h => ?_)
 refine w_extract_d rfl rfl rfl (w_extract_d rfl rfl rfl (w_extract_d rfl rfl rfl (Wa rfl (Wa rfl (Wa rfl (Wn (Ns ?_)))))))
 cases h; exact Pq rfl rfl
def lex_duration_L1_m (e0_unitF : ByteArray) (e0_worthF : Int) (e1_unitF : ByteArray) (e1_worthF : Int) (e2_unitF : ByteArray) (e2_worthF : Int) : lex_duration_L1_S → (Int × Bool) → Prop := fun st r => match st with
  | .c0 s_ v any t16 => ∀ (g : Nat → AV) (H : Hs) (n : Nat), PAt C (bodyOf Tryd.f235) (.a (.b (.a (.b (.b .o))))) ⟨upd (upd (upd (upd (upd g 0 (.d (.str s_))) 4 (.d (.int .i64 v))) 5 (.d (.bool any))) 15 (.agg [.d (.str e0_unitF), .d (.int .i64 e0_worthF), .d (.str e1_unitF), .d (.int .i64 e1_worthF), .d (.str e2_unitF), .d (.int .i64 e2_worthF)])) 16 (.d (.int .i64 t16)), H, n⟩ (PostD C Tryd.f235 [(.int .i64 r.1), (.bool r.2)])
  | .c1 s_ v any u head rest ok t16 => ∀ (b0 g H n) (hH : HP H n [.box b0 [.d (.str u.unit), .d (.int .i64 u.worth)]]), PAt C (bodyOf Tryd.f235) (.b (.b (.a (.a (.b (.b (.a (.a (.b (.a (.b (.b .o)))))))))))) ⟨upd (upd (upd (upd (upd (upd (upd (upd (upd g 0 (.d (.str s_))) 4 (.d (.int .i64 v))) 5 (.d (.bool any))) 7 (.pt b0 0)) 8 (.d (.str head))) 9 (.d (.str rest))) 10 (.d (.bool ok))) 15 (.agg [.d (.str e0_unitF), .d (.int .i64 e0_worthF), .d (.str e1_unitF), .d (.int .i64 e1_worthF), .d (.str e2_unitF), .d (.int .i64 e2_worthF)])) 16 (.d (.int .i64 t16)), H, n⟩ (PostD C Tryd.f235 [(.int .i64 r.1), (.bool r.2)])
  | .c2 v u rest ok n_ t16 => ∀ (b0 g H n) (hH : HP H n [.box b0 [.d (.str u.unit), .d (.int .i64 u.worth)]]), PAt C (bodyOf Tryd.f235) (.b (.b (.b (.b (.a (.a (.b (.b (.a (.a (.b (.a (.b (.b .o)))))))))))))) ⟨upd (upd (upd (upd (upd (upd (upd g 4 (.d (.int .i64 v))) 7 (.pt b0 0)) 9 (.d (.str rest))) 10 (.d (.bool ok))) 11 (.d (.int .i64 n_))) 15 (.agg [.d (.str e0_unitF), .d (.int .i64 e0_worthF), .d (.str e1_unitF), .d (.int .i64 e1_worthF), .d (.str e2_unitF), .d (.int .i64 e2_worthF)])) 16 (.d (.int .i64 t16)), H, n⟩ (PostD C Tryd.f235 [(.int .i64 r.1), (.bool r.2)])
  | .c3 s_ v any t16 => ∀ (g : Nat → AV) (H : Hs) (n : Nat), PAt C (bodyOf Tryd.f235) (.b (.b (.b (.a (.a (.b (.a (.b (.b .o))))))))) ⟨upd (upd (upd (upd (upd g 0 (.d (.str s_))) 4 (.d (.int .i64 v))) 5 (.d (.bool any))) 15 (.agg [.d (.str e0_unitF), .d (.int .i64 e0_worthF), .d (.str e1_unitF), .d (.int .i64 e1_worthF), .d (.str e2_unitF), .d (.int .i64 e2_worthF)])) 16 (.d (.int .i64 t16)), H, n⟩ (PostD C Tryd.f235 [(.int .i64 r.1), (.bool r.2)])
end Go.Proofs.YtdcpfmjnkcodiaaDoor.We
