/- The abstract machine computes these functions. Printed by decomp.py. -/
import Derived.Test.YtdcpfmjnkcodiaaDoorC2
namespace Go.Proofs.YtdcpfmjnkcodiaaDoor.We
open Go Go.Jv
set_option maxHeartbeats 4000000
open Go.Proofs
set_option maxHeartbeats 4000000
theorem r5_Room_Nodes_ok (nodes : LL NodeT) (stmts : LL StmtT) (tnexts : LL TNextT) (stages : LL TStageT) (groups : LL GroupT) (pairs : LL ConflictT) (dets : LL DetT) (vars : LL VarT) (texts : LL ByteArray) (e : List NodeT) (r : (List NodeT) × R9) (h : r5_Room_Nodes nodes stmts tnexts stages groups pairs dets vars texts e = some r) (be0 : Nat) (we1 : AV) (we2 : AV) (we3 : AV) (we4 : AV) (we5 : AV) (we6 : AV) (we7 : AV) (we8 : AV) (we9 : AV) (H : Hs) (n : Nat) (L : List Jv.Item) (hH : HP H n (.box be0 [we1, we2, we3, .nil, we4, .nil, we5, we6, we7, we8, .nil, we9, .nil, .nil, .nil, .nil, .nil] :: o22_1 we1 nodes :: o58_1 we2 stmts :: o194_1 we3 tnexts :: o93_1 we4 stages :: o86_1 we5 groups :: o87_1 we6 pairs :: o90_1 we7 dets :: o92_1 we8 vars :: o91_1 we9 texts :: L)) : Raw C 19 [.pt be0 0, .d (.lst (e.map NodeT.enc))] H n (fun rs H' n' => ∃ w'0 w'2 w'3 w'4 w'5 w'6 w'7 w'8 w'9 w'10 : AV, rs = [w'0] ∧ HP H' n' (.imm w'0 ⟨115, 5⟩ (r.1.map NodeT.enc) :: .box be0 [w'2, w'3, w'4, .nil, w'5, .nil, w'6, w'7, w'8, w'9, .nil, w'10, .nil, .nil, .nil, .nil, .nil] :: o22_1 w'2 r.2.1 :: o58_1 w'3 r.2.2.1 :: o194_1 w'4 r.2.2.2.1 :: o93_1 w'5 r.2.2.2.2.1 :: o86_1 w'6 r.2.2.2.2.2.1 :: o87_1 w'7 r.2.2.2.2.2.2.1 :: o90_1 w'8 r.2.2.2.2.2.2.2.1 :: o92_1 w'9 r.2.2.2.2.2.2.2.2.1 :: o91_1 w'10 r.2.2.2.2.2.2.2.2.2 :: L)) := by
 refine raw_at fn19 rfl (jmp 0 (.pt be0 0) rfl (jmp 1 (.d (.lst (e.map NodeT.enc))) rfl (Ps (Pr rfl (w_assign_v (.nil) rfl rfl (Wn (Ns (Ps (Pr rfl ?_)))))))))
 refine w_build (cs := [.d (.int .i64 4444), .d (.int .i32 0), .d (.str ⟨#[]⟩), .d (.int .i64 0), .d (.int .i64 0)]) rfl zero115 places115 rfl ?_
 refine alloc_z rfl zero115 hH (fun b7385 H' n' hH => ?_)
 refine w_store_b (new := [.d (.int .i64 4444), .d (.int .i32 0), .d (.str ⟨#[]⟩), .d (.int .i64 0), .d (.int .i64 0)]) rfl szg115 hH (i := 0) rfl rfl rfl rfl rfl (Nat.le_of_ble_eq_true rfl) (fun H' hH => ?_)
 refine Wn (Ns (Ps (p_fts (pz := [(1, 2), (1, 3), (2, 3), (1, 4)]) rfl rfl (by kernel_rfl) (by kernel_rfl) (x_op (v := .d (.lst (e.map NodeT.enc))) (noFt) rfl (o_move) ⟨rfl, rfl⟩ ?_))))
 have hH := hH.addNil (z := ⟨115, 5⟩)
 refine x_append (enc := NodeT.enc) (.d (.lst (e.map NodeT.enc))) h rfl elem22 szg115 bytes115 (by decide) (fun _ => rfl) hH (j := 0) rfl rfl rfl shows_d (fun t9 w7386 i6386 H' n6386 h hH hoff6386 hn6386 hi6386 => ?_)
 have hof6386_0 := hoff6386.box (k := 0) rfl
 have hof6386_1 := hoff6386.box (k := 1) rfl
 have hof6386_2 := hoff6386.own (k := 2) rfl
 have hof6386_3 := hoff6386.own (k := 3) rfl
 have hof6386_4 := hoff6386.own (k := 4) rfl
 have hof6386_5 := hoff6386.own (k := 5) rfl
 have hof6386_6 := hoff6386.own (k := 6) rfl
 have hof6386_7 := hoff6386.own (k := 7) rfl
 have hof6386_8 := hoff6386.own (k := 8) rfl
 have hof6386_9 := hoff6386.own (k := 9) rfl
 have hof6386_10 := hoff6386.own (k := 10) rfl
 have hof6386 := hoff6386.2
 clear hoff6386
 refine x_op (v := .agg [.d (.int .i64 4444), .d (.int .i32 0), .d (.str ⟨#[]⟩), .d (.int .i64 0), .d (.int .i64 0)]) (.of [b7385] []) rfl (o_load_b szg115 hH (i := 1) rfl rfl rfl) ⟨rfl, rfl⟩ (x_op (v := .agg [.d (.int .i64 4444), .d (.int .i32 0), .d (.str ⟨#[]⟩), .d (.int .i64 0), .d (.int .i64 0)]) (.of [b7385] []) rfl (o_load_b szg115 hH (i := 1) rfl rfl rfl) ⟨rfl, rfl⟩ ?_)
 refine x_bslice (enc := NodeT.enc) (xs := [(⟨4444, 0, ⟨#[]⟩, (⟨0, 0⟩ : PosT)⟩ : NodeT), (⟨4444, 0, ⟨#[]⟩, (⟨0, 0⟩ : PosT)⟩ : NodeT)]) [.agg [.d (.int .i64 4444), .d (.int .i32 0), .d (.str ⟨#[]⟩), .d (.int .i64 0), .d (.int .i64 0)], .agg [.d (.int .i64 4444), .d (.int .i32 0), .d (.str ⟨#[]⟩), .d (.int .i64 0), .d (.int .i64 0)]] rfl elem22 szg115 zero115 ⟨by decide, Nat.le_of_ble_eq_true rfl⟩ zd115 (fun _ => rfl) (fun _ => rfl) rfl rfl rfl hH (fun w7387 i6387 H' n6387 hH hoff6387 hn6387 hi6387 => ?_)
 have hof6387_0 := hoff6387.own (k := 0) rfl
 have hof6387_1 := hoff6387.box (k := 1) rfl
 have hof6387_2 := hoff6387.box (k := 2) rfl
 have hof6387_3 := hoff6387.own (k := 3) rfl
 have hof6387_4 := hoff6387.own (k := 4) rfl
 have hof6387_5 := hoff6387.own (k := 5) rfl
 have hof6387_6 := hoff6387.own (k := 6) rfl
 have hof6387_7 := hoff6387.own (k := 7) rfl
 have hof6387_8 := hoff6387.own (k := 8) rfl
 have hof6387_9 := hoff6387.own (k := 9) rfl
 have hof6387_10 := hoff6387.own (k := 10) rfl
 have hof6387_11 := hoff6387.own (k := 11) rfl
 have hof6387 := hoff6387.2
 clear hoff6387
 refine x_append (enc := NodeT.enc) (w7387) h rfl elem22 szg115 bytes115 (by decide) (fun _ => rfl) hH (j := 1) rfl rfl rfl (shows_own hH (j := 0) rfl) (fun t13 w7388 i6388 H' n6388 h hH hoff6388 hn6388 hi6388 => ?_)
 have hof6388_0 := hoff6388.own (k := 0) rfl
 have hof6388_1 := hoff6388.box (k := 1) rfl
 have hof6388_2 := hoff6388.box (k := 2) rfl
 have hof6388_3 := hoff6388.own (k := 3) rfl
 have hof6388_4 := hoff6388.own (k := 4) rfl
 have hof6388_5 := hoff6388.own (k := 5) rfl
 have hof6388_6 := hoff6388.own (k := 6) rfl
 have hof6388_7 := hoff6388.own (k := 7) rfl
 have hof6388_8 := hoff6388.own (k := 8) rfl
 have hof6388_9 := hoff6388.own (k := 9) rfl
 have hof6388_10 := hoff6388.own (k := 10) rfl
 have hof6388_11 := hoff6388.own (k := 11) rfl
 have hof6388 := hoff6388.2
 clear hoff6388
 refine x_op (v := w7388) (noFt) rfl (o_assign) ⟨rfl, rfl⟩ (x_nil (n := 7) rfl (pkc 5 4 rfl rfl rfl rfl (nc_of (by grind [idOf]) (by grind [idOf]) (by grind [idOf])) (pkc 5 3 rfl rfl rfl rfl (nc_of (by grind [idOf]) (by grind [idOf]) (by grind [idOf])) (pkc 4 3 rfl rfl rfl rfl nc_rr (pkc 5 2 rfl rfl rfl rfl (nc_of (by grind [idOf]) (by grind [idOf]) (by grind [idOf])) (pkn))))) (Ns (Ps (Pr rfl (w_move_v (.pt be0 0) rfl rfl (w_move_v (.pt be0 0) rfl rfl (Wq rfl (Fb fo49_0 (by decide) rfl 0 rfl (w_load_b (v := we1) rfl szg31 hH (i := 3) rfl rfl rfl ?_)))))))))
 refine w_move_v (w7388) rfl rfl ?_
 refine w_bslice1 (enc := (eL NodeT.enc)) (e := t13) (w7388) rfl elem31 szg22 zero22 (by decide) zd22 (fun _ => rfl) (fun _ => rfl) rfl (FS.own hH (j := 0) rfl (fun _ hH => FS.nil hH)) (fun w7389 H' n' hH => ?_)
 refine w_append (enc := (eL NodeT.enc)) h rfl elem31 szg22 bytes22 (by decide) (fun _ => rfl) hH (j := 5) rfl rfl (shows_own hH (j := 0) rfl) (fun t21 w7390 H' n' h hH => ?_)
 refine Wq rfl (Fb fo49_0 (by decide) rfl 0 rfl ?_)
 refine w_store_b1 w7390 rfl szg31 hH (i := 5) rfl rfl rfl (hH.okOwn (j := 0) rfl).2 (hH.okOwn (j := 0) rfl).1 (Nat.le_of_ble_eq_true rfl) (fun H' hH => ?_)
 refine Wn (Ns (Ps (Pr rfl (w_move_v (w7388) rfl rfl (Wm rfl (w_len_d elem22 rfl ?_))))))
 refine w_cut_imm h rfl elem22 szg115 hH (j := 2) rfl rfl (lh_nh) (fun t27 w7391 h hH => ?_)
 refine w_assign_v (w7391) rfl rfl (Wn (Ns ?_))
 refine Pt (Cr ?_)
 cases h
 exact prF (.inl rfl) (ra_tmp (w7391) rfl (ra_nil)) ⟨w7391, w7390, we2, we3, we4, we5, we6, we7, we8, we9, rfl, (hH.selG 15 [0, 6, 1, 7, 8, 9, 10, 11, 12, 13, 14] (by decide) (by decide) (gc rfl (gc rfl (gc rfl (gc rfl (gc rfl (gc rfl (gc rfl (gc rfl (gc rfl (gc rfl (gc rfl (gt rfl)))))))))))))⟩
def r5_SameNodes_L1_M (a : List NodeT) (b : List NodeT) (i : Int) (r : Bool) : Prop := ∀ (g : Nat → AV) (H : Hs) (n : Nat), PAt C (bodyOf Tryd.f26) (.a (.b (.a (.b (.b .o))))) ⟨upd (upd (upd g 0 (.d (.lst (a.map NodeT.enc)))) 1 (.d (.lst (b.map NodeT.enc)))) 5 (.d (.int .i64 i)), H, n⟩ (PostD C Tryd.f26 [(.bool r)])
theorem r5_SameNodes_L1_ok (a : List NodeT) (b : List NodeT) (i : Int) (r : Bool) (h : r5_SameNodes_L1 a b i = some r) : r5_SameNodes_L1_M a b i r := by
 refine r5_SameNodes_L1.partial_correctness a b (fun i r => r5_SameNodes_L1_M a b i r) (fun r5_SameNodes_L1 ih_r5_SameNodes_L1 i r h g H n => ?_) i r h
 refine Po (Ps (Ps (Pr rfl (Wm rfl (Wm rfl (w_len_d elem22 rfl ?_))))))
 refine Wc h rfl ?_ ?_ <;> intro _ h
 refine Wn (Ns (Ct (Pk (Nc (Nb (Ns (Ps (Pb (Ps ?_)))))))))
 refine p_calm rfl (by kernel_rfl) (Wm rfl (Wm rfl ?_))
 refine w_idx h rfl elem22 szg115 (fun _ => rfl) rfl rfl (fun t19 h => ?_)
 refine w_load_d (d := (NodeT.enc t19)) szg115 rfl rfl (Wm rfl (Wm rfl ?_))
 refine w_idx h rfl elem22 szg115 (fun _ => rfl) rfl rfl (fun t23 h => ?_)
 refine w_load_d (d := (NodeT.enc t23)) szg115 rfl rfl ?_
 refine w_split (b := (!(decide (t19.Op = t23.Op) && (decide (t19.Val = t23.Val) && (decide (t19.Name = t23.Name) && (decide (t19.At.Line = t23.At.Line) && (decide (t19.At.Col = t23.At.Col) && true))))))) h rfl (o_neqS isst115 eqs115 rfl rfl rfl) rfl (fun _ => ⟨rfl, rfl⟩) (fun _ h => ?_) (fun _ h => ?_)
 refine Wn (Ns (Ct (Ps (Pr rfl (Wa rfl (Wn (Ns ?_)))))))
 cases h; exact Pq rfl rfl
 refine Wn (Ns (Cf (Pk (Nb (Nb (Nk (Ns (Pr rfl (Wm rfl ?_)))))))))
 refine Wb rfl (Wa rfl (Wn (Nb (Nb (Nl ?_)))))
 exact jm 0 (jm 1 (jm 5 (ih_r5_SameNodes_L1 _ _ h _ _ _)))
 refine Wn (Ns (Cf (Px rfl (Nb (Nb (Xs (Xl (Xb (Nb ?_)))))))))
 refine Ns (Ps (Pr rfl (Wa rfl (Wn (Ns ?_)))))
 cases h; exact Pq rfl rfl
theorem r5_SameNodes_ok (a : List NodeT) (b : List NodeT) (r : Bool) (h : r5_SameNodes a b = some r) : callD C 26 [(.lst (a.map NodeT.enc)), (.lst (b.map NodeT.enc))] = some [(.bool r)] := by
 refine callD_at (ext0 _ _ rfl) fn26 rfl (jmp 0 (.d (.lst (a.map NodeT.enc))) rfl (jmp 1 (.d (.lst (b.map NodeT.enc))) rfl (Ps (Pr rfl (Wa rfl (Wn (Ns (Ps (Ps ?_)))))))))
 refine Pr rfl (Wm rfl (w_len_d elem22 rfl (Wm rfl (w_len_d elem22 rfl ?_))))
 refine Wd h rfl ?_ ?_ <;> intro _ h
 refine Wn (Ns (Cf (Pk (Nb (Nb (Ns (Ps (Ps (Pr rfl ?_)))))))))
 refine Wa rfl (Wn (Ns (Pb ?_)))
 exact jm 0 (jm 1 (jm 5 (r5_SameNodes_L1_ok _ _ _ _ h _ _ _)))
 refine Wn (Ns (Ct (Ps (Pr rfl (Wa rfl (Wn (Ns ?_)))))))
 cases h; exact Pq rfl rfl
theorem r5_Room_plans_L6_ok (nodes : LL NodeT) (stmts : LL StmtT) (tnexts : LL TNextT) (stages : LL TStageT) (groups : LL GroupT) (pairs : LL ConflictT) (dets : LL DetT) (vars : LL VarT) (texts : LL ByteArray) (i : Int) (r : Bool × R9) (h : r5_Room_plans_L6 nodes stmts tnexts stages groups pairs dets vars texts i = some r) (w1 w2 w3 w4 w5 w6 w7 w8 w9 be0 L g H n) (hH : HP H n (.box be0 [w1, w2, w3, .nil, w4, .nil, w5, w6, w7, w8, .nil, w9, .nil, .nil, .nil, .nil, .nil] :: o22_1 w1 nodes :: o58_1 w2 stmts :: o194_1 w3 tnexts :: o93_1 w4 stages :: o86_1 w5 groups :: o87_1 w6 pairs :: o90_1 w7 dets :: o92_1 w8 vars :: o91_1 w9 texts :: L)) : PAt C (bodyOf Tryd.f81) (.a (.b (.a (.b (.b (.b (.b (.b (.b .o))))))))) ⟨upd (upd g 0 (.pt be0 0)) 13 (.d (.int .i64 i)), H, n⟩ (PostR C Tryd.f81 (fun rs H' n' => ∃ w'1 w'2 w'3 w'4 w'5 w'6 w'7 w'8 w'9 : AV, rs = [.d (.bool r.1)] ∧ HP H' n' (.box be0 [w'1, w'2, w'3, .nil, w'4, .nil, w'5, w'6, w'7, w'8, .nil, w'9, .nil, .nil, .nil, .nil, .nil] :: o22_1 w'1 r.2.1 :: o58_1 w'2 r.2.2.1 :: o194_1 w'3 r.2.2.2.1 :: o93_1 w'4 r.2.2.2.2.1 :: o86_1 w'5 r.2.2.2.2.2.1 :: o87_1 w'6 r.2.2.2.2.2.2.1 :: o90_1 w'7 r.2.2.2.2.2.2.2.1 :: o92_1 w'8 r.2.2.2.2.2.2.2.2.1 :: o91_1 w'9 r.2.2.2.2.2.2.2.2.2 :: L))) := by
 refine Po (Ps (Ps (Pr rfl (Wm rfl (w_move_v (.pt be0 0) rfl rfl (Wq rfl (Fb fo49_5 (by decide) rfl 5 rfl (w_load_b (v := .nil) rfl szg36 hH (i := 0) rfl rfl rfl (w_len_n rfl elem36 rfl ?_)))))))))
 refine Wc h rfl ?_ ?_ <;> intro _ h
 refine Wn (Ns (Ct (Pk (Nc (Nb (Ns (Ps (Pb (Ps ?_)))))))))
 refine Pr rfl (w_move_v (.pt be0 0) rfl rfl (Wq rfl (Fb fo49_5 (by decide) rfl 5 rfl (w_load_b (v := .nil) rfl szg36 hH (i := 0) rfl rfl rfl (Wm rfl ?_)))))
 cases h
 refine Wn (Ns (Cf (Px rfl (Nb (Nb (Xs (Xl (Xb (Nb ?_)))))))))
 refine Ns (Ps (Pr rfl (Wa rfl (Wn (Ns ?_)))))
 refine Pt (Cr ?_)
 cases h
 exact prF (.inl rfl) (ra_tmp (.d (.bool true)) rfl (ra_nil)) ⟨w1, w2, w3, w4, w5, w6, w7, w8, w9, rfl, hH⟩
def r5_Room_plans_L5_M (nodes : LL NodeT) (stmts : LL StmtT) (tnexts : LL TNextT) (stages : LL TStageT) (groups : LL GroupT) (pairs : LL ConflictT) (dets : LL DetT) (vars : LL VarT) (texts : LL ByteArray) (i : Int) (r : Bool × R9) : Prop := ∀ (w1 w2 w3 w4 w5 w6 w7 w8 w9 be0 L g H n) (hH : HP H n (.box be0 [w1, w2, w3, .nil, w4, .nil, w5, w6, w7, w8, .nil, w9, .nil, .nil, .nil, .nil, .nil] :: o22_1 w1 nodes :: o58_1 w2 stmts :: o194_1 w3 tnexts :: o93_1 w4 stages :: o86_1 w5 groups :: o87_1 w6 pairs :: o90_1 w7 dets :: o92_1 w8 vars :: o91_1 w9 texts :: L)), PAt C (bodyOf Tryd.f81) (.a (.b (.a (.b (.b (.b (.b (.b .o)))))))) ⟨upd (upd g 0 (.pt be0 0)) 11 (.d (.int .i64 i)), H, n⟩ (PostR C Tryd.f81 (fun rs H' n' => ∃ w'1 w'2 w'3 w'4 w'5 w'6 w'7 w'8 w'9 : AV, rs = [.d (.bool r.1)] ∧ HP H' n' (.box be0 [w'1, w'2, w'3, .nil, w'4, .nil, w'5, w'6, w'7, w'8, .nil, w'9, .nil, .nil, .nil, .nil, .nil] :: o22_1 w'1 r.2.1 :: o58_1 w'2 r.2.2.1 :: o194_1 w'3 r.2.2.2.1 :: o93_1 w'4 r.2.2.2.2.1 :: o86_1 w'5 r.2.2.2.2.2.1 :: o87_1 w'6 r.2.2.2.2.2.2.1 :: o90_1 w'7 r.2.2.2.2.2.2.2.1 :: o92_1 w'8 r.2.2.2.2.2.2.2.2.1 :: o91_1 w'9 r.2.2.2.2.2.2.2.2.2 :: L)))
theorem r5_Room_plans_L5_ok (nodes : LL NodeT) (stmts : LL StmtT) (tnexts : LL TNextT) (stages : LL TStageT) (groups : LL GroupT) (pairs : LL ConflictT) (dets : LL DetT) (vars : LL VarT) (texts : LL ByteArray) (i : Int) (r : Bool × R9) (h : r5_Room_plans_L5 nodes stmts tnexts stages groups pairs dets vars texts i = some r) : r5_Room_plans_L5_M nodes stmts tnexts stages groups pairs dets vars texts i r := by
 refine r5_Room_plans_L5.partial_correctness nodes stmts tnexts stages groups pairs dets vars texts (fun i r => r5_Room_plans_L5_M nodes stmts tnexts stages groups pairs dets vars texts i r) (fun r5_Room_plans_L5 ih_r5_Room_plans_L5 i r h w1 w2 w3 w4 w5 w6 w7 w8 w9 be0 L g H n hH => ?_) i r h
 refine Po (Ps (Ps (Pr rfl (Wm rfl (w_move_v (.pt be0 0) rfl rfl (Wq rfl (Fb fo49_4 (by decide) rfl 4 rfl (w_load_b (v := w4) rfl szg35 hH (i := 0) rfl rfl rfl (w_len_own rfl elem35 hH (j := 4) rfl rfl ?_)))))))))
 refine Wc h rfl ?_ ?_ <;> intro _ h
 refine Wn (Ns (Ct (Pk (Nc (Nb (Ns (Ps (Pb (Ps ?_)))))))))
 refine Pr rfl (w_move_v (.pt be0 0) rfl rfl (Wq rfl (Fb fo49_4 (by decide) rfl 4 rfl (w_load_b (v := w4) rfl szg35 hH (i := 0) rfl rfl rfl (Wm rfl ?_)))))
 refine w_idx_own h rfl elem35 szg93 hH (j := 4) rfl rfl rfl (fun i6408 t165 h hl6408 hv6408 => ?_)
 refine w_load_e rfl szg93 hH (j := 4) rfl hl6408 rfl hv6408 rfl (Wa rfl (Wn (Ns (Ps (Pr rfl (Wm rfl (Wm rfl (w_len_d elem93 rfl (Wb rfl ?_)))))))))
 refine w_idx h rfl elem93 szg196 (fun _ => rfl) rfl rfl (fun t171 h => ?_)
 refine w_faddr_d rfl fo196_1 (by decide) rfl (w_load_d szg3 rfl rfl ?_)
 refine Wd h rfl ?_ ?_ <;> intro _ h
 refine Wm rfl (Wm rfl (Wm rfl (w_len_d elem93 rfl (Wb rfl ?_))))
 refine w_idx h rfl elem93 szg196 (fun _ => rfl) rfl rfl (fun t180 h => ?_)
 refine w_faddr_d rfl fo196_1 (by decide) rfl (w_load_d szg3 rfl rfl ?_)
 refine Wd h rfl ?_ ?_ <;> intro _ h
 refine Wf rfl rfl (Wn (Ns (Cf (Pk (Nb (Nb (Nb (Nk (Ns ?_)))))))))
 refine Pr rfl (Wm rfl (Wb rfl (Wa rfl (Wn (Nb (Nb (Nl ?_)))))))
 exact jm 0 (jm 11 (ih_r5_Room_plans_L5 _ _ h w1 w2 w3 w4 w5 w6 w7 w8 w9 _ _ _ _ _ hH))
 refine Wf rfl rfl (Wn (Ns (Ct (Ps (Pr rfl (Wa rfl (Wn (Ns ?_))))))))
 refine Pt (Cr ?_)
 cases h
 exact prF (.inl rfl) (ra_tmp (.d (.bool false)) rfl (ra_nil)) ⟨w1, w2, w3, w4, w5, w6, w7, w8, w9, rfl, hH⟩
 refine Wm rfl (Wk (Wk (Wk (Wk (Wk (Wk (Wk (Wk (Wt rfl rfl ?_)))))))))
 refine Wn (Ns (Ct (Ps (Pr rfl (Wa rfl (Wn (Ns ?_)))))))
 refine Pt (Cr ?_)
 cases h
 exact prF (.inl rfl) (ra_tmp (.d (.bool false)) rfl (ra_nil)) ⟨w1, w2, w3, w4, w5, w6, w7, w8, w9, rfl, hH⟩
 refine Wn (Ns (Cf (Px rfl (Nb (Nb (Xs (Xl (Xb (Nb ?_)))))))))
 refine Ns (Ps (Ps (Pr rfl (Wa rfl (Wn (Ns (Pb ?_)))))))
 exact jm 0 (jm 13 (r5_Room_plans_L6_ok _ _ _ _ _ _ _ _ _ _ _ h w1 w2 w3 w4 w5 w6 w7 w8 w9 _ _ _ _ _ hH))
theorem r5_Room_plans_L4_ok (nodes : LL NodeT) (stmts : LL StmtT) (tnexts : LL TNextT) (stages : LL TStageT) (groups : LL GroupT) (pairs : LL ConflictT) (dets : LL DetT) (vars : LL VarT) (texts : LL ByteArray) (i : Int) (r : Bool × R9) (h : r5_Room_plans_L4 nodes stmts tnexts stages groups pairs dets vars texts i = some r) (w1 w2 w3 w4 w5 w6 w7 w8 w9 be0 L g H n) (hH : HP H n (.box be0 [w1, w2, w3, .nil, w4, .nil, w5, w6, w7, w8, .nil, w9, .nil, .nil, .nil, .nil, .nil] :: o22_1 w1 nodes :: o58_1 w2 stmts :: o194_1 w3 tnexts :: o93_1 w4 stages :: o86_1 w5 groups :: o87_1 w6 pairs :: o90_1 w7 dets :: o92_1 w8 vars :: o91_1 w9 texts :: L)) : PAt C (bodyOf Tryd.f81) (.a (.b (.a (.b (.b (.b (.b .o))))))) ⟨upd (upd g 0 (.pt be0 0)) 9 (.d (.int .i64 i)), H, n⟩ (PostR C Tryd.f81 (fun rs H' n' => ∃ w'1 w'2 w'3 w'4 w'5 w'6 w'7 w'8 w'9 : AV, rs = [.d (.bool r.1)] ∧ HP H' n' (.box be0 [w'1, w'2, w'3, .nil, w'4, .nil, w'5, w'6, w'7, w'8, .nil, w'9, .nil, .nil, .nil, .nil, .nil] :: o22_1 w'1 r.2.1 :: o58_1 w'2 r.2.2.1 :: o194_1 w'3 r.2.2.2.1 :: o93_1 w'4 r.2.2.2.2.1 :: o86_1 w'5 r.2.2.2.2.2.1 :: o87_1 w'6 r.2.2.2.2.2.2.1 :: o90_1 w'7 r.2.2.2.2.2.2.2.1 :: o92_1 w'8 r.2.2.2.2.2.2.2.2.1 :: o91_1 w'9 r.2.2.2.2.2.2.2.2.2 :: L))) := by
 refine Po (Ps (Ps (Pr rfl (Wm rfl (w_move_v (.pt be0 0) rfl rfl (Wq rfl (Fb fo49_3 (by decide) rfl 3 rfl (w_load_b (v := .nil) rfl szg34 hH (i := 0) rfl rfl rfl (w_len_n rfl elem34 rfl ?_)))))))))
 refine Wc h rfl ?_ ?_ <;> intro _ h
 refine Wn (Ns (Ct (Pk (Nc (Nb (Ns (Ps (Pb (Ps ?_)))))))))
 refine Pr rfl (w_move_v (.pt be0 0) rfl rfl (Wq rfl (Fb fo49_3 (by decide) rfl 3 rfl (w_load_b (v := .nil) rfl szg34 hH (i := 0) rfl rfl rfl (Wm rfl ?_)))))
 cases h
 refine Wn (Ns (Cf (Px rfl (Nb (Nb (Xs (Xl (Xb (Nb ?_)))))))))
 refine Ns (Ps (Ps (Pr rfl (Wa rfl (Wn (Ns (Pb ?_)))))))
 exact jm 0 (jm 11 (r5_Room_plans_L5_ok _ _ _ _ _ _ _ _ _ _ _ h w1 w2 w3 w4 w5 w6 w7 w8 w9 _ _ _ _ _ hH))
def r5_Room_plans_L3_M (nodes : LL NodeT) (stmts : LL StmtT) (tnexts : LL TNextT) (stages : LL TStageT) (groups : LL GroupT) (pairs : LL ConflictT) (dets : LL DetT) (vars : LL VarT) (texts : LL ByteArray) (i : Int) (r : Bool × R9) : Prop := ∀ (w1 w2 w3 w4 w5 w6 w7 w8 w9 be0 L g H n) (hH : HP H n (.box be0 [w1, w2, w3, .nil, w4, .nil, w5, w6, w7, w8, .nil, w9, .nil, .nil, .nil, .nil, .nil] :: o22_1 w1 nodes :: o58_1 w2 stmts :: o194_1 w3 tnexts :: o93_1 w4 stages :: o86_1 w5 groups :: o87_1 w6 pairs :: o90_1 w7 dets :: o92_1 w8 vars :: o91_1 w9 texts :: L)), PAt C (bodyOf Tryd.f81) (.a (.b (.a (.b (.b (.b .o)))))) ⟨upd (upd g 0 (.pt be0 0)) 7 (.d (.int .i64 i)), H, n⟩ (PostR C Tryd.f81 (fun rs H' n' => ∃ w'1 w'2 w'3 w'4 w'5 w'6 w'7 w'8 w'9 : AV, rs = [.d (.bool r.1)] ∧ HP H' n' (.box be0 [w'1, w'2, w'3, .nil, w'4, .nil, w'5, w'6, w'7, w'8, .nil, w'9, .nil, .nil, .nil, .nil, .nil] :: o22_1 w'1 r.2.1 :: o58_1 w'2 r.2.2.1 :: o194_1 w'3 r.2.2.2.1 :: o93_1 w'4 r.2.2.2.2.1 :: o86_1 w'5 r.2.2.2.2.2.1 :: o87_1 w'6 r.2.2.2.2.2.2.1 :: o90_1 w'7 r.2.2.2.2.2.2.2.1 :: o92_1 w'8 r.2.2.2.2.2.2.2.2.1 :: o91_1 w'9 r.2.2.2.2.2.2.2.2.2 :: L)))
theorem r5_Room_plans_L3_ok (nodes : LL NodeT) (stmts : LL StmtT) (tnexts : LL TNextT) (stages : LL TStageT) (groups : LL GroupT) (pairs : LL ConflictT) (dets : LL DetT) (vars : LL VarT) (texts : LL ByteArray) (i : Int) (r : Bool × R9) (h : r5_Room_plans_L3 nodes stmts tnexts stages groups pairs dets vars texts i = some r) : r5_Room_plans_L3_M nodes stmts tnexts stages groups pairs dets vars texts i r := by
 refine r5_Room_plans_L3.partial_correctness nodes stmts tnexts stages groups pairs dets vars texts (fun i r => r5_Room_plans_L3_M nodes stmts tnexts stages groups pairs dets vars texts i r) (fun r5_Room_plans_L3 ih_r5_Room_plans_L3 i r h w1 w2 w3 w4 w5 w6 w7 w8 w9 be0 L g H n hH => ?_) i r h
 refine Po (Ps (Ps (Pr rfl (Wm rfl (w_move_v (.pt be0 0) rfl rfl (Wq rfl (Fb fo49_2 (by decide) rfl 2 rfl (w_load_b (v := w3) rfl szg33 hH (i := 0) rfl rfl rfl (w_len_own rfl elem33 hH (j := 3) rfl rfl ?_)))))))))
 refine Wc h rfl ?_ ?_ <;> intro _ h
 refine Wn (Ns (Ct (Pk (Nc (Nb (Ns (Ps (Pb (Ps ?_)))))))))
 refine Pr rfl (w_move_v (.pt be0 0) rfl rfl (Wq rfl (Fb fo49_2 (by decide) rfl 2 rfl (w_load_b (v := w3) rfl szg33 hH (i := 0) rfl rfl rfl (Wm rfl ?_)))))
 refine w_idx_own h rfl elem33 szg194 hH (j := 3) rfl rfl rfl (fun i6407 t97 h hl6407 hv6407 => ?_)
 refine w_load_e rfl szg194 hH (j := 3) rfl hl6407 rfl hv6407 rfl (Wa rfl (Wn (Ns (Ps (Pr rfl (Wm rfl (Wm rfl (w_len_d elem194 rfl (Wb rfl ?_)))))))))
 refine w_idx h rfl elem194 szg198 (fun _ => rfl) rfl rfl (fun t103 h => ?_)
 refine w_faddr_d rfl fo198_0 (by decide) rfl (w_load_d szg3 rfl rfl ?_)
 refine Wd h rfl ?_ ?_ <;> intro _ h
 refine Wm rfl (Wm rfl (Wm rfl (w_len_d elem194 rfl (Wb rfl ?_))))
 refine w_idx h rfl elem194 szg198 (fun _ => rfl) rfl rfl (fun t112 h => ?_)
 refine w_faddr_d rfl fo198_0 (by decide) rfl (w_load_d szg3 rfl rfl ?_)
 refine Wd h rfl ?_ ?_ <;> intro _ h
 refine Wf rfl rfl (Wn (Ns (Cf (Pk (Nb (Nb (Nb (Nk (Ns ?_)))))))))
 refine Pr rfl (Wm rfl (Wb rfl (Wa rfl (Wn (Nb (Nb (Nl ?_)))))))
 exact jm 0 (jm 7 (ih_r5_Room_plans_L3 _ _ h w1 w2 w3 w4 w5 w6 w7 w8 w9 _ _ _ _ _ hH))
 refine Wf rfl rfl (Wn (Ns (Ct (Ps (Pr rfl (Wa rfl (Wn (Ns ?_))))))))
 refine Pt (Cr ?_)
 cases h
 exact prF (.inl rfl) (ra_tmp (.d (.bool false)) rfl (ra_nil)) ⟨w1, w2, w3, w4, w5, w6, w7, w8, w9, rfl, hH⟩
 refine Wm rfl (Wk (Wk (Wk (Wk (Wk (Wk (Wk (Wk (Wt rfl rfl ?_)))))))))
 refine Wn (Ns (Ct (Ps (Pr rfl (Wa rfl (Wn (Ns ?_)))))))
 refine Pt (Cr ?_)
 cases h
 exact prF (.inl rfl) (ra_tmp (.d (.bool false)) rfl (ra_nil)) ⟨w1, w2, w3, w4, w5, w6, w7, w8, w9, rfl, hH⟩
 refine Wn (Ns (Cf (Px rfl (Nb (Nb (Xs (Xl (Xb (Nb ?_)))))))))
 refine Ns (Ps (Ps (Pr rfl (Wa rfl (Wn (Ns (Pb ?_)))))))
 exact jm 0 (jm 9 (r5_Room_plans_L4_ok _ _ _ _ _ _ _ _ _ _ _ h w1 w2 w3 w4 w5 w6 w7 w8 w9 _ _ _ _ _ hH))
def r5_Room_plans_L2_M (nodes : LL NodeT) (stmts : LL StmtT) (tnexts : LL TNextT) (stages : LL TStageT) (groups : LL GroupT) (pairs : LL ConflictT) (dets : LL DetT) (vars : LL VarT) (texts : LL ByteArray) (i : Int) (r : Bool × R9) : Prop := ∀ (w1 w2 w3 w4 w5 w6 w7 w8 w9 be0 L g H n) (hH : HP H n (.box be0 [w1, w2, w3, .nil, w4, .nil, w5, w6, w7, w8, .nil, w9, .nil, .nil, .nil, .nil, .nil] :: o22_1 w1 nodes :: o58_1 w2 stmts :: o194_1 w3 tnexts :: o93_1 w4 stages :: o86_1 w5 groups :: o87_1 w6 pairs :: o90_1 w7 dets :: o92_1 w8 vars :: o91_1 w9 texts :: L)), PAt C (bodyOf Tryd.f81) (.a (.b (.a (.b (.b .o))))) ⟨upd (upd g 0 (.pt be0 0)) 5 (.d (.int .i64 i)), H, n⟩ (PostR C Tryd.f81 (fun rs H' n' => ∃ w'1 w'2 w'3 w'4 w'5 w'6 w'7 w'8 w'9 : AV, rs = [.d (.bool r.1)] ∧ HP H' n' (.box be0 [w'1, w'2, w'3, .nil, w'4, .nil, w'5, w'6, w'7, w'8, .nil, w'9, .nil, .nil, .nil, .nil, .nil] :: o22_1 w'1 r.2.1 :: o58_1 w'2 r.2.2.1 :: o194_1 w'3 r.2.2.2.1 :: o93_1 w'4 r.2.2.2.2.1 :: o86_1 w'5 r.2.2.2.2.2.1 :: o87_1 w'6 r.2.2.2.2.2.2.1 :: o90_1 w'7 r.2.2.2.2.2.2.2.1 :: o92_1 w'8 r.2.2.2.2.2.2.2.2.1 :: o91_1 w'9 r.2.2.2.2.2.2.2.2.2 :: L)))
theorem r5_Room_plans_L2_ok (nodes : LL NodeT) (stmts : LL StmtT) (tnexts : LL TNextT) (stages : LL TStageT) (groups : LL GroupT) (pairs : LL ConflictT) (dets : LL DetT) (vars : LL VarT) (texts : LL ByteArray) (i : Int) (r : Bool × R9) (h : r5_Room_plans_L2 nodes stmts tnexts stages groups pairs dets vars texts i = some r) : r5_Room_plans_L2_M nodes stmts tnexts stages groups pairs dets vars texts i r := by
 refine r5_Room_plans_L2.partial_correctness nodes stmts tnexts stages groups pairs dets vars texts (fun i r => r5_Room_plans_L2_M nodes stmts tnexts stages groups pairs dets vars texts i r) (fun r5_Room_plans_L2 ih_r5_Room_plans_L2 i r h w1 w2 w3 w4 w5 w6 w7 w8 w9 be0 L g H n hH => ?_) i r h
 refine Po (Ps (Ps (Pr rfl (Wm rfl (w_move_v (.pt be0 0) rfl rfl (Wq rfl (Fb fo49_1 (by decide) rfl 1 rfl (w_load_b (v := w2) rfl szg32 hH (i := 0) rfl rfl rfl (w_len_own rfl elem32 hH (j := 2) rfl rfl ?_)))))))))
 refine Wc h rfl ?_ ?_ <;> intro _ h
 refine Wn (Ns (Ct (Pk (Nc (Nb (Ns (Ps (Pb (Ps ?_)))))))))
 refine Pr rfl (w_move_v (.pt be0 0) rfl rfl (Wq rfl (Fb fo49_1 (by decide) rfl 1 rfl (w_load_b (v := w2) rfl szg32 hH (i := 0) rfl rfl rfl (Wm rfl ?_)))))
 refine w_idx_own h rfl elem32 szg58 hH (j := 2) rfl rfl rfl (fun i6406 t63 h hl6406 hv6406 => ?_)
 refine w_load_e rfl szg58 hH (j := 2) rfl hl6406 rfl hv6406 rfl (Wa rfl (Wn (Ns (Ps (Pr rfl (Wm rfl (Wm rfl (w_len_d elem58 rfl (Wb rfl ?_)))))))))
 refine w_idx h rfl elem58 szg140 (fun _ => rfl) rfl rfl (fun t69 h => ?_)
 refine w_faddr_d rfl fo140_0 (by decide) rfl (w_load_d szg3 rfl rfl ?_)
 refine Wd h rfl ?_ ?_ <;> intro _ h
 refine Wm rfl (Wm rfl (Wm rfl (w_len_d elem58 rfl (Wb rfl ?_))))
 refine w_idx h rfl elem58 szg140 (fun _ => rfl) rfl rfl (fun t78 h => ?_)
 refine w_faddr_d rfl fo140_0 (by decide) rfl (w_load_d szg3 rfl rfl ?_)
 refine Wd h rfl ?_ ?_ <;> intro _ h
 refine Wf rfl rfl (Wn (Ns (Cf (Pk (Nb (Nb (Nb (Nk (Ns ?_)))))))))
 refine Pr rfl (Wm rfl (Wb rfl (Wa rfl (Wn (Nb (Nb (Nl ?_)))))))
 exact jm 0 (jm 5 (ih_r5_Room_plans_L2 _ _ h w1 w2 w3 w4 w5 w6 w7 w8 w9 _ _ _ _ _ hH))
 refine Wf rfl rfl (Wn (Ns (Ct (Ps (Pr rfl (Wa rfl (Wn (Ns ?_))))))))
 refine Pt (Cr ?_)
 cases h
 exact prF (.inl rfl) (ra_tmp (.d (.bool false)) rfl (ra_nil)) ⟨w1, w2, w3, w4, w5, w6, w7, w8, w9, rfl, hH⟩
 refine Wm rfl (Wk (Wk (Wk (Wk (Wk (Wk (Wk (Wk (Wt rfl rfl ?_)))))))))
 refine Wn (Ns (Ct (Ps (Pr rfl (Wa rfl (Wn (Ns ?_)))))))
 refine Pt (Cr ?_)
 cases h
 exact prF (.inl rfl) (ra_tmp (.d (.bool false)) rfl (ra_nil)) ⟨w1, w2, w3, w4, w5, w6, w7, w8, w9, rfl, hH⟩
 refine Wn (Ns (Cf (Px rfl (Nb (Nb (Xs (Xl (Xb (Nb ?_)))))))))
 refine Ns (Ps (Ps (Pr rfl (Wa rfl (Wn (Ns (Pb ?_)))))))
 exact jm 0 (jm 7 (r5_Room_plans_L3_ok _ _ _ _ _ _ _ _ _ _ _ h w1 w2 w3 w4 w5 w6 w7 w8 w9 _ _ _ _ _ hH))
def r5_Room_plans_L1_M (nodes : LL NodeT) (stmts : LL StmtT) (tnexts : LL TNextT) (stages : LL TStageT) (groups : LL GroupT) (pairs : LL ConflictT) (dets : LL DetT) (vars : LL VarT) (texts : LL ByteArray) (i : Int) (r : Bool × R9) : Prop := ∀ (w1 w2 w3 w4 w5 w6 w7 w8 w9 be0 L g H n) (hH : HP H n (.box be0 [w1, w2, w3, .nil, w4, .nil, w5, w6, w7, w8, .nil, w9, .nil, .nil, .nil, .nil, .nil] :: o22_1 w1 nodes :: o58_1 w2 stmts :: o194_1 w3 tnexts :: o93_1 w4 stages :: o86_1 w5 groups :: o87_1 w6 pairs :: o90_1 w7 dets :: o92_1 w8 vars :: o91_1 w9 texts :: L)), PAt C (bodyOf Tryd.f81) (.a (.b (.a (.b .o)))) ⟨upd (upd g 0 (.pt be0 0)) 3 (.d (.int .i64 i)), H, n⟩ (PostR C Tryd.f81 (fun rs H' n' => ∃ w'1 w'2 w'3 w'4 w'5 w'6 w'7 w'8 w'9 : AV, rs = [.d (.bool r.1)] ∧ HP H' n' (.box be0 [w'1, w'2, w'3, .nil, w'4, .nil, w'5, w'6, w'7, w'8, .nil, w'9, .nil, .nil, .nil, .nil, .nil] :: o22_1 w'1 r.2.1 :: o58_1 w'2 r.2.2.1 :: o194_1 w'3 r.2.2.2.1 :: o93_1 w'4 r.2.2.2.2.1 :: o86_1 w'5 r.2.2.2.2.2.1 :: o87_1 w'6 r.2.2.2.2.2.2.1 :: o90_1 w'7 r.2.2.2.2.2.2.2.1 :: o92_1 w'8 r.2.2.2.2.2.2.2.2.1 :: o91_1 w'9 r.2.2.2.2.2.2.2.2.2 :: L)))
theorem r5_Room_plans_L1_ok (nodes : LL NodeT) (stmts : LL StmtT) (tnexts : LL TNextT) (stages : LL TStageT) (groups : LL GroupT) (pairs : LL ConflictT) (dets : LL DetT) (vars : LL VarT) (texts : LL ByteArray) (i : Int) (r : Bool × R9) (h : r5_Room_plans_L1 nodes stmts tnexts stages groups pairs dets vars texts i = some r) : r5_Room_plans_L1_M nodes stmts tnexts stages groups pairs dets vars texts i r := by
 refine r5_Room_plans_L1.partial_correctness nodes stmts tnexts stages groups pairs dets vars texts (fun i r => r5_Room_plans_L1_M nodes stmts tnexts stages groups pairs dets vars texts i r) (fun r5_Room_plans_L1 ih_r5_Room_plans_L1 i r h w1 w2 w3 w4 w5 w6 w7 w8 w9 be0 L g H n hH => ?_) i r h
 refine Po (Ps (Ps (Pr rfl (Wm rfl (w_move_v (.pt be0 0) rfl rfl (Wq rfl (Fb fo49_0 (by decide) rfl 0 rfl (w_load_b (v := w1) rfl szg31 hH (i := 0) rfl rfl rfl (w_len_own rfl elem31 hH (j := 1) rfl rfl ?_)))))))))
 refine Wc h rfl ?_ ?_ <;> intro _ h
 refine Wn (Ns (Ct (Pk (Nc (Nb (Ns (Ps (Pb (Ps ?_)))))))))
 refine Pr rfl (w_move_v (.pt be0 0) rfl rfl (Wq rfl (Fb fo49_0 (by decide) rfl 0 rfl (w_load_b (v := w1) rfl szg31 hH (i := 0) rfl rfl rfl (Wm rfl ?_)))))
 refine w_idx_own h rfl elem31 szg22 hH (j := 1) rfl rfl rfl (fun i6405 t29 h hl6405 hv6405 => ?_)
 refine w_load_e rfl szg22 hH (j := 1) rfl hl6405 rfl hv6405 rfl (Wa rfl (Wn (Ns (Ps (Pr rfl (Wm rfl (Wm rfl (w_len_d elem22 rfl (Wb rfl ?_)))))))))
 refine w_idx h rfl elem22 szg115 (fun _ => rfl) rfl rfl (fun t35 h => ?_)
 refine w_faddr_d rfl fo115_0 (by decide) rfl (w_load_d szg3 rfl rfl ?_)
 refine Wd h rfl ?_ ?_ <;> intro _ h
 refine Wm rfl (Wm rfl (Wm rfl (w_len_d elem22 rfl (Wb rfl ?_))))
 refine w_idx h rfl elem22 szg115 (fun _ => rfl) rfl rfl (fun t44 h => ?_)
 refine w_faddr_d rfl fo115_0 (by decide) rfl (w_load_d szg3 rfl rfl ?_)
 refine Wd h rfl ?_ ?_ <;> intro _ h
 refine Wf rfl rfl (Wn (Ns (Cf (Pk (Nb (Nb (Nb (Nk (Ns ?_)))))))))
 refine Pr rfl (Wm rfl (Wb rfl (Wa rfl (Wn (Nb (Nb (Nl ?_)))))))
 exact jm 0 (jm 3 (ih_r5_Room_plans_L1 _ _ h w1 w2 w3 w4 w5 w6 w7 w8 w9 _ _ _ _ _ hH))
 refine Wf rfl rfl (Wn (Ns (Ct (Ps (Pr rfl (Wa rfl (Wn (Ns ?_))))))))
 refine Pt (Cr ?_)
 cases h
 exact prF (.inl rfl) (ra_tmp (.d (.bool false)) rfl (ra_nil)) ⟨w1, w2, w3, w4, w5, w6, w7, w8, w9, rfl, hH⟩
 refine Wm rfl (Wk (Wk (Wk (Wk (Wk (Wk (Wk (Wk (Wt rfl rfl ?_)))))))))
 refine Wn (Ns (Ct (Ps (Pr rfl (Wa rfl (Wn (Ns ?_)))))))
 refine Pt (Cr ?_)
 cases h
 exact prF (.inl rfl) (ra_tmp (.d (.bool false)) rfl (ra_nil)) ⟨w1, w2, w3, w4, w5, w6, w7, w8, w9, rfl, hH⟩
 refine Wn (Ns (Cf (Px rfl (Nb (Nb (Xs (Xl (Xb (Nb ?_)))))))))
 refine Ns (Ps (Ps (Pr rfl (Wa rfl (Wn (Ns (Pb ?_)))))))
 exact jm 0 (jm 5 (r5_Room_plans_L2_ok _ _ _ _ _ _ _ _ _ _ _ h w1 w2 w3 w4 w5 w6 w7 w8 w9 _ _ _ _ _ hH))
theorem r5_Room_plans_ok (nodes : LL NodeT) (stmts : LL StmtT) (tnexts : LL TNextT) (stages : LL TStageT) (groups : LL GroupT) (pairs : LL ConflictT) (dets : LL DetT) (vars : LL VarT) (texts : LL ByteArray) (r : Bool × R9) (h : r5_Room_plans nodes stmts tnexts stages groups pairs dets vars texts = some r) (be0 : Nat) (we1 : AV) (we2 : AV) (we3 : AV) (we4 : AV) (we5 : AV) (we6 : AV) (we7 : AV) (we8 : AV) (we9 : AV) (H : Hs) (n : Nat) (L : List Jv.Item) (hH : HP H n (.box be0 [we1, we2, we3, .nil, we4, .nil, we5, we6, we7, we8, .nil, we9, .nil, .nil, .nil, .nil, .nil] :: o22_1 we1 nodes :: o58_1 we2 stmts :: o194_1 we3 tnexts :: o93_1 we4 stages :: o86_1 we5 groups :: o87_1 we6 pairs :: o90_1 we7 dets :: o92_1 we8 vars :: o91_1 we9 texts :: L)) : Raw C 81 [.pt be0 0] H n (fun rs H' n' => ∃ w'1 w'2 w'3 w'4 w'5 w'6 w'7 w'8 w'9 : AV, rs = [.d (.bool r.1)] ∧ HP H' n' (.box be0 [w'1, w'2, w'3, .nil, w'4, .nil, w'5, w'6, w'7, w'8, .nil, w'9, .nil, .nil, .nil, .nil, .nil] :: o22_1 w'1 r.2.1 :: o58_1 w'2 r.2.2.1 :: o194_1 w'3 r.2.2.2.1 :: o93_1 w'4 r.2.2.2.2.1 :: o86_1 w'5 r.2.2.2.2.2.1 :: o87_1 w'6 r.2.2.2.2.2.2.1 :: o90_1 w'7 r.2.2.2.2.2.2.2.1 :: o92_1 w'8 r.2.2.2.2.2.2.2.2.1 :: o91_1 w'9 r.2.2.2.2.2.2.2.2.2 :: L)) := by
 refine raw_at fn81 rfl (jmp 0 (.pt be0 0) rfl (Ps (Pr rfl (Wa rfl (Wn (Ns (Ps (Ps (Pr rfl ?_)))))))))
 refine Wa rfl (Wn (Ns (Pb ?_)))
 exact jm 0 (jm 3 (r5_Room_plans_L1_ok _ _ _ _ _ _ _ _ _ _ _ h we1 we2 we3 we4 we5 we6 we7 we8 we9 _ _ _ _ _ hH))
theorem r5_Room_things_L5_ok (nodes : LL NodeT) (stmts : LL StmtT) (tnexts : LL TNextT) (stages : LL TStageT) (groups : LL GroupT) (pairs : LL ConflictT) (dets : LL DetT) (vars : LL VarT) (texts : LL ByteArray) (i : Int) (r : Bool × R9) (h : r5_Room_things_L5 nodes stmts tnexts stages groups pairs dets vars texts i = some r) (w1 w2 w3 w4 w5 w6 w7 w8 w9 be0 L g H n) (hH : HP H n (.box be0 [w1, w2, w3, .nil, w4, .nil, w5, w6, w7, w8, .nil, w9, .nil, .nil, .nil, .nil, .nil] :: o22_1 w1 nodes :: o58_1 w2 stmts :: o194_1 w3 tnexts :: o93_1 w4 stages :: o86_1 w5 groups :: o87_1 w6 pairs :: o90_1 w7 dets :: o92_1 w8 vars :: o91_1 w9 texts :: L)) : PAt C (bodyOf Tryd.f82) (.a (.b (.a (.b (.b (.b (.b (.b .o)))))))) ⟨upd (upd g 0 (.pt be0 0)) 12 (.d (.int .i64 i)), H, n⟩ (PostR C Tryd.f82 (fun rs H' n' => ∃ w'1 w'2 w'3 w'4 w'5 w'6 w'7 w'8 w'9 : AV, rs = [.d (.bool r.1)] ∧ HP H' n' (.box be0 [w'1, w'2, w'3, .nil, w'4, .nil, w'5, w'6, w'7, w'8, .nil, w'9, .nil, .nil, .nil, .nil, .nil] :: o22_1 w'1 r.2.1 :: o58_1 w'2 r.2.2.1 :: o194_1 w'3 r.2.2.2.1 :: o93_1 w'4 r.2.2.2.2.1 :: o86_1 w'5 r.2.2.2.2.2.1 :: o87_1 w'6 r.2.2.2.2.2.2.1 :: o90_1 w'7 r.2.2.2.2.2.2.2.1 :: o92_1 w'8 r.2.2.2.2.2.2.2.2.1 :: o91_1 w'9 r.2.2.2.2.2.2.2.2.2 :: L))) := by
 refine Po (Ps (Ps (Pr rfl (Wm rfl (w_move_v (.pt be0 0) rfl rfl (Wq rfl (Fb fo49_12 (by decide) rfl 12 rfl (w_load_b (v := .nil) rfl szg43 hH (i := 0) rfl rfl rfl (w_len_n rfl elem43 rfl ?_)))))))))
 refine Wc h rfl ?_ ?_ <;> intro _ h
 refine Wn (Ns (Ct (Pk (Nc (Nb (Ns (Ps (Pb (Ps ?_)))))))))
 refine Pr rfl (w_move_v (.pt be0 0) rfl rfl (Wq rfl (Fb fo49_12 (by decide) rfl 12 rfl (w_load_b (v := .nil) rfl szg43 hH (i := 0) rfl rfl rfl (Wm rfl ?_)))))
 cases h
 refine Wn (Ns (Cf (Px rfl (Nb (Nb (Xs (Xl (Xb (Nb ?_)))))))))
 refine Ns (Ps (Pr rfl (Wa rfl (Wn (Ns ?_)))))
 refine Pt (Cr ?_)
 cases h
 exact prF (.inl rfl) (ra_tmp (.d (.bool true)) rfl (ra_nil)) ⟨w1, w2, w3, w4, w5, w6, w7, w8, w9, rfl, hH⟩
theorem r5_Room_things_L4_ok (nodes : LL NodeT) (stmts : LL StmtT) (tnexts : LL TNextT) (stages : LL TStageT) (groups : LL GroupT) (pairs : LL ConflictT) (dets : LL DetT) (vars : LL VarT) (texts : LL ByteArray) (i : Int) (r : Bool × R9) (h : r5_Room_things_L4 nodes stmts tnexts stages groups pairs dets vars texts i = some r) (w1 w2 w3 w4 w5 w6 w7 w8 w9 be0 L g H n) (hH : HP H n (.box be0 [w1, w2, w3, .nil, w4, .nil, w5, w6, w7, w8, .nil, w9, .nil, .nil, .nil, .nil, .nil] :: o22_1 w1 nodes :: o58_1 w2 stmts :: o194_1 w3 tnexts :: o93_1 w4 stages :: o86_1 w5 groups :: o87_1 w6 pairs :: o90_1 w7 dets :: o92_1 w8 vars :: o91_1 w9 texts :: L)) : PAt C (bodyOf Tryd.f82) (.a (.b (.a (.b (.b (.b (.b .o))))))) ⟨upd (upd g 0 (.pt be0 0)) 10 (.d (.int .i64 i)), H, n⟩ (PostR C Tryd.f82 (fun rs H' n' => ∃ w'1 w'2 w'3 w'4 w'5 w'6 w'7 w'8 w'9 : AV, rs = [.d (.bool r.1)] ∧ HP H' n' (.box be0 [w'1, w'2, w'3, .nil, w'4, .nil, w'5, w'6, w'7, w'8, .nil, w'9, .nil, .nil, .nil, .nil, .nil] :: o22_1 w'1 r.2.1 :: o58_1 w'2 r.2.2.1 :: o194_1 w'3 r.2.2.2.1 :: o93_1 w'4 r.2.2.2.2.1 :: o86_1 w'5 r.2.2.2.2.2.1 :: o87_1 w'6 r.2.2.2.2.2.2.1 :: o90_1 w'7 r.2.2.2.2.2.2.2.1 :: o92_1 w'8 r.2.2.2.2.2.2.2.2.1 :: o91_1 w'9 r.2.2.2.2.2.2.2.2.2 :: L))) := by
 refine Po (Ps (Ps (Pr rfl (Wm rfl (w_move_v (.pt be0 0) rfl rfl (Wq rfl (Fb fo49_10 (by decide) rfl 10 rfl (w_load_b (v := .nil) rfl szg41 hH (i := 0) rfl rfl rfl (w_len_n rfl elem41 rfl ?_)))))))))
 refine Wc h rfl ?_ ?_ <;> intro _ h
 refine Wn (Ns (Ct (Pk (Nc (Nb (Ns (Ps (Pb (Ps ?_)))))))))
 refine Pr rfl (w_move_v (.pt be0 0) rfl rfl (Wq rfl (Fb fo49_10 (by decide) rfl 10 rfl (w_load_b (v := .nil) rfl szg41 hH (i := 0) rfl rfl rfl (Wm rfl ?_)))))
 cases h
 refine Wn (Ns (Cf (Px rfl (Nb (Nb (Xs (Xl (Xb (Nb ?_)))))))))
 refine Ns (Ps (Ps (Pr rfl (Wa rfl (Wn (Ns (Pb ?_)))))))
 exact jm 0 (jm 12 (r5_Room_things_L5_ok _ _ _ _ _ _ _ _ _ _ _ h w1 w2 w3 w4 w5 w6 w7 w8 w9 _ _ _ _ _ hH))
end Go.Proofs.YtdcpfmjnkcodiaaDoor.We
namespace Go.Proofs.YtdcpfmjnkcodiaaDoor.We
open Go Go.Jv
set_option maxHeartbeats 4000000
open Go.Proofs
set_option maxHeartbeats 4000000
def r5_Room_things_L3_M (nodes : LL NodeT) (stmts : LL StmtT) (tnexts : LL TNextT) (stages : LL TStageT) (groups : LL GroupT) (pairs : LL ConflictT) (dets : LL DetT) (vars : LL VarT) (texts : LL ByteArray) (i : Int) (r : Bool × R9) : Prop := ∀ (w1 w2 w3 w4 w5 w6 w7 w8 w9 be0 L g H n) (hH : HP H n (.box be0 [w1, w2, w3, .nil, w4, .nil, w5, w6, w7, w8, .nil, w9, .nil, .nil, .nil, .nil, .nil] :: o22_1 w1 nodes :: o58_1 w2 stmts :: o194_1 w3 tnexts :: o93_1 w4 stages :: o86_1 w5 groups :: o87_1 w6 pairs :: o90_1 w7 dets :: o92_1 w8 vars :: o91_1 w9 texts :: L)), PAt C (bodyOf Tryd.f82) (.a (.b (.a (.b (.b (.b .o)))))) ⟨upd (upd g 0 (.pt be0 0)) 8 (.d (.int .i64 i)), H, n⟩ (PostR C Tryd.f82 (fun rs H' n' => ∃ w'1 w'2 w'3 w'4 w'5 w'6 w'7 w'8 w'9 : AV, rs = [.d (.bool r.1)] ∧ HP H' n' (.box be0 [w'1, w'2, w'3, .nil, w'4, .nil, w'5, w'6, w'7, w'8, .nil, w'9, .nil, .nil, .nil, .nil, .nil] :: o22_1 w'1 r.2.1 :: o58_1 w'2 r.2.2.1 :: o194_1 w'3 r.2.2.2.1 :: o93_1 w'4 r.2.2.2.2.1 :: o86_1 w'5 r.2.2.2.2.2.1 :: o87_1 w'6 r.2.2.2.2.2.2.1 :: o90_1 w'7 r.2.2.2.2.2.2.2.1 :: o92_1 w'8 r.2.2.2.2.2.2.2.2.1 :: o91_1 w'9 r.2.2.2.2.2.2.2.2.2 :: L)))
theorem r5_Room_things_L3_ok (nodes : LL NodeT) (stmts : LL StmtT) (tnexts : LL TNextT) (stages : LL TStageT) (groups : LL GroupT) (pairs : LL ConflictT) (dets : LL DetT) (vars : LL VarT) (texts : LL ByteArray) (i : Int) (r : Bool × R9) (h : r5_Room_things_L3 nodes stmts tnexts stages groups pairs dets vars texts i = some r) : r5_Room_things_L3_M nodes stmts tnexts stages groups pairs dets vars texts i r := by
 refine r5_Room_things_L3.partial_correctness nodes stmts tnexts stages groups pairs dets vars texts (fun i r => r5_Room_things_L3_M nodes stmts tnexts stages groups pairs dets vars texts i r) (fun r5_Room_things_L3 ih_r5_Room_things_L3 i r h w1 w2 w3 w4 w5 w6 w7 w8 w9 be0 L g H n hH => ?_) i r h
 refine Po (Ps (Ps (Pr rfl (Wm rfl (w_move_v (.pt be0 0) rfl rfl (Wq rfl (Fb fo49_9 (by decide) rfl 9 rfl (w_load_b (v := w8) rfl szg40 hH (i := 0) rfl rfl rfl (w_len_own rfl elem40 hH (j := 8) rfl rfl ?_)))))))))
 refine Wc h rfl ?_ ?_ <;> intro _ h
 refine Wn (Ns (Ct (Pk (Nc (Nb (Ns (Ps (Pb (Ps ?_)))))))))
 refine Pr rfl (w_move_v (.pt be0 0) rfl rfl (Wq rfl (Fb fo49_9 (by decide) rfl 9 rfl (w_load_b (v := w8) rfl szg40 hH (i := 0) rfl rfl rfl (Wm rfl ?_)))))
 refine w_idx_own h rfl elem40 szg92 hH (j := 8) rfl rfl rfl (fun i6425 t124 h hl6425 hv6425 => ?_)
 refine w_load_e rfl szg92 hH (j := 8) rfl hl6425 rfl hv6425 rfl (Wa rfl (Wn (Ns (Ps (Pr rfl (Wm rfl (Wm rfl (w_len_d elem92 rfl (Wb rfl ?_)))))))))
 refine w_idx h rfl elem92 szg193 (fun _ => rfl) rfl rfl (fun t130 h => ?_)
 refine w_faddr_d rfl fo193_1 (by decide) rfl (w_load_d szg21 rfl rfl ?_)
 refine Wd h rfl ?_ ?_ <;> intro _ h
 refine Wm rfl (Wm rfl (Wm rfl (w_len_d elem92 rfl (Wb rfl ?_))))
 refine w_idx h rfl elem92 szg193 (fun _ => rfl) rfl rfl (fun t139 h => ?_)
 refine w_faddr_d rfl fo193_1 (by decide) rfl (w_load_d szg21 rfl rfl ?_)
 refine Wd h rfl ?_ ?_ <;> intro _ h
 refine Wf rfl rfl (Wn (Ns (Cf (Pk (Nb (Nb (Nb (Nk (Ns ?_)))))))))
 refine Pr rfl (Wm rfl (Wb rfl (Wa rfl (Wn (Nb (Nb (Nl ?_)))))))
 exact jm 0 (jm 8 (ih_r5_Room_things_L3 _ _ h w1 w2 w3 w4 w5 w6 w7 w8 w9 _ _ _ _ _ hH))
 refine Wf rfl rfl (Wn (Ns (Ct (Ps (Pr rfl (Wa rfl (Wn (Ns ?_))))))))
 refine Pt (Cr ?_)
 cases h
 exact prF (.inl rfl) (ra_tmp (.d (.bool false)) rfl (ra_nil)) ⟨w1, w2, w3, w4, w5, w6, w7, w8, w9, rfl, hH⟩
 refine Wm rfl (Wk (Wk (Wk (Wk (Wk (Wk (Wk (Wk (Wt rfl rfl ?_)))))))))
 refine Wn (Ns (Ct (Ps (Pr rfl (Wa rfl (Wn (Ns ?_)))))))
 refine Pt (Cr ?_)
 cases h
 exact prF (.inl rfl) (ra_tmp (.d (.bool false)) rfl (ra_nil)) ⟨w1, w2, w3, w4, w5, w6, w7, w8, w9, rfl, hH⟩
 refine Wn (Ns (Cf (Px rfl (Nb (Nb (Xs (Xl (Xb (Nb ?_)))))))))
 refine Ns (Ps (Ps (Pr rfl (Wa rfl (Wn (Ns (Pb ?_)))))))
 exact jm 0 (jm 10 (r5_Room_things_L4_ok _ _ _ _ _ _ _ _ _ _ _ h w1 w2 w3 w4 w5 w6 w7 w8 w9 _ _ _ _ _ hH))
def r5_Room_things_L2_M (nodes : LL NodeT) (stmts : LL StmtT) (tnexts : LL TNextT) (stages : LL TStageT) (groups : LL GroupT) (pairs : LL ConflictT) (dets : LL DetT) (vars : LL VarT) (texts : LL ByteArray) (i : Int) (r : Bool × R9) : Prop := ∀ (w1 w2 w3 w4 w5 w6 w7 w8 w9 be0 L g H n) (hH : HP H n (.box be0 [w1, w2, w3, .nil, w4, .nil, w5, w6, w7, w8, .nil, w9, .nil, .nil, .nil, .nil, .nil] :: o22_1 w1 nodes :: o58_1 w2 stmts :: o194_1 w3 tnexts :: o93_1 w4 stages :: o86_1 w5 groups :: o87_1 w6 pairs :: o90_1 w7 dets :: o92_1 w8 vars :: o91_1 w9 texts :: L)), PAt C (bodyOf Tryd.f82) (.a (.b (.a (.b (.b .o))))) ⟨upd (upd g 0 (.pt be0 0)) 6 (.d (.int .i64 i)), H, n⟩ (PostR C Tryd.f82 (fun rs H' n' => ∃ w'1 w'2 w'3 w'4 w'5 w'6 w'7 w'8 w'9 : AV, rs = [.d (.bool r.1)] ∧ HP H' n' (.box be0 [w'1, w'2, w'3, .nil, w'4, .nil, w'5, w'6, w'7, w'8, .nil, w'9, .nil, .nil, .nil, .nil, .nil] :: o22_1 w'1 r.2.1 :: o58_1 w'2 r.2.2.1 :: o194_1 w'3 r.2.2.2.1 :: o93_1 w'4 r.2.2.2.2.1 :: o86_1 w'5 r.2.2.2.2.2.1 :: o87_1 w'6 r.2.2.2.2.2.2.1 :: o90_1 w'7 r.2.2.2.2.2.2.2.1 :: o92_1 w'8 r.2.2.2.2.2.2.2.2.1 :: o91_1 w'9 r.2.2.2.2.2.2.2.2.2 :: L)))
theorem r5_Room_things_L2_ok (nodes : LL NodeT) (stmts : LL StmtT) (tnexts : LL TNextT) (stages : LL TStageT) (groups : LL GroupT) (pairs : LL ConflictT) (dets : LL DetT) (vars : LL VarT) (texts : LL ByteArray) (i : Int) (r : Bool × R9) (h : r5_Room_things_L2 nodes stmts tnexts stages groups pairs dets vars texts i = some r) : r5_Room_things_L2_M nodes stmts tnexts stages groups pairs dets vars texts i r := by
 refine r5_Room_things_L2.partial_correctness nodes stmts tnexts stages groups pairs dets vars texts (fun i r => r5_Room_things_L2_M nodes stmts tnexts stages groups pairs dets vars texts i r) (fun r5_Room_things_L2 ih_r5_Room_things_L2 i r h w1 w2 w3 w4 w5 w6 w7 w8 w9 be0 L g H n hH => ?_) i r h
 refine Po (Ps (Ps (Pr rfl (Wm rfl (w_move_v (.pt be0 0) rfl rfl (Wq rfl (Fb fo49_8 (by decide) rfl 8 rfl (w_load_b (v := w7) rfl szg39 hH (i := 0) rfl rfl rfl (w_len_own rfl elem39 hH (j := 7) rfl rfl ?_)))))))))
 refine Wc h rfl ?_ ?_ <;> intro _ h
 refine Wn (Ns (Ct (Pk (Nc (Nb (Ns (Ps (Pb (Ps ?_)))))))))
 refine Pr rfl (w_move_v (.pt be0 0) rfl rfl (Wq rfl (Fb fo49_8 (by decide) rfl 8 rfl (w_load_b (v := w7) rfl szg39 hH (i := 0) rfl rfl rfl (Wm rfl ?_)))))
 refine w_idx_own h rfl elem39 szg90 hH (j := 7) rfl rfl rfl (fun i6424 t90 h hl6424 hv6424 => ?_)
 refine w_load_e rfl szg90 hH (j := 7) rfl hl6424 rfl hv6424 rfl (Wa rfl (Wn (Ns (Ps (Pr rfl (Wm rfl (Wm rfl (w_len_d elem90 rfl (Wb rfl ?_)))))))))
 refine w_idx h rfl elem90 szg207 (fun _ => rfl) rfl rfl (fun t96 h => ?_)
 refine w_faddr_d rfl fo207_2 (by decide) rfl (w_load_d szg3 rfl rfl ?_)
 refine Wd h rfl ?_ ?_ <;> intro _ h
 refine Wm rfl (Wm rfl (Wm rfl (w_len_d elem90 rfl (Wb rfl ?_))))
 refine w_idx h rfl elem90 szg207 (fun _ => rfl) rfl rfl (fun t105 h => ?_)
 refine w_faddr_d rfl fo207_2 (by decide) rfl (w_load_d szg3 rfl rfl ?_)
 refine Wd h rfl ?_ ?_ <;> intro _ h
 refine Wf rfl rfl (Wn (Ns (Cf (Pk (Nb (Nb (Nb (Nk (Ns ?_)))))))))
 refine Pr rfl (Wm rfl (Wb rfl (Wa rfl (Wn (Nb (Nb (Nl ?_)))))))
 exact jm 0 (jm 6 (ih_r5_Room_things_L2 _ _ h w1 w2 w3 w4 w5 w6 w7 w8 w9 _ _ _ _ _ hH))
 refine Wf rfl rfl (Wn (Ns (Ct (Ps (Pr rfl (Wa rfl (Wn (Ns ?_))))))))
 refine Pt (Cr ?_)
 cases h
 exact prF (.inl rfl) (ra_tmp (.d (.bool false)) rfl (ra_nil)) ⟨w1, w2, w3, w4, w5, w6, w7, w8, w9, rfl, hH⟩
 refine Wm rfl (Wk (Wk (Wk (Wk (Wk (Wk (Wk (Wk (Wt rfl rfl ?_)))))))))
 refine Wn (Ns (Ct (Ps (Pr rfl (Wa rfl (Wn (Ns ?_)))))))
 refine Pt (Cr ?_)
 cases h
 exact prF (.inl rfl) (ra_tmp (.d (.bool false)) rfl (ra_nil)) ⟨w1, w2, w3, w4, w5, w6, w7, w8, w9, rfl, hH⟩
 refine Wn (Ns (Cf (Px rfl (Nb (Nb (Xs (Xl (Xb (Nb ?_)))))))))
 refine Ns (Ps (Ps (Pr rfl (Wa rfl (Wn (Ns (Pb ?_)))))))
 exact jm 0 (jm 8 (r5_Room_things_L3_ok _ _ _ _ _ _ _ _ _ _ _ h w1 w2 w3 w4 w5 w6 w7 w8 w9 _ _ _ _ _ hH))
def r5_Room_things_L1_M (nodes : LL NodeT) (stmts : LL StmtT) (tnexts : LL TNextT) (stages : LL TStageT) (groups : LL GroupT) (pairs : LL ConflictT) (dets : LL DetT) (vars : LL VarT) (texts : LL ByteArray) (i : Int) (r : Bool × R9) : Prop := ∀ (w1 w2 w3 w4 w5 w6 w7 w8 w9 be0 L g H n) (hH : HP H n (.box be0 [w1, w2, w3, .nil, w4, .nil, w5, w6, w7, w8, .nil, w9, .nil, .nil, .nil, .nil, .nil] :: o22_1 w1 nodes :: o58_1 w2 stmts :: o194_1 w3 tnexts :: o93_1 w4 stages :: o86_1 w5 groups :: o87_1 w6 pairs :: o90_1 w7 dets :: o92_1 w8 vars :: o91_1 w9 texts :: L)), PAt C (bodyOf Tryd.f82) (.a (.b (.a (.b .o)))) ⟨upd (upd g 0 (.pt be0 0)) 3 (.d (.int .i64 i)), H, n⟩ (PostR C Tryd.f82 (fun rs H' n' => ∃ w'1 w'2 w'3 w'4 w'5 w'6 w'7 w'8 w'9 : AV, rs = [.d (.bool r.1)] ∧ HP H' n' (.box be0 [w'1, w'2, w'3, .nil, w'4, .nil, w'5, w'6, w'7, w'8, .nil, w'9, .nil, .nil, .nil, .nil, .nil] :: o22_1 w'1 r.2.1 :: o58_1 w'2 r.2.2.1 :: o194_1 w'3 r.2.2.2.1 :: o93_1 w'4 r.2.2.2.2.1 :: o86_1 w'5 r.2.2.2.2.2.1 :: o87_1 w'6 r.2.2.2.2.2.2.1 :: o90_1 w'7 r.2.2.2.2.2.2.2.1 :: o92_1 w'8 r.2.2.2.2.2.2.2.2.1 :: o91_1 w'9 r.2.2.2.2.2.2.2.2.2 :: L)))
theorem r5_Room_things_L1_ok (nodes : LL NodeT) (stmts : LL StmtT) (tnexts : LL TNextT) (stages : LL TStageT) (groups : LL GroupT) (pairs : LL ConflictT) (dets : LL DetT) (vars : LL VarT) (texts : LL ByteArray) (i : Int) (r : Bool × R9) (h : r5_Room_things_L1 nodes stmts tnexts stages groups pairs dets vars texts i = some r) : r5_Room_things_L1_M nodes stmts tnexts stages groups pairs dets vars texts i r := by
 refine r5_Room_things_L1.partial_correctness nodes stmts tnexts stages groups pairs dets vars texts (fun i r => r5_Room_things_L1_M nodes stmts tnexts stages groups pairs dets vars texts i r) (fun r5_Room_things_L1 ih_r5_Room_things_L1 i r h w1 w2 w3 w4 w5 w6 w7 w8 w9 be0 L g H n hH => ?_) i r h
 refine Po (Ps (Ps (Pr rfl (Wm rfl (w_move_v (.pt be0 0) rfl rfl (Wq rfl (Fb fo49_6 (by decide) rfl 6 rfl (w_load_b (v := w5) rfl szg37 hH (i := 0) rfl rfl rfl (w_len_own rfl elem37 hH (j := 5) rfl rfl ?_)))))))))
 refine Wc h rfl ?_ ?_ <;> intro _ h
 refine Wn (Ns (Ct (Pk (Nc (Nb (Ns (Ps (Pb (Ps ?_)))))))))
 refine Pr rfl (w_move_v (.pt be0 0) rfl rfl (Wq rfl (Fb fo49_6 (by decide) rfl 6 rfl (w_load_b (v := w5) rfl szg37 hH (i := 0) rfl rfl rfl (Wm rfl ?_)))))
 refine w_idx_own h rfl elem37 szg86 hH (j := 5) rfl rfl rfl (fun i6422 t29 h hl6422 hv6422 => ?_)
 refine w_load_e rfl szg86 hH (j := 5) rfl hl6422 rfl hv6422 rfl (Wa rfl (Wn (Ns (Ps (Pr rfl (w_move_v (.pt be0 0) rfl rfl (Wq rfl (Fb fo49_7 (by decide) rfl 7 rfl (w_load_b (v := w6) rfl szg38 hH (i := 0) rfl rfl rfl ?_)))))))))
 refine Wm rfl ?_
 refine w_idx_own h rfl elem38 szg87 hH (j := 6) rfl rfl rfl (fun i6423 t36 h hl6423 hv6423 => ?_)
 refine w_load_e rfl szg87 hH (j := 6) rfl hl6423 rfl hv6423 rfl (Wa rfl (Wn (Ns (Ps (Pr rfl (Wm rfl (Wm rfl (w_len_d elem86 rfl (Wb rfl ?_)))))))))
 refine w_idx h rfl elem86 szg200 (fun _ => rfl) rfl rfl (fun t42 h => ?_)
 refine w_faddr_d rfl fo200_2 (by decide) rfl (w_load_d szg3 rfl rfl ?_)
 refine Wd h rfl ?_ ?_ <;> intro _ h
 refine Wm rfl (Wm rfl (Wm rfl (w_len_d elem86 rfl (Wb rfl ?_))))
 refine w_idx h rfl elem86 szg200 (fun _ => rfl) rfl rfl (fun t51 h => ?_)
 refine w_faddr_d rfl fo200_2 (by decide) rfl (w_load_d szg3 rfl rfl ?_)
 refine Wd h rfl ?_ ?_ <;> intro _ h
 refine Wf rfl rfl (Wm rfl (Wm rfl (Wm rfl (w_len_d elem87 rfl (Wb rfl ?_)))))
 refine w_idx h rfl elem87 szg203 (fun _ => rfl) rfl rfl (fun t61 h => ?_)
 refine w_faddr_d rfl fo203_0 (by decide) rfl (w_load_d szg3 rfl rfl ?_)
 refine Wd h rfl ?_ ?_ <;> intro _ h
 refine Wf rfl rfl (Wm rfl (Wm rfl (Wm rfl (w_len_d elem87 rfl (Wb rfl ?_)))))
 refine w_idx h rfl elem87 szg203 (fun _ => rfl) rfl rfl (fun t71 h => ?_)
 refine w_faddr_d rfl fo203_0 (by decide) rfl (w_load_d szg3 rfl rfl ?_)
 refine Wd h rfl ?_ ?_ <;> intro _ h
 refine Wf rfl rfl (Wn (Ns (Cf (Pk (Nb (Nb (Nb (Nb (Nk ?_)))))))))
 refine Ns (Pr rfl (Wm rfl (Wb rfl (Wa rfl (Wn (Nb (Nb (Nl ?_))))))))
 exact jm 0 (jm 3 (ih_r5_Room_things_L1 _ _ h w1 w2 w3 w4 w5 w6 w7 w8 w9 _ _ _ _ _ hH))
 refine Wf rfl rfl (Wn (Ns (Ct (Ps (Pr rfl (Wa rfl (Wn (Ns ?_))))))))
 refine Pt (Cr ?_)
 cases h
 exact prF (.inl rfl) (ra_tmp (.d (.bool false)) rfl (ra_nil)) ⟨w1, w2, w3, w4, w5, w6, w7, w8, w9, rfl, hH⟩
 refine Wf rfl rfl (Wm rfl (Wk (Wk (Wk (Wk (Wk (Wk (Wk (Wk ?_)))))))))
 refine Wt rfl rfl (Wn (Ns (Ct (Ps (Pr rfl (Wa rfl (Wn (Ns ?_))))))))
 refine Pt (Cr ?_)
 cases h
 exact prF (.inl rfl) (ra_tmp (.d (.bool false)) rfl (ra_nil)) ⟨w1, w2, w3, w4, w5, w6, w7, w8, w9, rfl, hH⟩
 refine Wf rfl rfl (Wm rfl (Wk (Wk (Wk (Wk (Wk (Wk (Wk (Wk ?_)))))))))
 refine Wt rfl rfl (Wm rfl (Wk (Wk (Wk (Wk (Wk (Wk (Wk (Wk ?_)))))))))
 refine Wt rfl rfl (Wn (Ns (Ct (Ps (Pr rfl (Wa rfl (Wn (Ns ?_))))))))
 refine Pt (Cr ?_)
 cases h
 exact prF (.inl rfl) (ra_tmp (.d (.bool false)) rfl (ra_nil)) ⟨w1, w2, w3, w4, w5, w6, w7, w8, w9, rfl, hH⟩
 refine Wm rfl (Wk (Wk (Wk (Wk (Wk (Wk (Wk (Wk (Wt rfl rfl ?_)))))))))
 refine Wm rfl (Wk (Wk (Wk (Wk (Wk (Wk (Wk (Wk (Wt rfl rfl ?_)))))))))
 refine Wm rfl (Wk (Wk (Wk (Wk (Wk (Wk (Wk (Wk (Wt rfl rfl ?_)))))))))
 refine Wn (Ns (Ct (Ps (Pr rfl (Wa rfl (Wn (Ns ?_)))))))
 refine Pt (Cr ?_)
 cases h
 exact prF (.inl rfl) (ra_tmp (.d (.bool false)) rfl (ra_nil)) ⟨w1, w2, w3, w4, w5, w6, w7, w8, w9, rfl, hH⟩
 refine Wn (Ns (Cf (Px rfl (Nb (Nb (Xs (Xl (Xb (Nb ?_)))))))))
 refine Ns (Ps (Ps (Pr rfl (Wa rfl (Wn (Ns (Pb ?_)))))))
 exact jm 0 (jm 6 (r5_Room_things_L2_ok _ _ _ _ _ _ _ _ _ _ _ h w1 w2 w3 w4 w5 w6 w7 w8 w9 _ _ _ _ _ hH))
theorem r5_Room_things_ok (nodes : LL NodeT) (stmts : LL StmtT) (tnexts : LL TNextT) (stages : LL TStageT) (groups : LL GroupT) (pairs : LL ConflictT) (dets : LL DetT) (vars : LL VarT) (texts : LL ByteArray) (r : Bool × R9) (h : r5_Room_things nodes stmts tnexts stages groups pairs dets vars texts = some r) (be0 : Nat) (we1 : AV) (we2 : AV) (we3 : AV) (we4 : AV) (we5 : AV) (we6 : AV) (we7 : AV) (we8 : AV) (we9 : AV) (H : Hs) (n : Nat) (L : List Jv.Item) (hH : HP H n (.box be0 [we1, we2, we3, .nil, we4, .nil, we5, we6, we7, we8, .nil, we9, .nil, .nil, .nil, .nil, .nil] :: o22_1 we1 nodes :: o58_1 we2 stmts :: o194_1 we3 tnexts :: o93_1 we4 stages :: o86_1 we5 groups :: o87_1 we6 pairs :: o90_1 we7 dets :: o92_1 we8 vars :: o91_1 we9 texts :: L)) : Raw C 82 [.pt be0 0] H n (fun rs H' n' => ∃ w'1 w'2 w'3 w'4 w'5 w'6 w'7 w'8 w'9 : AV, rs = [.d (.bool r.1)] ∧ HP H' n' (.box be0 [w'1, w'2, w'3, .nil, w'4, .nil, w'5, w'6, w'7, w'8, .nil, w'9, .nil, .nil, .nil, .nil, .nil] :: o22_1 w'1 r.2.1 :: o58_1 w'2 r.2.2.1 :: o194_1 w'3 r.2.2.2.1 :: o93_1 w'4 r.2.2.2.2.1 :: o86_1 w'5 r.2.2.2.2.2.1 :: o87_1 w'6 r.2.2.2.2.2.2.1 :: o90_1 w'7 r.2.2.2.2.2.2.2.1 :: o92_1 w'8 r.2.2.2.2.2.2.2.2.1 :: o91_1 w'9 r.2.2.2.2.2.2.2.2.2 :: L)) := by
 refine raw_at fn82 rfl (jmp 0 (.pt be0 0) rfl (Ps (Pr rfl (Wa rfl (Wn (Ns (Ps (Ps (Pr rfl ?_)))))))))
 refine Wa rfl (Wn (Ns (Pb ?_)))
 exact jm 0 (jm 3 (r5_Room_things_L1_ok _ _ _ _ _ _ _ _ _ _ _ h we1 we2 we3 we4 we5 we6 we7 we8 we9 _ _ _ _ _ hH))
theorem r5_Room_Whole_L4_ok (nodes : LL NodeT) (stmts : LL StmtT) (tnexts : LL TNextT) (stages : LL TStageT) (groups : LL GroupT) (pairs : LL ConflictT) (dets : LL DetT) (vars : LL VarT) (texts : LL ByteArray) (i : Int) (r : Bool × R9) (h : r5_Room_Whole_L4 nodes stmts tnexts stages groups pairs dets vars texts i = some r) (w1 w2 w3 w4 w5 w6 w7 w8 w9 be0 L g H n) (hH : HP H n (.box be0 [w1, w2, w3, .nil, w4, .nil, w5, w6, w7, w8, .nil, w9, .nil, .nil, .nil, .nil, .nil] :: o22_1 w1 nodes :: o58_1 w2 stmts :: o194_1 w3 tnexts :: o93_1 w4 stages :: o86_1 w5 groups :: o87_1 w6 pairs :: o90_1 w7 dets :: o92_1 w8 vars :: o91_1 w9 texts :: L)) : PAt C (bodyOf Tryd.f27) (.a (.b (.a (.b (.b (.b (.b .o))))))) ⟨upd (upd g 0 (.pt be0 0)) 9 (.d (.int .i64 i)), H, n⟩ (PostR C Tryd.f27 (fun rs H' n' => ∃ w'1 w'2 w'3 w'4 w'5 w'6 w'7 w'8 w'9 : AV, rs = [.d (.bool r.1)] ∧ HP H' n' (.box be0 [w'1, w'2, w'3, .nil, w'4, .nil, w'5, w'6, w'7, w'8, .nil, w'9, .nil, .nil, .nil, .nil, .nil] :: o22_1 w'1 r.2.1 :: o58_1 w'2 r.2.2.1 :: o194_1 w'3 r.2.2.2.1 :: o93_1 w'4 r.2.2.2.2.1 :: o86_1 w'5 r.2.2.2.2.2.1 :: o87_1 w'6 r.2.2.2.2.2.2.1 :: o90_1 w'7 r.2.2.2.2.2.2.2.1 :: o92_1 w'8 r.2.2.2.2.2.2.2.2.1 :: o91_1 w'9 r.2.2.2.2.2.2.2.2.2 :: L))) := by
 refine Po (Ps (Ps (Pr rfl (Wm rfl (w_move_v (.pt be0 0) rfl rfl (Wq rfl (Fb fo49_16 (by decide) rfl 16 rfl (w_load_b (v := .nil) rfl szg47 hH (i := 0) rfl rfl rfl (w_len_n rfl elem47 rfl ?_)))))))))
 refine Wc h rfl ?_ ?_ <;> intro _ h
 refine Wn (Ns (Ct (Pk (Nc (Nb (Ns (Ps (Pb (Ps ?_)))))))))
 refine Pr rfl (w_move_v (.pt be0 0) rfl rfl (Wq rfl (Fb fo49_16 (by decide) rfl 16 rfl (w_load_b (v := .nil) rfl szg47 hH (i := 0) rfl rfl rfl (Wm rfl ?_)))))
 cases h
 refine Wn (Ns (Cf (Px rfl (Nb (Nb (Xs (Xl (Xb (Nb ?_)))))))))
 refine Ns (Ps (Pr rfl (w_move_v (.pt be0 0) rfl rfl ?_)))
 refine w_raw [.pt be0 0] h rfl rfl sig81 rfl (fun y hy => r5_Room_plans_ok _ _ _ _ _ _ _ _ _ y hy be0 w1 w2 w3 w4 w5 w6 w7 w8 w9 _ _ (L) hH) (fun t140 rs H' n' h hP => ?_)
 obtain ⟨w6430_1, w6430_2, w6430_3, w6430_4, w6430_5, w6430_6, w6430_7, w6430_8, w6430_9, rfl, hH⟩ := hP
 refine Wm rfl ?_
 revert h; cases t140.1 <;> intro h
 replace h := if0 h
 refine Wk (Wk (Wf rfl rfl (Wa rfl (Wn (Ns ?_)))))
 refine Pt (Cr ?_)
 cases h
 exact prF (.inl rfl) (ra_tmp (.d (.bool false)) rfl (ra_nil)) ⟨w6430_1, w6430_2, w6430_3, w6430_4, w6430_5, w6430_6, w6430_7, w6430_8, w6430_9, rfl, hH⟩
 replace h := if1 h
 refine w_move_v (.pt be0 0) rfl rfl ?_
 refine w_raw [.pt be0 0] h rfl rfl sig82 rfl (fun y hy => r5_Room_things_ok _ _ _ _ _ _ _ _ _ y hy be0 w6430_1 w6430_2 w6430_3 w6430_4 w6430_5 w6430_6 w6430_7 w6430_8 w6430_9 _ _ (L) hH) (fun t143 rs H' n' h hP => ?_)
 obtain ⟨w6431_1, w6431_2, w6431_3, w6431_4, w6431_5, w6431_6, w6431_7, w6431_8, w6431_9, rfl, hH⟩ := hP
 refine Wt rfl rfl (Wa rfl (Wn (Ns ?_)))
 refine Pt (Cr ?_)
 cases h
 exact prF (.inl rfl) (ra_tmp (.d (.bool t143.1)) rfl (ra_nil)) ⟨w6431_1, w6431_2, w6431_3, w6431_4, w6431_5, w6431_6, w6431_7, w6431_8, w6431_9, rfl, hH⟩
theorem r5_Room_Whole_L3_ok (nodes : LL NodeT) (stmts : LL StmtT) (tnexts : LL TNextT) (stages : LL TStageT) (groups : LL GroupT) (pairs : LL ConflictT) (dets : LL DetT) (vars : LL VarT) (texts : LL ByteArray) (i : Int) (r : Bool × R9) (h : r5_Room_Whole_L3 nodes stmts tnexts stages groups pairs dets vars texts i = some r) (w1 w2 w3 w4 w5 w6 w7 w8 w9 be0 L g H n) (hH : HP H n (.box be0 [w1, w2, w3, .nil, w4, .nil, w5, w6, w7, w8, .nil, w9, .nil, .nil, .nil, .nil, .nil] :: o22_1 w1 nodes :: o58_1 w2 stmts :: o194_1 w3 tnexts :: o93_1 w4 stages :: o86_1 w5 groups :: o87_1 w6 pairs :: o90_1 w7 dets :: o92_1 w8 vars :: o91_1 w9 texts :: L)) : PAt C (bodyOf Tryd.f27) (.a (.b (.a (.b (.b (.b .o)))))) ⟨upd (upd g 0 (.pt be0 0)) 7 (.d (.int .i64 i)), H, n⟩ (PostR C Tryd.f27 (fun rs H' n' => ∃ w'1 w'2 w'3 w'4 w'5 w'6 w'7 w'8 w'9 : AV, rs = [.d (.bool r.1)] ∧ HP H' n' (.box be0 [w'1, w'2, w'3, .nil, w'4, .nil, w'5, w'6, w'7, w'8, .nil, w'9, .nil, .nil, .nil, .nil, .nil] :: o22_1 w'1 r.2.1 :: o58_1 w'2 r.2.2.1 :: o194_1 w'3 r.2.2.2.1 :: o93_1 w'4 r.2.2.2.2.1 :: o86_1 w'5 r.2.2.2.2.2.1 :: o87_1 w'6 r.2.2.2.2.2.2.1 :: o90_1 w'7 r.2.2.2.2.2.2.2.1 :: o92_1 w'8 r.2.2.2.2.2.2.2.2.1 :: o91_1 w'9 r.2.2.2.2.2.2.2.2.2 :: L))) := by
 refine Po (Ps (Ps (Pr rfl (Wm rfl (w_move_v (.pt be0 0) rfl rfl (Wq rfl (Fb fo49_15 (by decide) rfl 15 rfl (w_load_b (v := .nil) rfl szg46 hH (i := 0) rfl rfl rfl (w_len_n rfl elem46 rfl ?_)))))))))
 refine Wc h rfl ?_ ?_ <;> intro _ h
 refine Wn (Ns (Ct (Pk (Nc (Nb (Ns (Ps (Pb (Ps ?_)))))))))
 refine Pr rfl (w_move_v (.pt be0 0) rfl rfl (Wq rfl (Fb fo49_15 (by decide) rfl 15 rfl (w_load_b (v := .nil) rfl szg46 hH (i := 0) rfl rfl rfl (Wm rfl ?_)))))
 cases h
 refine Wn (Ns (Cf (Px rfl (Nb (Nb (Xs (Xl (Xb (Nb ?_)))))))))
 refine Ns (Ps (Ps (Pr rfl (Wa rfl (Wn (Ns (Pb ?_)))))))
 exact jm 0 (jm 9 (r5_Room_Whole_L4_ok _ _ _ _ _ _ _ _ _ _ _ h w1 w2 w3 w4 w5 w6 w7 w8 w9 _ _ _ _ _ hH))
theorem r5_Room_Whole_L2_ok (nodes : LL NodeT) (stmts : LL StmtT) (tnexts : LL TNextT) (stages : LL TStageT) (groups : LL GroupT) (pairs : LL ConflictT) (dets : LL DetT) (vars : LL VarT) (texts : LL ByteArray) (i : Int) (r : Bool × R9) (h : r5_Room_Whole_L2 nodes stmts tnexts stages groups pairs dets vars texts i = some r) (w1 w2 w3 w4 w5 w6 w7 w8 w9 be0 L g H n) (hH : HP H n (.box be0 [w1, w2, w3, .nil, w4, .nil, w5, w6, w7, w8, .nil, w9, .nil, .nil, .nil, .nil, .nil] :: o22_1 w1 nodes :: o58_1 w2 stmts :: o194_1 w3 tnexts :: o93_1 w4 stages :: o86_1 w5 groups :: o87_1 w6 pairs :: o90_1 w7 dets :: o92_1 w8 vars :: o91_1 w9 texts :: L)) : PAt C (bodyOf Tryd.f27) (.a (.b (.a (.b (.b .o))))) ⟨upd (upd g 0 (.pt be0 0)) 5 (.d (.int .i64 i)), H, n⟩ (PostR C Tryd.f27 (fun rs H' n' => ∃ w'1 w'2 w'3 w'4 w'5 w'6 w'7 w'8 w'9 : AV, rs = [.d (.bool r.1)] ∧ HP H' n' (.box be0 [w'1, w'2, w'3, .nil, w'4, .nil, w'5, w'6, w'7, w'8, .nil, w'9, .nil, .nil, .nil, .nil, .nil] :: o22_1 w'1 r.2.1 :: o58_1 w'2 r.2.2.1 :: o194_1 w'3 r.2.2.2.1 :: o93_1 w'4 r.2.2.2.2.1 :: o86_1 w'5 r.2.2.2.2.2.1 :: o87_1 w'6 r.2.2.2.2.2.2.1 :: o90_1 w'7 r.2.2.2.2.2.2.2.1 :: o92_1 w'8 r.2.2.2.2.2.2.2.2.1 :: o91_1 w'9 r.2.2.2.2.2.2.2.2.2 :: L))) := by
 refine Po (Ps (Ps (Pr rfl (Wm rfl (w_move_v (.pt be0 0) rfl rfl (Wq rfl (Fb fo49_14 (by decide) rfl 14 rfl (w_load_b (v := .nil) rfl szg45 hH (i := 0) rfl rfl rfl (w_len_n rfl elem45 rfl ?_)))))))))
 refine Wc h rfl ?_ ?_ <;> intro _ h
 refine Wn (Ns (Ct (Pk (Nc (Nb (Ns (Ps (Pb (Ps ?_)))))))))
 refine Pr rfl (w_move_v (.pt be0 0) rfl rfl (Wq rfl (Fb fo49_14 (by decide) rfl 14 rfl (w_load_b (v := .nil) rfl szg45 hH (i := 0) rfl rfl rfl (Wm rfl ?_)))))
 cases h
 refine Wn (Ns (Cf (Px rfl (Nb (Nb (Xs (Xl (Xb (Nb ?_)))))))))
 refine Ns (Ps (Ps (Pr rfl (Wa rfl (Wn (Ns (Pb ?_)))))))
 exact jm 0 (jm 7 (r5_Room_Whole_L3_ok _ _ _ _ _ _ _ _ _ _ _ h w1 w2 w3 w4 w5 w6 w7 w8 w9 _ _ _ _ _ hH))
def r5_Room_Whole_L1_M (nodes : LL NodeT) (stmts : LL StmtT) (tnexts : LL TNextT) (stages : LL TStageT) (groups : LL GroupT) (pairs : LL ConflictT) (dets : LL DetT) (vars : LL VarT) (texts : LL ByteArray) (i : Int) (r : Bool × R9) : Prop := ∀ (w1 w2 w3 w4 w5 w6 w7 w8 w9 be0 L g H n) (hH : HP H n (.box be0 [w1, w2, w3, .nil, w4, .nil, w5, w6, w7, w8, .nil, w9, .nil, .nil, .nil, .nil, .nil] :: o22_1 w1 nodes :: o58_1 w2 stmts :: o194_1 w3 tnexts :: o93_1 w4 stages :: o86_1 w5 groups :: o87_1 w6 pairs :: o90_1 w7 dets :: o92_1 w8 vars :: o91_1 w9 texts :: L)), PAt C (bodyOf Tryd.f27) (.a (.b (.a (.b .o)))) ⟨upd (upd g 0 (.pt be0 0)) 3 (.d (.int .i64 i)), H, n⟩ (PostR C Tryd.f27 (fun rs H' n' => ∃ w'1 w'2 w'3 w'4 w'5 w'6 w'7 w'8 w'9 : AV, rs = [.d (.bool r.1)] ∧ HP H' n' (.box be0 [w'1, w'2, w'3, .nil, w'4, .nil, w'5, w'6, w'7, w'8, .nil, w'9, .nil, .nil, .nil, .nil, .nil] :: o22_1 w'1 r.2.1 :: o58_1 w'2 r.2.2.1 :: o194_1 w'3 r.2.2.2.1 :: o93_1 w'4 r.2.2.2.2.1 :: o86_1 w'5 r.2.2.2.2.2.1 :: o87_1 w'6 r.2.2.2.2.2.2.1 :: o90_1 w'7 r.2.2.2.2.2.2.2.1 :: o92_1 w'8 r.2.2.2.2.2.2.2.2.1 :: o91_1 w'9 r.2.2.2.2.2.2.2.2.2 :: L)))
theorem r5_Room_Whole_L1_ok (nodes : LL NodeT) (stmts : LL StmtT) (tnexts : LL TNextT) (stages : LL TStageT) (groups : LL GroupT) (pairs : LL ConflictT) (dets : LL DetT) (vars : LL VarT) (texts : LL ByteArray) (i : Int) (r : Bool × R9) (h : r5_Room_Whole_L1 nodes stmts tnexts stages groups pairs dets vars texts i = some r) : r5_Room_Whole_L1_M nodes stmts tnexts stages groups pairs dets vars texts i r := by
 refine r5_Room_Whole_L1.partial_correctness nodes stmts tnexts stages groups pairs dets vars texts (fun i r => r5_Room_Whole_L1_M nodes stmts tnexts stages groups pairs dets vars texts i r) (fun r5_Room_Whole_L1 ih_r5_Room_Whole_L1 i r h w1 w2 w3 w4 w5 w6 w7 w8 w9 be0 L g H n hH => ?_) i r h
 refine Po (Ps (Ps (Pr rfl (Wm rfl (w_move_v (.pt be0 0) rfl rfl (Wq rfl (Fb fo49_11 (by decide) rfl 11 rfl (w_load_b (v := w9) rfl szg42 hH (i := 0) rfl rfl rfl (w_len_own rfl elem42 hH (j := 9) rfl rfl ?_)))))))))
 refine Wc h rfl ?_ ?_ <;> intro _ h
 refine Wn (Ns (Ct (Pk (Nc (Nb (Ns (Ps (Pb (Ps ?_)))))))))
 refine Pr rfl (w_move_v (.pt be0 0) rfl rfl (Wq rfl (Fb fo49_11 (by decide) rfl 11 rfl (w_load_b (v := w9) rfl szg42 hH (i := 0) rfl rfl rfl (Wm rfl ?_)))))
 refine w_idx_own h rfl elem42 szg91 hH (j := 9) rfl rfl rfl (fun i6429 t25 h hl6429 hv6429 => ?_)
 refine w_load_e rfl szg91 hH (j := 9) rfl hl6429 rfl hv6429 rfl (Wa rfl (Wn (Ns (Ps (Pr rfl (Wm rfl (Wm rfl (w_len_d elem91 rfl (Wb rfl ?_)))))))))
 refine w_idx h rfl elem91 szg9 (fun _ => rfl) rfl rfl (fun t31 h => ?_)
 refine w_load_d szg9 rfl rfl ?_
 refine Wd h rfl ?_ ?_ <;> intro _ h
 refine Wm rfl (Wm rfl (Wm rfl (w_len_d elem91 rfl (Wb rfl ?_))))
 refine w_idx h rfl elem91 szg9 (fun _ => rfl) rfl rfl (fun t39 h => ?_)
 refine w_load_d szg9 rfl rfl ?_
 refine Wd h rfl ?_ ?_ <;> intro _ h
 refine Wf rfl rfl (Wn (Ns (Cf (Pk (Nb (Nb (Nb (Nk (Ns ?_)))))))))
 refine Pr rfl (Wm rfl (Wb rfl (Wa rfl (Wn (Nb (Nb (Nl ?_)))))))
 exact jm 0 (jm 3 (ih_r5_Room_Whole_L1 _ _ h w1 w2 w3 w4 w5 w6 w7 w8 w9 _ _ _ _ _ hH))
 refine Wf rfl rfl (Wn (Ns (Ct (Ps (Pr rfl (Wa rfl (Wn (Ns ?_))))))))
 refine Pt (Cr ?_)
 cases h
 exact prF (.inl rfl) (ra_tmp (.d (.bool false)) rfl (ra_nil)) ⟨w1, w2, w3, w4, w5, w6, w7, w8, w9, rfl, hH⟩
 refine Wm rfl (Wk (Wk (Wk (Wk (Wk (Wk (Wk (Wt rfl rfl (Wn ?_)))))))))
 refine Ns (Ct (Ps (Pr rfl (Wa rfl (Wn (Ns ?_))))))
 refine Pt (Cr ?_)
 cases h
 exact prF (.inl rfl) (ra_tmp (.d (.bool false)) rfl (ra_nil)) ⟨w1, w2, w3, w4, w5, w6, w7, w8, w9, rfl, hH⟩
 refine Wn (Ns (Cf (Px rfl (Nb (Nb (Xs (Xl (Xb (Nb ?_)))))))))
 refine Ns (Ps (Ps (Pr rfl (Wa rfl (Wn (Ns (Pb ?_)))))))
 exact jm 0 (jm 5 (r5_Room_Whole_L2_ok _ _ _ _ _ _ _ _ _ _ _ h w1 w2 w3 w4 w5 w6 w7 w8 w9 _ _ _ _ _ hH))
theorem r5_Room_Whole_ok (nodes : LL NodeT) (stmts : LL StmtT) (tnexts : LL TNextT) (stages : LL TStageT) (groups : LL GroupT) (pairs : LL ConflictT) (dets : LL DetT) (vars : LL VarT) (texts : LL ByteArray) (r : Bool × R9) (h : r5_Room_Whole nodes stmts tnexts stages groups pairs dets vars texts = some r) (be0 : Nat) (we1 : AV) (we2 : AV) (we3 : AV) (we4 : AV) (we5 : AV) (we6 : AV) (we7 : AV) (we8 : AV) (we9 : AV) (H : Hs) (n : Nat) (L : List Jv.Item) (hH : HP H n (.box be0 [we1, we2, we3, .nil, we4, .nil, we5, we6, we7, we8, .nil, we9, .nil, .nil, .nil, .nil, .nil] :: o22_1 we1 nodes :: o58_1 we2 stmts :: o194_1 we3 tnexts :: o93_1 we4 stages :: o86_1 we5 groups :: o87_1 we6 pairs :: o90_1 we7 dets :: o92_1 we8 vars :: o91_1 we9 texts :: L)) : Raw C 27 [.pt be0 0] H n (fun rs H' n' => ∃ w'1 w'2 w'3 w'4 w'5 w'6 w'7 w'8 w'9 : AV, rs = [.d (.bool r.1)] ∧ HP H' n' (.box be0 [w'1, w'2, w'3, .nil, w'4, .nil, w'5, w'6, w'7, w'8, .nil, w'9, .nil, .nil, .nil, .nil, .nil] :: o22_1 w'1 r.2.1 :: o58_1 w'2 r.2.2.1 :: o194_1 w'3 r.2.2.2.1 :: o93_1 w'4 r.2.2.2.2.1 :: o86_1 w'5 r.2.2.2.2.2.1 :: o87_1 w'6 r.2.2.2.2.2.2.1 :: o90_1 w'7 r.2.2.2.2.2.2.2.1 :: o92_1 w'8 r.2.2.2.2.2.2.2.2.1 :: o91_1 w'9 r.2.2.2.2.2.2.2.2.2 :: L)) := by
 refine raw_at fn27 rfl (jmp 0 (.pt be0 0) rfl (Ps (Pr rfl (Wa rfl (Wn (Ns (Ps (Ps (Pr rfl ?_)))))))))
 refine Wa rfl (Wn (Ns (Pb ?_)))
 exact jm 0 (jm 3 (r5_Room_Whole_L1_ok _ _ _ _ _ _ _ _ _ _ _ h we1 we2 we3 we4 we5 we6 we7 we8 we9 _ _ _ _ _ hH))
def r5_Room_Stmts_L1_m (l : List StmtT) (Kind : Int) (Name : ByteArray) (Ix : Int) (At_Line : Int) (At_Col : Int) : r5_Room_Stmts_L1_S → ((List StmtT) × R9) → Prop := fun st r => match st with
  | .c0 nodes stmts tnexts stages groups pairs dets vars texts full i => ∀ (w1 : AV) (w2 : AV) (w3 : AV) (w4 : AV) (w5 : AV) (w6 : AV) (w7 : AV) (w8 : AV) (w9 : AV) (b10 : Nat) (w11 be0 L g H n) (hH : HP H n (.box be0 [w1, w2, w3, .nil, w4, .nil, w5, w6, w7, w8, .nil, w9, .nil, .nil, .nil, .nil, .nil] :: o22_1 w1 nodes :: o58_1 w2 stmts :: o194_1 w3 tnexts :: o93_1 w4 stages :: o86_1 w5 groups :: o87_1 w6 pairs :: o90_1 w7 dets :: o92_1 w8 vars :: o91_1 w9 texts :: .box b10 [.d (.int .i64 Kind), .d (.str Name), .d (.int .i64 Ix), .nil, .d (.int .i64 At_Line), .d (.int .i64 At_Col)] :: o140_6 w11 full :: L)), PAt C (bodyOf Tryd.f29) (.a (.b (.a (.b (.b (.b .o)))))) ⟨upd (upd (upd (upd (upd g 0 (.pt be0 0)) 1 (.d (.lst (l.map StmtT.enc)))) 5 (.pt b10 0)) 6 (w11)) 7 (.d (.int .i64 i)), H, n⟩ (PostR C Tryd.f29 (fun rs H' n' => ∃ w'0 w'2 w'3 w'4 w'5 w'6 w'7 w'8 w'9 w'10 : AV, rs = [w'0] ∧ HP H' n' (.imm w'0 ⟨140, 6⟩ (r.1.map StmtT.enc) :: .box be0 [w'2, w'3, w'4, .nil, w'5, .nil, w'6, w'7, w'8, w'9, .nil, w'10, .nil, .nil, .nil, .nil, .nil] :: o22_1 w'2 r.2.1 :: o58_1 w'3 r.2.2.1 :: o194_1 w'4 r.2.2.2.1 :: o93_1 w'5 r.2.2.2.2.1 :: o86_1 w'6 r.2.2.2.2.2.1 :: o87_1 w'7 r.2.2.2.2.2.2.1 :: o90_1 w'8 r.2.2.2.2.2.2.2.1 :: o92_1 w'9 r.2.2.2.2.2.2.2.2.1 :: o91_1 w'10 r.2.2.2.2.2.2.2.2.2 :: L)))
theorem r5_Room_Stmts_L1_run_ok (l : List StmtT) (Kind : Int) (Name : ByteArray) (Ix : Int) (At_Line : Int) (At_Col : Int) (st : r5_Room_Stmts_L1_S) (r : (List StmtT) × R9) (h : r5_Room_Stmts_L1_run l Kind Name Ix At_Line At_Col st = some r) : r5_Room_Stmts_L1_m l Kind Name Ix At_Line At_Col st r := by
 refine r5_Room_Stmts_L1_run.partial_correctness l Kind Name Ix At_Line At_Col (r5_Room_Stmts_L1_m l Kind Name Ix At_Line At_Col) (fun r5_Room_Stmts_L1_run' ih_ st r h => ?_) st r h
 cases st with
 | c0 nodes stmts tnexts stages groups pairs dets vars texts full i =>
  intro w1 w2 w3 w4 w5 w6 w7 w8 w9 b10 w11 be0 L g H n hH
  refine Po (Ps (Ps (Pr rfl (Wm rfl (Wm rfl (w_len_d elem58 rfl ?_))))))
  refine Wc h rfl ?_ ?_ <;> intro _ h
  refine Wn (Ns (Ct (Pk (Nc (Nb (Ns (Ps (Pb (Ps ?_)))))))))
  refine Pr rfl (Wm rfl (Wm rfl ?_))
  refine w_idx h rfl elem58 szg140 (fun _ => rfl) rfl rfl (fun t18 h => ?_)
  refine w_load_d (d := (StmtT.enc t18)) szg140 rfl rfl ?_
  refine alloc_z rfl zero140 hH (fun b7444 H' n' hH => ?_)
  refine w_store_b (new := (StmtT.av t18)) rfl szg140 hH (i := 0) rfl rfl rfl rfl rfl (Nat.le_of_ble_eq_true rfl) (fun H' hH => ?_)
  refine Wn (Ns (Ps (Pr rfl (w_move_v (.pt be0 0) rfl rfl (Fb fo140_3 (by decide) rfl 3 rfl (Lb szg22 hH (i := 0) rfl rfl rfl ?_))))))
  refine w_raw [.pt be0 0, .d (.lst (t18.Expr.map NodeT.enc))] h rfl rfl sig19 rfl (fun y hy => r5_Room_Nodes_ok _ _ _ _ _ _ _ _ _ _ y hy be0 w1 w2 w3 w4 w5 w6 w7 w8 w9 _ _ (.box b7444 (StmtT.av t18) :: .box b10 [.d (.int .i64 Kind), .d (.str Name), .d (.int .i64 Ix), .nil, .d (.int .i64 At_Line), .d (.int .i64 At_Col)] :: o140_6 w11 full :: L) (hH.selG 13 [1, 2, 3, 4, 5, 6, 7, 8, 9, 10, 0, 11, 12] (by decide) (by decide) (gc rfl (gc rfl (gc rfl (gc rfl (gc rfl (gc rfl (gc rfl (gc rfl (gc rfl (gc rfl (gc rfl (gc rfl (gc rfl (gt rfl)))))))))))))))) (fun t23 rs H' n' h hP => ?_)
  obtain ⟨w6445_0, w6445_2, w6445_3, w6445_4, w6445_5, w6445_6, w6445_7, w6445_8, w6445_9, w6445_10, rfl, hH⟩ := hP
  refine Fb fo140_3 (by decide) rfl 3 rfl ?_
  refine w_store_b1 w6445_0 rfl szg22 hH (i := 11) rfl rfl rfl (hH.okImm (j := 0) rfl).2 (hH.okImm (j := 0) rfl).1 (Nat.le_of_ble_eq_true rfl) (fun H' hH => ?_)
  refine Wn (Ns (Pr rfl (w_move_v (w11) rfl rfl (w_load_b (v := .agg [.d (.int .i64 t18.Kind), .d (.str t18.Name), .d (.int .i64 t18.Ix), w6445_0, .d (.int .i64 t18.At.Line), .d (.int .i64 t18.At.Col)]) rfl szg140 hH (i := 11) rfl rfl rfl ?_))))
  refine w_bslice1 (enc := StmtT.enc) (e := (⟨t18.Kind, t18.Name, t18.Ix, t23.1, t18.At⟩ : StmtT)) (.agg [.d (.int .i64 t18.Kind), .d (.str t18.Name), .d (.int .i64 t18.Ix), w6445_0, .d (.int .i64 t18.At.Line), .d (.int .i64 t18.At.Col)]) rfl elem58 szg140 zero140 (by decide) zd140 (fun _ => rfl) (fun _ => rfl) rfl (FS.agg (FS.d (FS.d (FS.d (FS.imm hH (j := 0) rfl (FS.d (FS.d (FS.nil hH))))))) (fun _ hH => FS.nil hH)) (fun w7446 H' n' hH => ?_)
  refine w_append (enc := StmtT.enc) h rfl elem58 szg140 bytes140 (by decide) (fun _ => rfl) hH (j := 14) rfl rfl (shows_own hH (j := 0) rfl) (fun t28 w7447 H' n' h hH => ?_)
  refine w_assign_v (w7447) rfl rfl (Wn (Nb (Nb (Nk (Ns (Pr rfl (Wm rfl (Wb rfl (Wa rfl ?_)))))))))
  refine Wn (Nb (Nb (Nl ?_)))
  exact jm 0 (jm 1 (jm 5 (jm 6 (jm 7 (ih_ (.c0 _ _ _ _ _ _ _ _ _ _ _) _ h w6445_2 w6445_3 w6445_4 w6445_5 w6445_6 w6445_7 w6445_8 w6445_9 w6445_10 b10 w7447 _ _ _ _ _ (hH.selG 15 [3, 4, 5, 6, 7, 8, 9, 10, 11, 12, 14, 0] (by decide) (by decide) (gc rfl (gc rfl (gc rfl (gc rfl (gc rfl (gc rfl (gc rfl (gc rfl (gc rfl (gc rfl (gc rfl (gc rfl (gt rfl)))))))))))))))))))
  refine Wn (Ns (Cf (Px rfl (Nb (Nb (Xs (Xl (Xb (Nb ?_)))))))))
  refine Ns (Ps (Pr rfl (w_move_v (w11) rfl rfl (w_load_b (v := .agg [.d (.int .i64 Kind), .d (.str Name), .d (.int .i64 Ix), .nil, .d (.int .i64 At_Line), .d (.int .i64 At_Col)]) rfl szg140 hH (i := 10) rfl rfl rfl (w_load_b (v := .agg [.d (.int .i64 Kind), .d (.str Name), .d (.int .i64 Ix), .nil, .d (.int .i64 At_Line), .d (.int .i64 At_Col)]) rfl szg140 hH (i := 10) rfl rfl rfl ?_)))))
  refine w_bslice (enc := StmtT.enc) (xs := [(⟨Kind, Name, Ix, [], (⟨At_Line, At_Col⟩ : PosT)⟩ : StmtT), (⟨Kind, Name, Ix, [], (⟨At_Line, At_Col⟩ : PosT)⟩ : StmtT)]) [.agg [.d (.int .i64 Kind), .d (.str Name), .d (.int .i64 Ix), .nil, .d (.int .i64 At_Line), .d (.int .i64 At_Col)], .agg [.d (.int .i64 Kind), .d (.str Name), .d (.int .i64 Ix), .nil, .d (.int .i64 At_Line), .d (.int .i64 At_Col)]] rfl elem58 szg140 zero140 ⟨by decide, Nat.le_of_ble_eq_true rfl⟩ zd140 (fun _ => rfl) (fun _ => rfl) rfl rfl hH (fun w7448 H' n' hH => ?_)
  refine w_append (enc := StmtT.enc) h rfl elem58 szg140 bytes140 (by decide) (fun _ => rfl) hH (j := 12) rfl rfl (shows_own hH (j := 0) rfl) (fun t33 w7449 H' n' h hH => ?_)
  refine w_assign_v (w7449) rfl rfl (Wn (Ns (Ps (Pr rfl (w_move_v (.pt be0 0) rfl rfl (w_move_v (.pt be0 0) rfl rfl (Wq rfl (Fb fo49_1 (by decide) rfl 1 rfl (w_load_b (v := w2) rfl szg32 hH (i := 2) rfl rfl rfl ?_)))))))))
  refine w_move_v (w7449) rfl rfl ?_
  refine w_bslice1 (enc := (eL StmtT.enc)) (e := t33) (w7449) rfl elem32 szg58 zero58 (by decide) zd58 (fun _ => rfl) (fun _ => rfl) rfl (FS.own hH (j := 0) rfl (fun _ hH => FS.nil hH)) (fun w7450 H' n' hH => ?_)
  refine w_append (enc := (eL StmtT.enc)) h rfl elem32 szg58 bytes58 (by decide) (fun _ => rfl) hH (j := 5) rfl rfl (shows_own hH (j := 0) rfl) (fun t41 w7451 H' n' h hH => ?_)
  refine Wq rfl (Fb fo49_1 (by decide) rfl 1 rfl ?_)
  refine w_store_b1 w7451 rfl szg32 hH (i := 4) rfl rfl rfl (hH.okOwn (j := 0) rfl).2 (hH.okOwn (j := 0) rfl).1 (Nat.le_of_ble_eq_true rfl) (fun H' hH => ?_)
  refine Wn (Ns (Ps (Pr rfl (w_move_v (w7449) rfl rfl (Wm rfl (w_len_d elem58 rfl ?_))))))
  refine w_cut_imm h rfl elem58 szg140 hH (j := 2) rfl rfl (lh_nh) (fun t47 w7452 h hH => ?_)
  refine w_assign_v (w7452) rfl rfl (Wn (Ns ?_))
  refine Pt (Cr ?_)
  cases h
  exact prF (.inl rfl) (ra_tmp (w7452) rfl (ra_nil)) ⟨w7452, w1, w7451, w3, w4, w5, w6, w7, w8, w9, rfl, (hH.selG 15 [0, 5, 6, 1, 7, 8, 9, 10, 11, 12, 13] (by decide) (by decide) (gc rfl (gc rfl (gc rfl (gc rfl (gc rfl (gc rfl (gc rfl (gc rfl (gc rfl (gc rfl (gc rfl (gt rfl)))))))))))))⟩
theorem r5_Room_Stmts_L1_ok (nodes : LL NodeT) (stmts : LL StmtT) (tnexts : LL TNextT) (stages : LL TStageT) (groups : LL GroupT) (pairs : LL ConflictT) (dets : LL DetT) (vars : LL VarT) (texts : LL ByteArray) (l : List StmtT) (Kind : Int) (Name : ByteArray) (Ix : Int) (At_Line : Int) (At_Col : Int) (full : List StmtT) (i : Int) (r : (List StmtT) × R9) (h : r5_Room_Stmts_L1 nodes stmts tnexts stages groups pairs dets vars texts l Kind Name Ix At_Line At_Col full i = some r) : r5_Room_Stmts_L1_m l Kind Name Ix At_Line At_Col (.c0 nodes stmts tnexts stages groups pairs dets vars texts full i) r := r5_Room_Stmts_L1_run_ok l Kind Name Ix At_Line At_Col (.c0 nodes stmts tnexts stages groups pairs dets vars texts full i) r h
end Go.Proofs.YtdcpfmjnkcodiaaDoor.We
namespace Go.Proofs.YtdcpfmjnkcodiaaDoor.We
open Go Go.Jv
set_option maxHeartbeats 4000000
open Go.Proofs
set_option maxHeartbeats 4000000
theorem r5_Room_Stmts_ok (nodes : LL NodeT) (stmts : LL StmtT) (tnexts : LL TNextT) (stages : LL TStageT) (groups : LL GroupT) (pairs : LL ConflictT) (dets : LL DetT) (vars : LL VarT) (texts : LL ByteArray) (l : List StmtT) (r : (List StmtT) × R9) (h : r5_Room_Stmts nodes stmts tnexts stages groups pairs dets vars texts l = some r) (be0 : Nat) (we1 : AV) (we2 : AV) (we3 : AV) (we4 : AV) (we5 : AV) (we6 : AV) (we7 : AV) (we8 : AV) (we9 : AV) (H : Hs) (n : Nat) (L : List Jv.Item) (hH : HP H n (.box be0 [we1, we2, we3, .nil, we4, .nil, we5, we6, we7, we8, .nil, we9, .nil, .nil, .nil, .nil, .nil] :: o22_1 we1 nodes :: o58_1 we2 stmts :: o194_1 we3 tnexts :: o93_1 we4 stages :: o86_1 we5 groups :: o87_1 we6 pairs :: o90_1 we7 dets :: o92_1 we8 vars :: o91_1 we9 texts :: L)) : Raw C 29 [.pt be0 0, .d (.lst (l.map StmtT.enc))] H n (fun rs H' n' => ∃ w'0 w'2 w'3 w'4 w'5 w'6 w'7 w'8 w'9 w'10 : AV, rs = [w'0] ∧ HP H' n' (.imm w'0 ⟨140, 6⟩ (r.1.map StmtT.enc) :: .box be0 [w'2, w'3, w'4, .nil, w'5, .nil, w'6, w'7, w'8, w'9, .nil, w'10, .nil, .nil, .nil, .nil, .nil] :: o22_1 w'2 r.2.1 :: o58_1 w'3 r.2.2.1 :: o194_1 w'4 r.2.2.2.1 :: o93_1 w'5 r.2.2.2.2.1 :: o86_1 w'6 r.2.2.2.2.2.1 :: o87_1 w'7 r.2.2.2.2.2.2.1 :: o90_1 w'8 r.2.2.2.2.2.2.2.1 :: o92_1 w'9 r.2.2.2.2.2.2.2.2.1 :: o91_1 w'10 r.2.2.2.2.2.2.2.2.2 :: L)) := by
 refine raw_at fn29 rfl (jmp 0 (.pt be0 0) rfl (jmp 1 (.d (.lst (l.map StmtT.enc))) rfl (Ps (Pr rfl (w_assign_v (.nil) rfl rfl (Wn (Ns (Ps (Pr rfl ?_)))))))))
 refine w_build (cs := [.d (.int .i64 4444), .d (.str ⟨#[]⟩), .d (.int .i64 0), .nil, .d (.int .i64 0), .d (.int .i64 0)]) rfl zero140 places140 rfl ?_
 refine alloc_z rfl zero140 hH (fun b7443 H' n' hH => ?_)
 refine w_store_b (new := [.d (.int .i64 4444), .d (.str ⟨#[]⟩), .d (.int .i64 0), .nil, .d (.int .i64 0), .d (.int .i64 0)]) rfl szg140 hH (i := 0) rfl rfl rfl rfl rfl (Nat.le_of_ble_eq_true rfl) (fun H' hH => ?_)
 refine Wn (Ns (Ps (Pr rfl (w_assign_v (.nil) rfl rfl (Wn (Ns (Ps (Ps (Pr rfl ?_)))))))))
 refine Wa rfl (Wn (Ns (Pb ?_)))
 exact jm 0 (jm 1 (jm 5 (jm 6 (jm 7 (r5_Room_Stmts_L1_ok _ _ _ _ _ _ _ _ _ _ _ _ _ _ _ _ _ _ h we1 we2 we3 we4 we5 we6 we7 we8 we9 b7443 .nil _ _ _ _ _ ((hH.addNil (z := ⟨140, 6⟩)).selG 12 [2, 3, 4, 5, 6, 7, 8, 9, 10, 11, 1, 0] (by decide) (by decide) (gc rfl (gc rfl (gc rfl (gc rfl (gc rfl (gc rfl (gc rfl (gc rfl (gc rfl (gc rfl (gc rfl (gc rfl (gt rfl)))))))))))))))))))
theorem r5_Room_Tables_ok (t : TablesT) (r : (List GroupT) × (List ConflictT) × (LL GroupT) × (LL ConflictT)) (h : r5_Room_Tables t = some r) (be0 : Nat) (H : Hs) (n : Nat) (L : List Jv.Item) (hH : HP H n (.box be0 [.nil, .nil, .nil, .nil, .nil, .nil, .nil, .nil, .nil, .nil, .nil, .nil, .nil, .nil, .nil, .nil, .nil] :: L)) : Raw C 110 [.pt be0 0, .agg (TablesT.av t)] H n (fun rs H' n' => ∃ w'0 w'1 w'3 w'4 : AV, rs = [.agg [w'0, w'1]] ∧ HP H' n' (.imm w'0 ⟨200, 5⟩ (r.1.map GroupT.enc) :: .imm w'1 ⟨203, 4⟩ (r.2.1.map ConflictT.enc) :: .box be0 [.nil, .nil, .nil, .nil, .nil, .nil, w'3, w'4, .nil, .nil, .nil, .nil, .nil, .nil, .nil, .nil, .nil] :: o86_1 w'3 r.2.2.1 :: o87_1 w'4 r.2.2.2 :: L)) := by
 refine raw_at fn110 rfl (jmp 0 (.pt be0 0) rfl (jmp 1 (.agg (TablesT.av t)) rfl (Ps (Pr rfl ?_))))
 refine w_box (cs := (TablesT.av t)) rfl szg89 rfl rfl rfl hH (fun b7453 H' n' hH => ?_)
 refine alloc_z rfl zero89 hH (fun b7454 H' n' hH => ?_)
 refine Wn (Ns (Ps (Pr rfl (w_build (cs := [.d (.str ⟨#[]⟩), .d (.int .i64 0), .d (.int .i64 4444), .d (.int .i64 0), .d (.int .i64 0)]) rfl zero200 places200 rfl ?_))))
 refine alloc_z rfl zero200 hH (fun b7455 H' n' hH => ?_)
 refine w_store_b (new := [.d (.str ⟨#[]⟩), .d (.int .i64 0), .d (.int .i64 4444), .d (.int .i64 0), .d (.int .i64 0)]) rfl szg200 hH (i := 0) rfl rfl rfl rfl rfl (Nat.le_of_ble_eq_true rfl) (fun H' hH => ?_)
 refine Wn (Ns (Ps (Pr rfl (w_build (cs := [.d (.int .i64 4444), .d (.int .i64 0), .d (.int .i64 0), .d (.int .i64 0)]) rfl zero203 places203 rfl ?_))))
 refine alloc_z rfl zero203 hH (fun b7456 H' n' hH => ?_)
 refine w_store_b (new := [.d (.int .i64 4444), .d (.int .i64 0), .d (.int .i64 0), .d (.int .i64 0)]) rfl szg203 hH (i := 0) rfl rfl rfl rfl rfl (Nat.le_of_ble_eq_true rfl) (fun H' hH => ?_)
 refine Wn (Ns (Ps (p_fts (pz := [(1, 3), (2, 3), (1, 4), (2, 4), (3, 4), (1, 5), (2, 5)]) rfl rfl (by kernel_rfl) (by kernel_rfl) (x_op (v := .pt b7453 0) (noFt) rfl (o_faddr fo89_0 (by decide) rfl) ⟨rfl, rfl⟩ (x_op (v := .d (.lst (t.Groups.map GroupT.enc))) (.of [b7453] []) rfl (o_load_b szg86 hH (i := 3) rfl rfl rfl) ⟨rfl, rfl⟩ ?_)))))
 have hH := hH.addNil (z := ⟨200, 5⟩)
 refine x_append (enc := GroupT.enc) (.d (.lst (t.Groups.map GroupT.enc))) h rfl elem86 szg200 bytes200 (by decide) (fun _ => rfl) hH (j := 0) rfl rfl rfl shows_d (fun t13 w7457 i6457 H' n6457 h hH hoff6457 hn6457 hi6457 => ?_)
 have hof6457_0 := hoff6457.box (k := 0) rfl
 have hof6457_1 := hoff6457.box (k := 1) rfl
 have hof6457_2 := hoff6457.box (k := 2) rfl
 have hof6457_3 := hoff6457.box (k := 3) rfl
 have hof6457_4 := hoff6457.box (k := 4) rfl
 have hof6457 := hoff6457.2
 clear hoff6457
 refine x_op (v := .agg [.d (.str ⟨#[]⟩), .d (.int .i64 0), .d (.int .i64 4444), .d (.int .i64 0), .d (.int .i64 0)]) (.of [b7455] []) rfl (o_load_b szg200 hH (i := 2) rfl rfl rfl) ⟨rfl, rfl⟩ (x_op (v := .agg [.d (.str ⟨#[]⟩), .d (.int .i64 0), .d (.int .i64 4444), .d (.int .i64 0), .d (.int .i64 0)]) (.of [b7455] []) rfl (o_load_b szg200 hH (i := 2) rfl rfl rfl) ⟨rfl, rfl⟩ ?_)
 refine x_bslice (enc := GroupT.enc) (xs := [(⟨⟨#[]⟩, 0, 4444, 0, 0⟩ : GroupT), (⟨⟨#[]⟩, 0, 4444, 0, 0⟩ : GroupT)]) [.agg [.d (.str ⟨#[]⟩), .d (.int .i64 0), .d (.int .i64 4444), .d (.int .i64 0), .d (.int .i64 0)], .agg [.d (.str ⟨#[]⟩), .d (.int .i64 0), .d (.int .i64 4444), .d (.int .i64 0), .d (.int .i64 0)]] rfl elem86 szg200 zero200 ⟨by decide, Nat.le_of_ble_eq_true rfl⟩ zd200 (fun _ => rfl) (fun _ => rfl) rfl rfl rfl hH (fun w7458 i6458 H' n6458 hH hoff6458 hn6458 hi6458 => ?_)
 have hof6458_0 := hoff6458.own (k := 0) rfl
 have hof6458_1 := hoff6458.box (k := 1) rfl
 have hof6458_2 := hoff6458.box (k := 2) rfl
 have hof6458_3 := hoff6458.box (k := 3) rfl
 have hof6458_4 := hoff6458.box (k := 4) rfl
 have hof6458_5 := hoff6458.box (k := 5) rfl
 have hof6458 := hoff6458.2
 clear hoff6458
 refine x_append (enc := GroupT.enc) (w7458) h rfl elem86 szg200 bytes200 (by decide) (fun _ => rfl) hH (j := 1) rfl rfl rfl (shows_own hH (j := 0) rfl) (fun t17 w7459 i6459 H' n6459 h hH hoff6459 hn6459 hi6459 => ?_)
 have hof6459_0 := hoff6459.own (k := 0) rfl
 have hof6459_1 := hoff6459.box (k := 1) rfl
 have hof6459_2 := hoff6459.box (k := 2) rfl
 have hof6459_3 := hoff6459.box (k := 3) rfl
 have hof6459_4 := hoff6459.box (k := 4) rfl
 have hof6459_5 := hoff6459.box (k := 5) rfl
 have hof6459 := hoff6459.2
 clear hoff6459
 refine x_op (v := w7459) (noFt) rfl (o_assign) ⟨rfl, rfl⟩ (x_nil (n := 8) rfl (pkc 6 4 rfl rfl rfl rfl nc_rr (pkc 5 4 rfl rfl rfl rfl (nc_of (by grind [idOf]) (by grind [idOf]) (by grind [idOf])) (pkc 6 3 rfl rfl rfl rfl nc_rr (pkc 5 3 rfl rfl rfl rfl (nc_of (by grind [idOf]) (by grind [idOf]) (by grind [idOf])) (pkc 4 3 rfl rfl rfl rfl nc_rr (pkc 6 2 rfl rfl rfl rfl (nc_of (by grind [idOf]) (by grind [idOf]) (by grind [idOf])) (pkc 5 2 rfl rfl rfl rfl (nc_of (by grind [idOf]) (by grind [idOf]) (by grind [idOf])) (pkn)))))))) (Ns (Ps (p_fts (pz := [(1, 3), (2, 3), (1, 4), (2, 4), (3, 4), (1, 5), (2, 5)]) rfl rfl (by kernel_rfl) (by kernel_rfl) (x_op (v := .pt b7453 1) (noFt) rfl (o_faddr fo89_1 (by decide) rfl) ⟨rfl, rfl⟩ (x_op (v := .d (.lst (t.Conflicts.map ConflictT.enc))) (.of [b7453] []) rfl (o_load_b szg87 hH (i := 5) rfl rfl rfl) ⟨rfl, rfl⟩ ?_))))))
 have hH := hH.addNil (z := ⟨203, 4⟩)
 refine x_append (enc := ConflictT.enc) (.d (.lst (t.Conflicts.map ConflictT.enc))) h rfl elem87 szg203 bytes203 (by decide) (fun _ => rfl) hH (j := 0) rfl rfl rfl shows_d (fun t20 w7460 i6460 H' n6460 h hH hoff6460 hn6460 hi6460 => ?_)
 have hof6460_0 := hoff6460.own (k := 0) rfl
 have hof6460_1 := hoff6460.own (k := 1) rfl
 have hof6460_2 := hoff6460.box (k := 2) rfl
 have hof6460_3 := hoff6460.box (k := 3) rfl
 have hof6460_4 := hoff6460.box (k := 4) rfl
 have hof6460_5 := hoff6460.box (k := 5) rfl
 have hof6460_6 := hoff6460.box (k := 6) rfl
 have hof6460 := hoff6460.2
 clear hoff6460
 refine x_op (v := .agg [.d (.int .i64 4444), .d (.int .i64 0), .d (.int .i64 0), .d (.int .i64 0)]) (.of [b7456] []) rfl (o_load_b szg203 hH (i := 3) rfl rfl rfl) ⟨rfl, rfl⟩ (x_op (v := .agg [.d (.int .i64 4444), .d (.int .i64 0), .d (.int .i64 0), .d (.int .i64 0)]) (.of [b7456] []) rfl (o_load_b szg203 hH (i := 3) rfl rfl rfl) ⟨rfl, rfl⟩ ?_)
 refine x_bslice (enc := ConflictT.enc) (xs := [(⟨4444, 0, 0, 0⟩ : ConflictT), (⟨4444, 0, 0, 0⟩ : ConflictT)]) [.agg [.d (.int .i64 4444), .d (.int .i64 0), .d (.int .i64 0), .d (.int .i64 0)], .agg [.d (.int .i64 4444), .d (.int .i64 0), .d (.int .i64 0), .d (.int .i64 0)]] rfl elem87 szg203 zero203 ⟨by decide, Nat.le_of_ble_eq_true rfl⟩ zd203 (fun _ => rfl) (fun _ => rfl) rfl rfl rfl hH (fun w7461 i6461 H' n6461 hH hoff6461 hn6461 hi6461 => ?_)
 have hof6461_0 := hoff6461.own (k := 0) rfl
 have hof6461_1 := hoff6461.own (k := 1) rfl
 have hof6461_2 := hoff6461.own (k := 2) rfl
 have hof6461_3 := hoff6461.box (k := 3) rfl
 have hof6461_4 := hoff6461.box (k := 4) rfl
 have hof6461_5 := hoff6461.box (k := 5) rfl
 have hof6461_6 := hoff6461.box (k := 6) rfl
 have hof6461_7 := hoff6461.box (k := 7) rfl
 have hof6461 := hoff6461.2
 clear hoff6461
 refine x_append (enc := ConflictT.enc) (w7461) h rfl elem87 szg203 bytes203 (by decide) (fun _ => rfl) hH (j := 1) rfl rfl rfl (shows_own hH (j := 0) rfl) (fun t24 w7462 i6462 H' n6462 h hH hoff6462 hn6462 hi6462 => ?_)
 have hof6462_0 := hoff6462.own (k := 0) rfl
 have hof6462_1 := hoff6462.own (k := 1) rfl
 have hof6462_2 := hoff6462.own (k := 2) rfl
 have hof6462_3 := hoff6462.box (k := 3) rfl
 have hof6462_4 := hoff6462.box (k := 4) rfl
 have hof6462_5 := hoff6462.box (k := 5) rfl
 have hof6462_6 := hoff6462.box (k := 6) rfl
 have hof6462_7 := hoff6462.box (k := 7) rfl
 have hof6462 := hoff6462.2
 clear hoff6462
 refine x_op (v := w7462) (noFt) rfl (o_assign) ⟨rfl, rfl⟩ (x_nil (n := 8) rfl (pkc 6 4 rfl rfl rfl rfl nc_rr (pkc 5 4 rfl rfl rfl rfl (nc_of (by grind [idOf]) (by grind [idOf]) (by grind [idOf])) (pkc 6 3 rfl rfl rfl rfl nc_rr (pkc 5 3 rfl rfl rfl rfl (nc_of (by grind [idOf]) (by grind [idOf]) (by grind [idOf])) (pkc 4 3 rfl rfl rfl rfl nc_rr (pkc 6 2 rfl rfl rfl rfl (nc_of (by grind [idOf]) (by grind [idOf]) (by grind [idOf])) (pkc 5 2 rfl rfl rfl rfl (nc_of (by grind [idOf]) (by grind [idOf]) (by grind [idOf])) (pkn)))))))) (Ns (Ps (Pr rfl (w_move_v (.pt be0 0) rfl rfl (w_move_v (.pt be0 0) rfl rfl (Wq rfl (Fb fo49_6 (by decide) rfl 6 rfl (w_load_b (v := .nil) rfl szg37 hH (i := 8) rfl rfl rfl ?_)))))))))
 refine w_move_v (w7459) rfl rfl ?_
 refine w_bslice1 (enc := (eL GroupT.enc)) (e := t17) (w7459) rfl elem37 szg86 zero86 (by decide) zd86 (fun _ => rfl) (fun _ => rfl) rfl (FS.own hH (j := 2) rfl (fun _ hH => FS.nil hH)) (fun w7463 H' n' hH => ?_)
 have hH := hH.addNil (z := ⟨86, 1⟩)
 refine w_append (enc := (eL GroupT.enc)) h rfl elem37 szg86 bytes86 (by decide) (fun _ => rfl) hH (j := 0) rfl rfl (shows_own hH (j := 1) rfl) (fun t32 w7464 H' n' h hH => ?_)
 refine Wq rfl (Fb fo49_6 (by decide) rfl 6 rfl ?_)
 refine w_store_b1 w7464 rfl szg37 hH (i := 10) rfl rfl rfl (hH.okOwn (j := 0) rfl).2 (hH.okOwn (j := 0) rfl).1 (Nat.le_of_ble_eq_true rfl) (fun H' hH => ?_)
 refine Wn (Ns (Ps (Pr rfl (w_move_v (.pt be0 0) rfl rfl (w_move_v (.pt be0 0) rfl rfl (Wq rfl (Fb fo49_7 (by decide) rfl 7 rfl (w_load_b (v := .nil) rfl szg38 hH (i := 10) rfl rfl rfl (w_move_v (w7462) rfl rfl ?_)))))))))
 refine w_bslice1 (enc := (eL ConflictT.enc)) (e := t24) (w7462) rfl elem38 szg87 zero87 (by decide) zd87 (fun _ => rfl) (fun _ => rfl) rfl (FS.own hH (j := 2) rfl (fun _ hH => FS.nil hH)) (fun w7465 H' n' hH => ?_)
 have hH := hH.addNil (z := ⟨87, 1⟩)
 refine w_append (enc := (eL ConflictT.enc)) h rfl elem38 szg87 bytes87 (by decide) (fun _ => rfl) hH (j := 0) rfl rfl (shows_own hH (j := 1) rfl) (fun t42 w7466 H' n' h hH => ?_)
 refine Wq rfl (Fb fo49_7 (by decide) rfl 7 rfl ?_)
 refine w_store_b1 w7466 rfl szg38 hH (i := 12) rfl rfl rfl (hH.okOwn (j := 0) rfl).2 (hH.okOwn (j := 0) rfl).1 (Nat.le_of_ble_eq_true rfl) (fun H' hH => ?_)
 refine Wn (Ns (Ps (p_fts (pz := [(2, 7), (4, 7), (2, 9), (4, 9)]) rfl rfl (by kernel_rfl) (by kernel_rfl) (x_op (v := w7459) (noFt) rfl (o_move) ⟨rfl, rfl⟩ (x_op (v := .pt b7453 0) (noFt) rfl (o_faddr fo89_0 (by decide) rfl) ⟨rfl, rfl⟩ (x_op (v := .d (.lst (t.Groups.map GroupT.enc))) (.of [b7453] []) rfl (o_load_b szg86 hH (i := 11) rfl rfl rfl) ⟨rfl, rfl⟩ (x_op (v := .d (.int .i64 (t.Groups.length : Int))) (noFt) rfl (o_len_d elem86 rfl) ⟨rfl, rfl⟩ ?_)))))))
 refine x_cut_imm (enc := GroupT.enc) h rfl elem86 szg200 hH (j := 6) rfl rfl (lh_nh) (fun t49 w7467 h hH => ?_)
 refine x_op (v := w7462) (noFt) rfl (o_move) ⟨rfl, rfl⟩ (x_op (v := .pt b7453 1) (noFt) rfl (o_faddr fo89_1 (by decide) rfl) ⟨rfl, rfl⟩ (x_op (v := .d (.lst (t.Conflicts.map ConflictT.enc))) (.of [b7453] []) rfl (o_load_b szg87 hH (i := 12) rfl rfl rfl) ⟨rfl, rfl⟩ (x_op (v := .d (.int .i64 (t.Conflicts.length : Int))) (noFt) rfl (o_len_d elem87 rfl) ⟨rfl, rfl⟩ ?_)))
 refine x_cut_imm (enc := ConflictT.enc) h rfl elem87 szg203 hH (j := 5) rfl rfl (lh_nh) (fun t54 w7468 h hH => ?_)
 refine x_op (v := .agg [w7467, w7468]) (noFt) rfl (o_buildS zero89 places89 (by show fillA okCells _ _ [(0, w7467), (1, w7468)] = _; simp only [fillA, okCells_own (hH.okImm (j := 1) rfl), okCells_own (hH.okImm (j := 0) rfl)]; rfl)) ⟨rfl, rfl⟩ ?_
 refine x_store (new := [w7467, w7468]) [w7467, w7468] rfl szg89 hH (i := 12) rfl rfl rfl rfl (by simp only [List.all_cons, List.all_nil, (hH.okImm (j := 1) rfl).1, (hH.okImm (j := 0) rfl).1]; rfl) (Nat.le_of_ble_eq_true rfl) rfl (fun H' hH => ?_)
 refine x_nil (n := 12) rfl (pkc 9 4 rfl rfl rfl rfl nc_rr (pkc 7 4 rfl rfl rfl rfl nc_rr (pkc 9 2 rfl rfl rfl rfl nc_rr (pkc 7 2 rfl rfl rfl rfl nc_rr (pkn))))) (Ns ?_)
 refine Pt (Cr ?_)
 cases h
 exact prF (.inl rfl) (ra_cell (.agg [w7467, w7468]) szg89 hH (i := 12) rfl rfl rfl (ra_nil)) ⟨w7467, w7468, w7464, w7466, rfl, (hH.selG 15 [1, 0, 14, 4, 2] (by decide) (by decide) (gc rfl (gc rfl (gc rfl (gc rfl (gc rfl (gt rfl)))))))⟩
theorem r5_Room_Dets_ok (groups : LL GroupT) (pairs : LL ConflictT) (l : List DetT) (r : (List DetT) × (LL GroupT) × (LL ConflictT) × (LL DetT)) (h : r5_Room_Dets groups pairs l = some r) (be0 : Nat) (we1 : AV) (we2 : AV) (H : Hs) (n : Nat) (L : List Jv.Item) (hH : HP H n (.box be0 [.nil, .nil, .nil, .nil, .nil, .nil, we1, we2, .nil, .nil, .nil, .nil, .nil, .nil, .nil, .nil, .nil] :: o86_1 we1 groups :: o87_1 we2 pairs :: L)) : Raw C 111 [.pt be0 0, .d (.lst (l.map DetT.enc))] H n (fun rs H' n' => ∃ w'0 w'2 w'3 w'4 : AV, rs = [w'0] ∧ HP H' n' (.imm w'0 ⟨207, 4⟩ (r.1.map DetT.enc) :: .box be0 [.nil, .nil, .nil, .nil, .nil, .nil, w'2, w'3, w'4, .nil, .nil, .nil, .nil, .nil, .nil, .nil, .nil] :: o86_1 w'2 r.2.1 :: o87_1 w'3 r.2.2.1 :: o90_1 w'4 r.2.2.2 :: L)) := by
 refine raw_at fn111 rfl (jmp 0 (.pt be0 0) rfl (jmp 1 (.d (.lst (l.map DetT.enc))) rfl (Ps (Pr rfl (w_assign_v (.nil) rfl rfl (Wn (Ns (Ps (Pr rfl ?_)))))))))
 refine w_build (cs := [.d (.str ⟨#[]⟩), .d (.bool false), .d (.int .i64 4444), .d (.int .i64 0)]) rfl zero207 places207 rfl ?_
 refine alloc_z rfl zero207 hH (fun b7470 H' n' hH => ?_)
 refine w_store_b (new := [.d (.str ⟨#[]⟩), .d (.bool false), .d (.int .i64 4444), .d (.int .i64 0)]) rfl szg207 hH (i := 0) rfl rfl rfl rfl rfl (Nat.le_of_ble_eq_true rfl) (fun H' hH => ?_)
 refine Wn (Ns (Ps (p_fts (pz := [(1, 2), (1, 3), (2, 3), (1, 4)]) rfl rfl (by kernel_rfl) (by kernel_rfl) (x_op (v := .d (.lst (l.map DetT.enc))) (noFt) rfl (o_move) ⟨rfl, rfl⟩ ?_))))
 have hH := hH.addNil (z := ⟨207, 4⟩)
 refine x_append (enc := DetT.enc) (.d (.lst (l.map DetT.enc))) h rfl elem90 szg207 bytes207 (by decide) (fun _ => rfl) hH (j := 0) rfl rfl rfl shows_d (fun t9 w7471 i6471 H' n6471 h hH hoff6471 hn6471 hi6471 => ?_)
 have hof6471_0 := hoff6471.box (k := 0) rfl
 have hof6471_1 := hoff6471.box (k := 1) rfl
 have hof6471_2 := hoff6471.own (k := 2) rfl
 have hof6471_3 := hoff6471.own (k := 3) rfl
 have hof6471 := hoff6471.2
 clear hoff6471
 refine x_op (v := .agg [.d (.str ⟨#[]⟩), .d (.bool false), .d (.int .i64 4444), .d (.int .i64 0)]) (.of [b7470] []) rfl (o_load_b szg207 hH (i := 1) rfl rfl rfl) ⟨rfl, rfl⟩ (x_op (v := .agg [.d (.str ⟨#[]⟩), .d (.bool false), .d (.int .i64 4444), .d (.int .i64 0)]) (.of [b7470] []) rfl (o_load_b szg207 hH (i := 1) rfl rfl rfl) ⟨rfl, rfl⟩ ?_)
 refine x_bslice (enc := DetT.enc) (xs := [(⟨⟨#[]⟩, false, 4444, 0⟩ : DetT), (⟨⟨#[]⟩, false, 4444, 0⟩ : DetT)]) [.agg [.d (.str ⟨#[]⟩), .d (.bool false), .d (.int .i64 4444), .d (.int .i64 0)], .agg [.d (.str ⟨#[]⟩), .d (.bool false), .d (.int .i64 4444), .d (.int .i64 0)]] rfl elem90 szg207 zero207 ⟨by decide, Nat.le_of_ble_eq_true rfl⟩ zd207 (fun _ => rfl) (fun _ => rfl) rfl rfl rfl hH (fun w7472 i6472 H' n6472 hH hoff6472 hn6472 hi6472 => ?_)
 have hof6472_0 := hoff6472.own (k := 0) rfl
 have hof6472_1 := hoff6472.box (k := 1) rfl
 have hof6472_2 := hoff6472.box (k := 2) rfl
 have hof6472_3 := hoff6472.own (k := 3) rfl
 have hof6472_4 := hoff6472.own (k := 4) rfl
 have hof6472 := hoff6472.2
 clear hoff6472
 refine x_append (enc := DetT.enc) (w7472) h rfl elem90 szg207 bytes207 (by decide) (fun _ => rfl) hH (j := 1) rfl rfl rfl (shows_own hH (j := 0) rfl) (fun t13 w7473 i6473 H' n6473 h hH hoff6473 hn6473 hi6473 => ?_)
 have hof6473_0 := hoff6473.own (k := 0) rfl
 have hof6473_1 := hoff6473.box (k := 1) rfl
 have hof6473_2 := hoff6473.box (k := 2) rfl
 have hof6473_3 := hoff6473.own (k := 3) rfl
 have hof6473_4 := hoff6473.own (k := 4) rfl
 have hof6473 := hoff6473.2
 clear hoff6473
 refine x_op (v := w7473) (noFt) rfl (o_assign) ⟨rfl, rfl⟩ (x_nil (n := 7) rfl (pkc 5 4 rfl rfl rfl rfl (nc_of (by grind [idOf]) (by grind [idOf]) (by grind [idOf])) (pkc 5 3 rfl rfl rfl rfl (nc_of (by grind [idOf]) (by grind [idOf]) (by grind [idOf])) (pkc 4 3 rfl rfl rfl rfl nc_rr (pkc 5 2 rfl rfl rfl rfl (nc_of (by grind [idOf]) (by grind [idOf]) (by grind [idOf])) (pkn))))) (Ns (Ps (Pr rfl (w_move_v (.pt be0 0) rfl rfl (w_move_v (.pt be0 0) rfl rfl (Wq rfl (Fb fo49_8 (by decide) rfl 8 rfl (w_load_b (v := .nil) rfl szg39 hH (i := 3) rfl rfl rfl ?_)))))))))
 refine w_move_v (w7473) rfl rfl ?_
 refine w_bslice1 (enc := (eL DetT.enc)) (e := t13) (w7473) rfl elem39 szg90 zero90 (by decide) zd90 (fun _ => rfl) (fun _ => rfl) rfl (FS.own hH (j := 0) rfl (fun _ hH => FS.nil hH)) (fun w7474 H' n' hH => ?_)
 have hH := hH.addNil (z := ⟨90, 1⟩)
 refine w_append (enc := (eL DetT.enc)) h rfl elem39 szg90 bytes90 (by decide) (fun _ => rfl) hH (j := 0) rfl rfl (shows_own hH (j := 1) rfl) (fun t21 w7475 H' n' h hH => ?_)
 refine Wq rfl (Fb fo49_8 (by decide) rfl 8 rfl ?_)
 refine w_store_b1 w7475 rfl szg39 hH (i := 5) rfl rfl rfl (hH.okOwn (j := 0) rfl).2 (hH.okOwn (j := 0) rfl).1 (Nat.le_of_ble_eq_true rfl) (fun H' hH => ?_)
 refine Wn (Ns (Ps (Pr rfl (w_move_v (w7473) rfl rfl (Wm rfl (w_len_d elem90 rfl ?_))))))
 refine w_cut_imm h rfl elem90 szg207 hH (j := 2) rfl rfl (lh_nh) (fun t27 w7476 h hH => ?_)
 refine w_assign_v (w7476) rfl rfl (Wn (Ns ?_))
 refine Pt (Cr ?_)
 cases h
 exact prF (.inl rfl) (ra_tmp (w7476) rfl (ra_nil)) ⟨w7476, we1, we2, w7475, rfl, (hH.selG 9 [0, 6, 7, 8, 1] (by decide) (by decide) (gc rfl (gc rfl (gc rfl (gc rfl (gc rfl (gt rfl)))))))⟩
theorem r5_Room_Texts_ok (groups : LL GroupT) (pairs : LL ConflictT) (dets : LL DetT) (texts : LL ByteArray) (l : List ByteArray) (r : (List ByteArray) × (LL GroupT) × (LL ConflictT) × (LL DetT) × (LL ByteArray)) (h : r5_Room_Texts groups pairs dets texts l = some r) (be0 : Nat) (we1 : AV) (we2 : AV) (we3 : AV) (we4 : AV) (H : Hs) (n : Nat) (L : List Jv.Item) (hH : HP H n (.box be0 [.nil, .nil, .nil, .nil, .nil, .nil, we1, we2, we3, .nil, .nil, we4, .nil, .nil, .nil, .nil, .nil] :: o86_1 we1 groups :: o87_1 we2 pairs :: o90_1 we3 dets :: o91_1 we4 texts :: L)) : Raw C 112 [.pt be0 0, .d (.lst (l.map Dat.str))] H n (fun rs H' n' => ∃ w'0 w'2 w'3 w'4 w'5 : AV, rs = [w'0] ∧ HP H' n' (.imm w'0 ⟨9, 1⟩ (r.1.map Dat.str) :: .box be0 [.nil, .nil, .nil, .nil, .nil, .nil, w'2, w'3, w'4, .nil, .nil, w'5, .nil, .nil, .nil, .nil, .nil] :: o86_1 w'2 r.2.1 :: o87_1 w'3 r.2.2.1 :: o90_1 w'4 r.2.2.2.1 :: o91_1 w'5 r.2.2.2.2 :: L)) := by
 refine raw_at fn112 rfl (jmp 0 (.pt be0 0) rfl (jmp 1 (.d (.lst (l.map Dat.str))) rfl (Ps (Pr rfl (w_assign_v (.nil) rfl rfl (Wn (Ns (Ps (Pr rfl ?_)))))))))
 refine Wm rfl ?_
 have hH := hH.addNil (z := ⟨9, 1⟩)
 refine w_append (enc := Dat.str) h rfl elem91 szg9 bytes9 (by decide) (fun _ => rfl) hH (j := 0) rfl rfl shows_d (fun t7 w7477 H' n' h hH => ?_)
 refine w_bslice (enc := Dat.str) (xs := [⟨#[114, 111, 111, 109]⟩, ⟨#[114, 111, 111, 109]⟩]) [.d (.str ⟨#[114, 111, 111, 109]⟩), .d (.str ⟨#[114, 111, 111, 109]⟩)] rfl elem91 szg9 zero9 ⟨by decide, Nat.le_of_ble_eq_true rfl⟩ zd9 (fun _ => rfl) (fun _ => rfl) rfl rfl hH (fun w7478 H' n' hH => ?_)
 refine w_append (enc := Dat.str) h rfl elem91 szg9 bytes9 (by decide) (fun _ => rfl) hH (j := 1) rfl rfl (shows_own hH (j := 0) rfl) (fun t9 w7479 H' n' h hH => ?_)
 refine w_assign_v (w7479) rfl rfl (Wn (Ns (Ps (Pr rfl (w_move_v (.pt be0 0) rfl rfl (w_move_v (.pt be0 0) rfl rfl (Wq rfl (Fb fo49_11 (by decide) rfl 11 rfl (w_load_b (v := we4) rfl szg42 hH (i := 2) rfl rfl rfl ?_)))))))))
 refine w_move_v (w7479) rfl rfl ?_
 refine w_bslice1 (enc := (eL Dat.str)) (e := t9) (w7479) rfl elem42 szg91 zero91 (by decide) zd91 (fun _ => rfl) (fun _ => rfl) rfl (FS.own hH (j := 0) rfl (fun _ hH => FS.nil hH)) (fun w7480 H' n' hH => ?_)
 refine w_append (enc := (eL Dat.str)) h rfl elem42 szg91 bytes91 (by decide) (fun _ => rfl) hH (j := 7) rfl rfl (shows_own hH (j := 0) rfl) (fun t17 w7481 H' n' h hH => ?_)
 refine Wq rfl (Fb fo49_11 (by decide) rfl 11 rfl ?_)
 refine w_store_b1 w7481 rfl szg42 hH (i := 4) rfl rfl rfl (hH.okOwn (j := 0) rfl).2 (hH.okOwn (j := 0) rfl).1 (Nat.le_of_ble_eq_true rfl) (fun H' hH => ?_)
 refine Wn (Ns (Ps (Pr rfl (w_move_v (w7479) rfl rfl (Wm rfl (w_len_d elem91 rfl ?_))))))
 refine w_cut_imm h rfl elem91 szg9 hH (j := 2) rfl rfl (lh_nh) (fun t23 w7482 h hH => ?_)
 refine w_assign_v (w7482) rfl rfl (Wn (Ns ?_))
 refine Pt (Cr ?_)
 cases h
 exact prF (.inl rfl) (ra_tmp (w7482) rfl (ra_nil)) ⟨w7482, we1, we2, we3, w7481, rfl, (hH.selG 9 [0, 5, 6, 7, 8, 1] (by decide) (by decide) (gc rfl (gc rfl (gc rfl (gc rfl (gc rfl (gc rfl (gt rfl))))))))⟩
def r5_Room_Typed_L1_m (tF : TypedT) (NameF : ByteArray) (StartF : Int) (Name1F : ByteArray) (Tables_GroupsF : List GroupT) (Tables_ConflictsF : List ConflictT) (DetsF : List DetT) (TimersF : List ByteArray) (CountersF : List ByteArray) (VarsF : List VarT) (Start1F : Int) : r5_Room_Typed_L1_S → (ByteArray × (List GroupT) × (List ConflictT) × (List DetT) × (List ByteArray) × (List ByteArray) × (List VarT) × (List TStageT) × Int × R9) → Prop := fun st r => match st with
  | .c0 nodes stmts tnexts stages groups pairs dets vars texts full i => ∀ (w1 : AV) (w2 : AV) (w3 : AV) (w4 : AV) (w5 : AV) (w6 : AV) (w7 : AV) (w8 : AV) (w9 : AV) (b10 : Nat) (b11 : Nat) (b12 : Nat) (w13 w14 w15 w16 w17 w18 w19 be0 L g H n) (hH : HP H n (.box be0 [w1, w2, w3, .nil, w4, .nil, w5, w6, w7, w8, .nil, w9, .nil, .nil, .nil, .nil, .nil] :: o22_1 w1 nodes :: o58_1 w2 stmts :: o194_1 w3 tnexts :: o93_1 w4 stages :: o86_1 w5 groups :: o87_1 w6 pairs :: o90_1 w7 dets :: o92_1 w8 vars :: o91_1 w9 texts :: .box b10 (TypedT.av tF) :: .box b11 [.d (.str NameF), .nil, .nil, .nil, .nil, .nil, .nil, .nil, .d (.int .i64 StartF)] :: .box b12 [.d (.str Name1F), w13, w14, w15, w16, w17, w18, .nil, .d (.int .i64 Start1F)] :: .imm w13 ⟨200, 5⟩ (Tables_GroupsF.map GroupT.enc) :: .imm w14 ⟨203, 4⟩ (Tables_ConflictsF.map ConflictT.enc) :: .imm w15 ⟨207, 4⟩ (DetsF.map DetT.enc) :: .imm w16 ⟨9, 1⟩ (TimersF.map Dat.str) :: .imm w17 ⟨9, 1⟩ (CountersF.map Dat.str) :: .imm w18 ⟨193, 2⟩ (VarsF.map VarT.enc) :: o196_7 w19 full :: L)), PAt C (bodyOf Tryd.f46) (.a (.b (.a (.b (.b (.b (.b (.b (.b (.b .o)))))))))) ⟨upd (upd (upd (upd (upd (upd g 0 (.pt be0 0)) 3 (.pt b10 0)) 4 (.pt b11 0)) 5 (.pt b12 0)) 8 (w19)) 9 (.d (.int .i64 i)), H, n⟩ (PostR C Tryd.f46 (fun rs H' n' => ∃ w'0 w'1 w'2 w'3 w'4 w'5 w'6 w'8 w'9 w'10 w'11 w'12 w'13 w'14 w'15 w'16 : AV, rs = [.agg [.d (.str r.1), w'0, w'1, w'2, w'3, w'4, w'5, w'6, .d (.int .i64 r.2.2.2.2.2.2.2.2.1)]] ∧ HP H' n' (.imm w'0 ⟨200, 5⟩ (r.2.1.map GroupT.enc) :: .imm w'1 ⟨203, 4⟩ (r.2.2.1.map ConflictT.enc) :: .imm w'2 ⟨207, 4⟩ (r.2.2.2.1.map DetT.enc) :: .imm w'3 ⟨9, 1⟩ (r.2.2.2.2.1.map Dat.str) :: .imm w'4 ⟨9, 1⟩ (r.2.2.2.2.2.1.map Dat.str) :: .imm w'5 ⟨193, 2⟩ (r.2.2.2.2.2.2.1.map VarT.enc) :: .imm w'6 ⟨196, 7⟩ (r.2.2.2.2.2.2.2.1.map TStageT.enc) :: .box be0 [w'8, w'9, w'10, .nil, w'11, .nil, w'12, w'13, w'14, w'15, .nil, w'16, .nil, .nil, .nil, .nil, .nil] :: o22_1 w'8 r.2.2.2.2.2.2.2.2.2.1 :: o58_1 w'9 r.2.2.2.2.2.2.2.2.2.2.1 :: o194_1 w'10 r.2.2.2.2.2.2.2.2.2.2.2.1 :: o93_1 w'11 r.2.2.2.2.2.2.2.2.2.2.2.2.1 :: o86_1 w'12 r.2.2.2.2.2.2.2.2.2.2.2.2.2.1 :: o87_1 w'13 r.2.2.2.2.2.2.2.2.2.2.2.2.2.2.1 :: o90_1 w'14 r.2.2.2.2.2.2.2.2.2.2.2.2.2.2.2.1 :: o92_1 w'15 r.2.2.2.2.2.2.2.2.2.2.2.2.2.2.2.2.1 :: o91_1 w'16 r.2.2.2.2.2.2.2.2.2.2.2.2.2.2.2.2.2 :: L)))
  | .c1 nodes stmts tnexts stages groups pairs dets vars texts full i Name2 Id Green Enter During Leave Nexts To nexts j => ∀ (w1 : AV) (w2 : AV) (w3 : AV) (w4 : AV) (w5 : AV) (w6 : AV) (w7 : AV) (w8 : AV) (w9 : AV) (b10 : Nat) (b11 : Nat) (b12 : Nat) (w13 : AV) (w14 : AV) (w15 : AV) (w16 : AV) (w17 : AV) (w18 : AV) (w19 : AV) (b20 : Nat) (w21 : AV) (w22 : AV) (w23 : AV) (b24 : Nat) (w25 be0 L g H n) (hH : HP H n (.box be0 [w1, w2, w3, .nil, w4, .nil, w5, w6, w7, w8, .nil, w9, .nil, .nil, .nil, .nil, .nil] :: o22_1 w1 nodes :: o58_1 w2 stmts :: o194_1 w3 tnexts :: o93_1 w4 stages :: o86_1 w5 groups :: o87_1 w6 pairs :: o90_1 w7 dets :: o92_1 w8 vars :: o91_1 w9 texts :: .box b10 (TypedT.av tF) :: .box b11 [.d (.str NameF), .nil, .nil, .nil, .nil, .nil, .nil, .nil, .d (.int .i64 StartF)] :: .box b12 [.d (.str Name1F), w13, w14, w15, w16, w17, w18, .nil, .d (.int .i64 Start1F)] :: .imm w13 ⟨200, 5⟩ (Tables_GroupsF.map GroupT.enc) :: .imm w14 ⟨203, 4⟩ (Tables_ConflictsF.map ConflictT.enc) :: .imm w15 ⟨207, 4⟩ (DetsF.map DetT.enc) :: .imm w16 ⟨9, 1⟩ (TimersF.map Dat.str) :: .imm w17 ⟨9, 1⟩ (CountersF.map Dat.str) :: .imm w18 ⟨193, 2⟩ (VarsF.map VarT.enc) :: o196_7 w19 full :: .box b20 [.d (.str Name2), .d (.int .i64 Id), .d (.int .u64 Green), w21, w22, w23, .d (.lst (Nexts.map TNextT.enc))] :: .imm w21 ⟨140, 6⟩ (Enter.map StmtT.enc) :: .imm w22 ⟨140, 6⟩ (During.map StmtT.enc) :: .imm w23 ⟨140, 6⟩ (Leave.map StmtT.enc) :: .box b24 [.d (.int .i64 To), .nil] :: o198_2 w25 nexts :: L)), PAt C (bodyOf Tryd.f46) (.a (.b (.a (.b (.b (.b (.b (.b (.b (.a (.a (.b (.a (.a (.b (.a (.b (.b (.b (.b (.b (.b (.b .o))))))))))))))))))))))) ⟨upd (upd (upd (upd (upd (upd (upd (upd (upd (upd g 0 (.pt be0 0)) 3 (.pt b10 0)) 4 (.pt b11 0)) 5 (.pt b12 0)) 8 (w19)) 9 (.d (.int .i64 i))) 10 (.pt b20 0)) 11 (.pt b24 0)) 12 (w25)) 13 (.d (.int .i64 j)), H, n⟩ (PostR C Tryd.f46 (fun rs H' n' => ∃ w'0 w'1 w'2 w'3 w'4 w'5 w'6 w'8 w'9 w'10 w'11 w'12 w'13 w'14 w'15 w'16 : AV, rs = [.agg [.d (.str r.1), w'0, w'1, w'2, w'3, w'4, w'5, w'6, .d (.int .i64 r.2.2.2.2.2.2.2.2.1)]] ∧ HP H' n' (.imm w'0 ⟨200, 5⟩ (r.2.1.map GroupT.enc) :: .imm w'1 ⟨203, 4⟩ (r.2.2.1.map ConflictT.enc) :: .imm w'2 ⟨207, 4⟩ (r.2.2.2.1.map DetT.enc) :: .imm w'3 ⟨9, 1⟩ (r.2.2.2.2.1.map Dat.str) :: .imm w'4 ⟨9, 1⟩ (r.2.2.2.2.2.1.map Dat.str) :: .imm w'5 ⟨193, 2⟩ (r.2.2.2.2.2.2.1.map VarT.enc) :: .imm w'6 ⟨196, 7⟩ (r.2.2.2.2.2.2.2.1.map TStageT.enc) :: .box be0 [w'8, w'9, w'10, .nil, w'11, .nil, w'12, w'13, w'14, w'15, .nil, w'16, .nil, .nil, .nil, .nil, .nil] :: o22_1 w'8 r.2.2.2.2.2.2.2.2.2.1 :: o58_1 w'9 r.2.2.2.2.2.2.2.2.2.2.1 :: o194_1 w'10 r.2.2.2.2.2.2.2.2.2.2.2.1 :: o93_1 w'11 r.2.2.2.2.2.2.2.2.2.2.2.2.1 :: o86_1 w'12 r.2.2.2.2.2.2.2.2.2.2.2.2.2.1 :: o87_1 w'13 r.2.2.2.2.2.2.2.2.2.2.2.2.2.2.1 :: o90_1 w'14 r.2.2.2.2.2.2.2.2.2.2.2.2.2.2.2.1 :: o92_1 w'15 r.2.2.2.2.2.2.2.2.2.2.2.2.2.2.2.2.1 :: o91_1 w'16 r.2.2.2.2.2.2.2.2.2.2.2.2.2.2.2.2.2 :: L)))
end Go.Proofs.YtdcpfmjnkcodiaaDoor.We
namespace Go.Proofs.YtdcpfmjnkcodiaaDoor.We
open Go Go.Jv
set_option maxHeartbeats 4000000
open Go.Proofs
set_option maxHeartbeats 4000000
theorem r5_Room_Typed_L1_run_ok (tF : TypedT) (NameF : ByteArray) (StartF : Int) (Name1F : ByteArray) (Tables_GroupsF : List GroupT) (Tables_ConflictsF : List ConflictT) (DetsF : List DetT) (TimersF : List ByteArray) (CountersF : List ByteArray) (VarsF : List VarT) (Start1F : Int) (st : r5_Room_Typed_L1_S) (r : ByteArray × (List GroupT) × (List ConflictT) × (List DetT) × (List ByteArray) × (List ByteArray) × (List VarT) × (List TStageT) × Int × R9) (h : r5_Room_Typed_L1_run tF NameF StartF Name1F Tables_GroupsF Tables_ConflictsF DetsF TimersF CountersF VarsF Start1F st = some r) : r5_Room_Typed_L1_m tF NameF StartF Name1F Tables_GroupsF Tables_ConflictsF DetsF TimersF CountersF VarsF Start1F st r := by
 refine r5_Room_Typed_L1_run.partial_correctness tF NameF StartF Name1F Tables_GroupsF Tables_ConflictsF DetsF TimersF CountersF VarsF Start1F (r5_Room_Typed_L1_m tF NameF StartF Name1F Tables_GroupsF Tables_ConflictsF DetsF TimersF CountersF VarsF Start1F) (fun r5_Room_Typed_L1_run' ih_ st r h => ?_) st r h
 cases st with
 | c0 nodes stmts tnexts stages groups pairs dets vars texts full i =>
  intro w1 w2 w3 w4 w5 w6 w7 w8 w9 b10 b11 b12 w13 w14 w15 w16 w17 w18 w19 be0 L g H n hH
  refine Po (Ps (Ps (Pr rfl (Wm rfl (Fb fo95_6 (by decide) rfl 7 rfl (Lb szg93 hH (i := 10) rfl rfl rfl (w_len_d elem93 rfl ?_)))))))
  refine Wc h rfl ?_ ?_ <;> intro _ h
  refine Wn (Ns (Ct (Pk (Nc (Nb (Ns (Ps (Pb (Ps ?_)))))))))
  refine Pr rfl (Fb fo95_6 (by decide) rfl 7 rfl (Lb szg93 hH (i := 10) rfl rfl rfl (Wm rfl ?_)))
  refine w_idx h rfl elem93 szg196 (fun _ => rfl) rfl rfl (fun t70 h => ?_)
  refine w_load_d (d := (TStageT.enc t70)) szg196 rfl rfl ?_
  refine alloc_z rfl zero196 hH (fun b7601 H' n' hH => ?_)
  refine w_store_b (new := (TStageT.av t70)) rfl szg196 hH (i := 0) rfl rfl rfl rfl rfl (Nat.le_of_ble_eq_true rfl) (fun H' hH => ?_)
  refine Wn (Ns (Ps (Pr rfl (w_move_v (.pt be0 0) rfl rfl (Fb fo196_3 (by decide) rfl 3 rfl (Lb szg58 hH (i := 0) rfl rfl rfl ?_))))))
  refine w_raw [.pt be0 0, .d (.lst (t70.Enter.map StmtT.enc))] h rfl rfl sig29 rfl (fun y hy => r5_Room_Stmts_ok _ _ _ _ _ _ _ _ _ _ y hy be0 w1 w2 w3 w4 w5 w6 w7 w8 w9 _ _ (.box b7601 (TStageT.av t70) :: .box b10 (TypedT.av tF) :: .box b11 [.d (.str NameF), .nil, .nil, .nil, .nil, .nil, .nil, .nil, .d (.int .i64 StartF)] :: .box b12 [.d (.str Name1F), w13, w14, w15, w16, w17, w18, .nil, .d (.int .i64 Start1F)] :: .imm w13 ⟨200, 5⟩ (Tables_GroupsF.map GroupT.enc) :: .imm w14 ⟨203, 4⟩ (Tables_ConflictsF.map ConflictT.enc) :: .imm w15 ⟨207, 4⟩ (DetsF.map DetT.enc) :: .imm w16 ⟨9, 1⟩ (TimersF.map Dat.str) :: .imm w17 ⟨9, 1⟩ (CountersF.map Dat.str) :: .imm w18 ⟨193, 2⟩ (VarsF.map VarT.enc) :: o196_7 w19 full :: L) (hH.selG 21 [1, 2, 3, 4, 5, 6, 7, 8, 9, 10, 0, 11, 12, 13, 14, 15, 16, 17, 18, 19, 20] (by decide) (by decide) (gc rfl (gc rfl (gc rfl (gc rfl (gc rfl (gc rfl (gc rfl (gc rfl (gc rfl (gc rfl (gc rfl (gc rfl (gc rfl (gc rfl (gc rfl (gc rfl (gc rfl (gc rfl (gc rfl (gc rfl (gc rfl (gt rfl)))))))))))))))))))))))) (fun t75 rs H' n' h hP => ?_)
  obtain ⟨w6602_0, w6602_2, w6602_3, w6602_4, w6602_5, w6602_6, w6602_7, w6602_8, w6602_9, w6602_10, rfl, hH⟩ := hP
  refine Fb fo196_3 (by decide) rfl 3 rfl ?_
  refine w_store_b1 w6602_0 rfl szg58 hH (i := 11) rfl rfl rfl (hH.okImm (j := 0) rfl).2 (hH.okImm (j := 0) rfl).1 (Nat.le_of_ble_eq_true rfl) (fun H' hH => ?_)
  refine Wn (Ns (Ps (Pr rfl (w_move_v (.pt be0 0) rfl rfl (Fb fo196_4 (by decide) rfl 4 rfl (Lb szg58 hH (i := 11) rfl rfl rfl ?_))))))
  refine w_raw [.pt be0 0, .d (.lst (t70.During.map StmtT.enc))] h rfl rfl sig29 rfl (fun y hy => r5_Room_Stmts_ok _ _ _ _ _ _ _ _ _ _ y hy be0 w6602_2 w6602_3 w6602_4 w6602_5 w6602_6 w6602_7 w6602_8 w6602_9 w6602_10 _ _ (.imm w6602_0 ⟨140, 6⟩ (t75.1.map StmtT.enc) :: .box b7601 [.d (.str t70.Name), .d (.int .i64 t70.Id), .d (.int .u64 t70.Green), w6602_0, .d (.lst (t70.During.map StmtT.enc)), .d (.lst (t70.Leave.map StmtT.enc)), .d (.lst (t70.Nexts.map TNextT.enc))] :: .box b10 (TypedT.av tF) :: .box b11 [.d (.str NameF), .nil, .nil, .nil, .nil, .nil, .nil, .nil, .d (.int .i64 StartF)] :: .box b12 [.d (.str Name1F), w13, w14, w15, w16, w17, w18, .nil, .d (.int .i64 Start1F)] :: .imm w13 ⟨200, 5⟩ (Tables_GroupsF.map GroupT.enc) :: .imm w14 ⟨203, 4⟩ (Tables_ConflictsF.map ConflictT.enc) :: .imm w15 ⟨207, 4⟩ (DetsF.map DetT.enc) :: .imm w16 ⟨9, 1⟩ (TimersF.map Dat.str) :: .imm w17 ⟨9, 1⟩ (CountersF.map Dat.str) :: .imm w18 ⟨193, 2⟩ (VarsF.map VarT.enc) :: o196_7 w19 full :: L) (hH.selG 22 [1, 2, 3, 4, 5, 6, 7, 8, 9, 10, 0, 11, 12, 13, 14, 15, 16, 17, 18, 19, 20, 21] (by decide) (by decide) (gc rfl (gc rfl (gc rfl (gc rfl (gc rfl (gc rfl (gc rfl (gc rfl (gc rfl (gc rfl (gc rfl (gc rfl (gc rfl (gc rfl (gc rfl (gc rfl (gc rfl (gc rfl (gc rfl (gc rfl (gc rfl (gc rfl (gt rfl))))))))))))))))))))))))) (fun t80 rs H' n' h hP => ?_)
  obtain ⟨w6603_0, w6603_2, w6603_3, w6603_4, w6603_5, w6603_6, w6603_7, w6603_8, w6603_9, w6603_10, rfl, hH⟩ := hP
  refine Fb fo196_4 (by decide) rfl 4 rfl ?_
  refine w_store_b1 w6603_0 rfl szg58 hH (i := 12) rfl rfl rfl (hH.okImm (j := 0) rfl).2 (hH.okImm (j := 0) rfl).1 (Nat.le_of_ble_eq_true rfl) (fun H' hH => ?_)
  refine Wn (Ns (Ps (Pr rfl (w_move_v (.pt be0 0) rfl rfl (Fb fo196_5 (by decide) rfl 5 rfl (Lb szg58 hH (i := 12) rfl rfl rfl ?_))))))
  refine w_raw [.pt be0 0, .d (.lst (t70.Leave.map StmtT.enc))] h rfl rfl sig29 rfl (fun y hy => r5_Room_Stmts_ok _ _ _ _ _ _ _ _ _ _ y hy be0 w6603_2 w6603_3 w6603_4 w6603_5 w6603_6 w6603_7 w6603_8 w6603_9 w6603_10 _ _ (.imm w6603_0 ⟨140, 6⟩ (t80.1.map StmtT.enc) :: .imm w6602_0 ⟨140, 6⟩ (t75.1.map StmtT.enc) :: .box b7601 [.d (.str t70.Name), .d (.int .i64 t70.Id), .d (.int .u64 t70.Green), w6602_0, w6603_0, .d (.lst (t70.Leave.map StmtT.enc)), .d (.lst (t70.Nexts.map TNextT.enc))] :: .box b10 (TypedT.av tF) :: .box b11 [.d (.str NameF), .nil, .nil, .nil, .nil, .nil, .nil, .nil, .d (.int .i64 StartF)] :: .box b12 [.d (.str Name1F), w13, w14, w15, w16, w17, w18, .nil, .d (.int .i64 Start1F)] :: .imm w13 ⟨200, 5⟩ (Tables_GroupsF.map GroupT.enc) :: .imm w14 ⟨203, 4⟩ (Tables_ConflictsF.map ConflictT.enc) :: .imm w15 ⟨207, 4⟩ (DetsF.map DetT.enc) :: .imm w16 ⟨9, 1⟩ (TimersF.map Dat.str) :: .imm w17 ⟨9, 1⟩ (CountersF.map Dat.str) :: .imm w18 ⟨193, 2⟩ (VarsF.map VarT.enc) :: o196_7 w19 full :: L) (hH.selG 23 [1, 2, 3, 4, 5, 6, 7, 8, 9, 10, 0, 11, 12, 13, 14, 15, 16, 17, 18, 19, 20, 21, 22] (by decide) (by decide) (gc rfl (gc rfl (gc rfl (gc rfl (gc rfl (gc rfl (gc rfl (gc rfl (gc rfl (gc rfl (gc rfl (gc rfl (gc rfl (gc rfl (gc rfl (gc rfl (gc rfl (gc rfl (gc rfl (gc rfl (gc rfl (gc rfl (gc rfl (gt rfl)))))))))))))))))))))))))) (fun t85 rs H' n' h hP => ?_)
  obtain ⟨w6604_0, w6604_2, w6604_3, w6604_4, w6604_5, w6604_6, w6604_7, w6604_8, w6604_9, w6604_10, rfl, hH⟩ := hP
  refine Fb fo196_5 (by decide) rfl 5 rfl ?_
  refine w_store_b1 w6604_0 rfl szg58 hH (i := 13) rfl rfl rfl (hH.okImm (j := 0) rfl).2 (hH.okImm (j := 0) rfl).1 (Nat.le_of_ble_eq_true rfl) (fun H' hH => ?_)
  refine Wn (Ns (Ps (Pr rfl (w_build (cs := [.d (.int .i64 4444), .nil]) rfl zero198 places198 rfl ?_))))
  refine alloc_z rfl zero198 hH (fun b7605 H' n' hH => ?_)
  refine w_store_b (new := [.d (.int .i64 4444), .nil]) rfl szg198 hH (i := 0) rfl rfl rfl rfl rfl (Nat.le_of_ble_eq_true rfl) (fun H' hH => ?_)
  refine Wn (Ns (Ps (Pr rfl (w_assign_v (.nil) rfl rfl (Wn (Ns (Ps (Ps (Pr rfl ?_)))))))))
  refine Wa rfl (Wn (Ns (Pb ?_)))
  exact jm 0 (jm 3 (jm 4 (jm 5 (jm 8 (jm 9 (jm 10 (jm 11 (jm 12 (jm 13 (ih_ (.c1 _ _ _ _ _ _ _ _ _ _ _ _ _ _ _ _ _ _ _ _ _) _ h w6604_2 w6604_3 w6604_4 w6604_5 w6604_6 w6604_7 w6604_8 w6604_9 w6604_10 b10 b11 b12 w13 w14 w15 w16 w17 w18 w19 b7601 w6602_0 w6603_0 w6604_0 b7605 .nil _ _ _ _ _ ((hH.addNil (z := ⟨198, 2⟩)).selG 26 [3, 4, 5, 6, 7, 8, 9, 10, 11, 12, 16, 17, 18, 19, 20, 21, 22, 23, 24, 25, 15, 14, 13, 2, 1, 0] (by decide) (by decide) (gc rfl (gc rfl (gc rfl (gc rfl (gc rfl (gc rfl (gc rfl (gc rfl (gc rfl (gc rfl (gc rfl (gc rfl (gc rfl (gc rfl (gc rfl (gc rfl (gc rfl (gc rfl (gc rfl (gc rfl (gc rfl (gc rfl (gc rfl (gc rfl (gc rfl (gc rfl (gt rfl))))))))))))))))))))))))))))))))))))))
  refine Wn (Ns (Cf (Px rfl (Nb (Nb (Xs (Xl (Xb (Nb ?_)))))))))
  refine Ns (Ps (Pr rfl (w_build (cs := [.d (.str ⟨#[]⟩), .d (.int .i64 4444), .d (.int .u64 0), .nil, .nil, .nil, .nil]) rfl zero196 places196 rfl ?_)))
  refine alloc_z rfl zero196 hH (fun b7606 H' n' hH => ?_)
  refine w_store_b (new := [.d (.str ⟨#[]⟩), .d (.int .i64 4444), .d (.int .u64 0), .nil, .nil, .nil, .nil]) rfl szg196 hH (i := 0) rfl rfl rfl rfl rfl (Nat.le_of_ble_eq_true rfl) (fun H' hH => ?_)
  refine Wn (Ns (Ps (Pr rfl (w_move_v (w19) rfl rfl (w_load_b (v := .agg [.d (.str ⟨#[]⟩), .d (.int .i64 4444), .d (.int .u64 0), .nil, .nil, .nil, .nil]) rfl szg196 hH (i := 0) rfl rfl rfl (w_load_b (v := .agg [.d (.str ⟨#[]⟩), .d (.int .i64 4444), .d (.int .u64 0), .nil, .nil, .nil, .nil]) rfl szg196 hH (i := 0) rfl rfl rfl ?_))))))
  refine w_bslice (enc := TStageT.enc) (xs := [(⟨⟨#[]⟩, 4444, 0, [], [], [], []⟩ : TStageT), (⟨⟨#[]⟩, 4444, 0, [], [], [], []⟩ : TStageT)]) [.agg [.d (.str ⟨#[]⟩), .d (.int .i64 4444), .d (.int .u64 0), .nil, .nil, .nil, .nil], .agg [.d (.str ⟨#[]⟩), .d (.int .i64 4444), .d (.int .u64 0), .nil, .nil, .nil, .nil]] rfl elem93 szg196 zero196 ⟨by decide, Nat.le_of_ble_eq_true rfl⟩ zd196 (fun _ => rfl) (fun _ => rfl) rfl rfl hH (fun w7607 H' n' hH => ?_)
  refine w_append (enc := TStageT.enc) h rfl elem93 szg196 bytes196 (by decide) (fun _ => rfl) hH (j := 21) rfl rfl (shows_own hH (j := 0) rfl) (fun t143 w7608 H' n' h hH => ?_)
  refine w_assign_v (w7608) rfl rfl (Wn (Ns (Ps (Pr rfl (w_move_v (.pt be0 0) rfl rfl (w_move_v (.pt be0 0) rfl rfl (Wq rfl (Fb fo49_4 (by decide) rfl 4 rfl (w_load_b (v := w4) rfl szg35 hH (i := 3) rfl rfl rfl ?_)))))))))
  refine w_move_v (w7608) rfl rfl ?_
  refine w_bslice1 (enc := (eL TStageT.enc)) (e := t143) (w7608) rfl elem35 szg93 zero93 (by decide) zd93 (fun _ => rfl) (fun _ => rfl) rfl (FS.own hH (j := 0) rfl (fun _ hH => FS.nil hH)) (fun w7609 H' n' hH => ?_)
  refine w_append (enc := (eL TStageT.enc)) h rfl elem35 szg93 bytes93 (by decide) (fun _ => rfl) hH (j := 8) rfl rfl (shows_own hH (j := 0) rfl) (fun t151 w7610 H' n' h hH => ?_)
  refine Wq rfl (Fb fo49_4 (by decide) rfl 4 rfl ?_)
  refine w_store_b1 w7610 rfl szg35 hH (i := 5) rfl rfl rfl (hH.okOwn (j := 0) rfl).2 (hH.okOwn (j := 0) rfl).1 (Nat.le_of_ble_eq_true rfl) (fun H' hH => ?_)
  refine Wn (Ns (Ps (Pr rfl (w_move_v (w7608) rfl rfl (Fb fo95_6 (by decide) rfl 7 rfl (Lb szg93 hH (i := 14) rfl rfl rfl (w_len_d elem93 rfl ?_)))))))
  refine w_cut_imm h rfl elem93 szg196 hH (j := 2) rfl rfl (lh_nh) (fun t158 w7611 h hH => ?_)
  refine Fb fo95_6 (by decide) rfl 7 rfl ?_
  refine w_store_b1 w7611 rfl szg93 hH (i := 17) rfl rfl rfl (hH.okImm (j := 0) rfl).2 (hH.okImm (j := 0) rfl).1 (Nat.le_of_ble_eq_true rfl) (fun H' hH => ?_)
  refine Wn (Ns (Ps (Pr rfl (w_load_b (v := .agg [.d (.str Name1F), w13, w14, w15, w16, w17, w18, w7611, .d (.int .i64 Start1F)]) rfl szg95 hH (i := 17) rfl rfl rfl ?_))))
  refine w_store_b (new := [.d (.str Name1F), w13, w14, w15, w16, w17, w18, w7611, .d (.int .i64 Start1F)]) rfl szg95 hH (i := 16) rfl rfl rfl rfl (by simp only [List.all_cons, List.all_nil, (hH.okImm (j := 18) rfl).1, (hH.okImm (j := 19) rfl).1, (hH.okImm (j := 20) rfl).1, (hH.okImm (j := 21) rfl).1, (hH.okImm (j := 22) rfl).1, (hH.okImm (j := 23) rfl).1, (hH.okImm (j := 0) rfl).1]; rfl) (Nat.le_of_ble_eq_true rfl) (fun H' hH => ?_)
  refine Wn (Ns ?_)
  refine Pt (Cr ?_)
  cases h
  exact prF (.inl rfl) (ra_cell (.agg [.d (.str Name1F), w13, w14, w15, w16, w17, w18, w7611, .d (.int .i64 Start1F)]) szg95 hH (i := 16) rfl rfl rfl (ra_nil)) ⟨w13, w14, w15, w16, w17, w18, w7611, w1, w2, w3, w7610, w5, w6, w7, w8, w9, rfl, (hH.selG 24 [18, 19, 20, 21, 22, 23, 0, 6, 7, 8, 9, 1, 10, 11, 12, 13, 14] (by decide) (by decide) (gc rfl (gc rfl (gc rfl (gc rfl (gc rfl (gc rfl (gc rfl (gc rfl (gc rfl (gc rfl (gc rfl (gc rfl (gc rfl (gc rfl (gc rfl (gc rfl (gc rfl (gt rfl)))))))))))))))))))⟩
 | c1 nodes stmts tnexts stages groups pairs dets vars texts full i Name2 Id Green Enter During Leave Nexts To nexts j =>
  intro w1 w2 w3 w4 w5 w6 w7 w8 w9 b10 b11 b12 w13 w14 w15 w16 w17 w18 w19 b20 w21 w22 w23 b24 w25 be0 L g H n hH
  refine Po (Ps (Ps (Pr rfl (Wm rfl (Fb fo196_6 (by decide) rfl 6 rfl (Lb szg194 hH (i := 20) rfl rfl rfl (w_len_d elem194 rfl ?_)))))))
  refine Wc h rfl ?_ ?_ <;> intro _ h
  refine Wn (Ns (Ct (Pk (Nc (Nb (Ns (Ps (Pb (p_fts (pz := [(2, 9), (4, 9), (6, 9), (2, 11), (4, 11), (6, 11), (2, 13), (4, 13), (6, 13), (2, 14), (4, 14), (6, 14)]) rfl rfl (by kernel_rfl) (by kernel_rfl) ?_)))))))))
  refine x_op (v := w25) (noFt) rfl (o_move) ⟨rfl, rfl⟩ (x_op (v := .pt b20 6) (noFt) rfl (o_faddr fo196_6 (by decide) rfl) ⟨rfl, rfl⟩ (x_op (v := .d (.lst (Nexts.map TNextT.enc))) (.of [b20] []) rfl (o_load_b szg194 hH (i := 20) rfl rfl rfl) ⟨rfl, rfl⟩ (x_op (v := .d (.int .i64 j)) (noFt) rfl (o_move) ⟨rfl, rfl⟩ ?_)))
  refine x_opt (fv := fun v => .d (.ptr (TNextT.enc v).cells)) (noFt) h rfl (o_idx elem194 szg198 (fun _ => rfl) rfl rfl) ⟨rfl, rfl⟩ (fun t99 h => ?_)
  refine x_op (noFt) rfl (o_faddr fo198_0 (by decide) rfl) ⟨rfl, rfl⟩ (x_op (v := .d (.int .i64 t99.To)) (noFt) rfl (o_load_d szg3 rfl rfl) ⟨rfl, rfl⟩ (x_op (v := .pt be0 0) (noFt) rfl (o_move) ⟨rfl, rfl⟩ (x_op (v := .pt b20 6) (noFt) rfl (o_faddr fo196_6 (by decide) rfl) ⟨rfl, rfl⟩ (x_op (v := .d (.lst (Nexts.map TNextT.enc))) (.of [b20] []) rfl (o_load_b szg194 hH (i := 20) rfl rfl rfl) ⟨rfl, rfl⟩ (x_op (v := .d (.int .i64 j)) (noFt) rfl (o_move) ⟨rfl, rfl⟩ ?_)))))
  refine x_opt (fv := fun v => .d (.ptr (TNextT.enc v).cells)) (noFt) h rfl (o_idx elem194 szg198 (fun _ => rfl) rfl rfl) ⟨rfl, rfl⟩ (fun t106 h => ?_)
  refine x_op (noFt) rfl (o_faddr fo198_1 (by decide) rfl) ⟨rfl, rfl⟩ (x_op (v := .d (.lst (t106.When.map NodeT.enc))) (noFt) rfl (o_load_d szg22 rfl rfl) ⟨rfl, rfl⟩ ?_)
  have hHr := hH
  refine x_raw (A := [.box be0 [w1, w2, w3, .nil, w4, .nil, w5, w6, w7, w8, .nil, w9, .nil, .nil, .nil, .nil, .nil], o22_1 w1 nodes, o58_1 w2 stmts, o194_1 w3 tnexts, o93_1 w4 stages, o86_1 w5 groups, o87_1 w6 pairs, o90_1 w7 dets, o92_1 w8 vars, o91_1 w9 texts]) (L := .box b10 (TypedT.av tF) :: .box b11 [.d (.str NameF), .nil, .nil, .nil, .nil, .nil, .nil, .nil, .d (.int .i64 StartF)] :: .box b12 [.d (.str Name1F), w13, w14, w15, w16, w17, w18, .nil, .d (.int .i64 Start1F)] :: .imm w13 ⟨200, 5⟩ (Tables_GroupsF.map GroupT.enc) :: .imm w14 ⟨203, 4⟩ (Tables_ConflictsF.map ConflictT.enc) :: .imm w15 ⟨207, 4⟩ (DetsF.map DetT.enc) :: .imm w16 ⟨9, 1⟩ (TimersF.map Dat.str) :: .imm w17 ⟨9, 1⟩ (CountersF.map Dat.str) :: .imm w18 ⟨193, 2⟩ (VarsF.map VarT.enc) :: o196_7 w19 full :: .box b20 [.d (.str Name2), .d (.int .i64 Id), .d (.int .u64 Green), w21, w22, w23, .d (.lst (Nexts.map TNextT.enc))] :: .imm w21 ⟨140, 6⟩ (Enter.map StmtT.enc) :: .imm w22 ⟨140, 6⟩ (During.map StmtT.enc) :: .imm w23 ⟨140, 6⟩ (Leave.map StmtT.enc) :: .box b24 [.d (.int .i64 To), .nil] :: o198_2 w25 nexts :: L) (P := fun y rs As => ∃ w'0 w'2 w'3 w'4 w'5 w'6 w'7 w'8 w'9 w'10 : AV, rs = [w'0] ∧ As = [.imm w'0 ⟨115, 5⟩ (y.1.map NodeT.enc), .box be0 [w'2, w'3, w'4, .nil, w'5, .nil, w'6, w'7, w'8, w'9, .nil, w'10, .nil, .nil, .nil, .nil, .nil], o22_1 w'2 y.2.1, o58_1 w'3 y.2.2.1, o194_1 w'4 y.2.2.2.1, o93_1 w'5 y.2.2.2.2.1, o86_1 w'6 y.2.2.2.2.2.1, o87_1 w'7 y.2.2.2.2.2.2.1, o90_1 w'8 y.2.2.2.2.2.2.2.1, o92_1 w'9 y.2.2.2.2.2.2.2.2.1, o91_1 w'10 y.2.2.2.2.2.2.2.2.2]) [.pt be0 0, .d (.lst (t106.When.map NodeT.enc))] h rfl rfl sig19 rfl hHr (mcc (.pt (j := 0) rfl) (mcc (.d _) (mcn))) (cbb (mcc (.own (j := 1) rfl) (mcc (.own (j := 2) rfl) (mcc (.own (j := 3) rfl) (mcc (.nil) (mcc (.own (j := 4) rfl) (mcc (.nil) (mcc (.own (j := 5) rfl) (mcc (.own (j := 6) rfl) (mcc (.own (j := 7) rfl) (mcc (.own (j := 8) rfl) (mcc (.nil) (mcc (.own (j := 9) rfl) (mcc (.nil) (mcc (.nil) (mcc (.nil) (mcc (.nil) (mcc (.nil) (mcn)))))))))))))))))) (cbo (cbo (cbo (cbo (cbo (cbo (cbo (cbo (cbo (cbn))))))))))) (rcc (li_arg 0 rfl (mi_pt)) (rcc (li_box 0 hHr rfl (li_arg 0 rfl (mi_pt)) 0 rfl (mi_own)) (rcc (li_box 0 hHr rfl (li_arg 0 rfl (mi_pt)) 1 rfl (mi_own)) (rcc (li_box 0 hHr rfl (li_arg 0 rfl (mi_pt)) 2 rfl (mi_own)) (rcc (li_box 0 hHr rfl (li_arg 0 rfl (mi_pt)) 4 rfl (mi_own)) (rcc (li_box 0 hHr rfl (li_arg 0 rfl (mi_pt)) 6 rfl (mi_own)) (rcc (li_box 0 hHr rfl (li_arg 0 rfl (mi_pt)) 7 rfl (mi_own)) (rcc (li_box 0 hHr rfl (li_arg 0 rfl (mi_pt)) 8 rfl (mi_own)) (rcc (li_box 0 hHr rfl (li_arg 0 rfl (mi_pt)) 9 rfl (mi_own)) (rcc (li_box 0 hHr rfl (li_arg 0 rfl (mi_pt)) 11 rfl (mi_own)) (rcn))))))))))) (fun y hy H n L' hH => (r5_Room_Nodes_ok _ _ _ _ _ _ _ _ _ _ y hy be0 w1 w2 w3 w4 w5 w6 w7 w8 w9 _ _ _ hH).to (fun rs H' n' ⟨w0, w1, w2, w3, w4, w5, w6, w7, w8, w9, e, hp⟩ => ⟨_, ⟨w0, w1, w2, w3, w4, w5, w6, w7, w8, w9, e, rfl⟩, hp⟩)) (fun t109 rs As H' n6612 h hP hH hoff6612 hn6612 => ?_)
  obtain ⟨w6612_0, w6612_2, w6612_3, w6612_4, w6612_5, w6612_6, w6612_7, w6612_8, w6612_9, w6612_10, rfl, rfl⟩ := hP
  clear hHr
  have hof6612_10 := hoff6612.box (k := 10) rfl
  clear hoff6612
  refine x_op (v := .agg [.d (.int .i64 t99.To), w6612_0]) (noFt) rfl (o_buildS zero198 places198 (by show fillA okCells _ _ [(0, .d (.int .i64 t99.To)), (1, w6612_0)] = _; simp only [fillA, okCells_own (hH.okImm (j := 0) rfl)]; rfl)) ⟨rfl, rfl⟩ ?_
  refine x_bslice1 (enc := TNextT.enc) (e := (⟨t99.To, t109.1⟩ : TNextT)) (.agg [.d (.int .i64 t99.To), w6612_0]) rfl elem194 szg198 zero198 (by decide) zd198 (fun _ => rfl) (fun _ => rfl) rfl (FS.agg (FS.d (FS.imm hH (j := 0) rfl (FS.nil hH))) (fun _ hH => FS.nil hH)) (fun w7613 i6613 H' n6613 hH hoff6613 hn6613 hi6613 => ?_)
  clear hoff6613
  refine x_append (enc := TNextT.enc) (w7613) h rfl elem194 szg198 bytes198 (by decide) (fun _ => rfl) hH (j := 27) rfl rfl rfl (shows_own hH (j := 0) rfl) (fun t112 w7614 i6614 H' n6614 h hH hoff6614 hn6614 hi6614 => ?_)
  clear hoff6614
  refine x_op (v := w7614) (noFt) rfl (o_assign) ⟨rfl, rfl⟩ (x_nil (n := 19) rfl (pkc 16 9 rfl rfl rfl rfl nc_rr (pkc 14 9 rfl rfl rfl rfl nc_no (pkc 12 9 rfl rfl rfl rfl nc_no (pkc 16 7 rfl rfl rfl rfl nc_on (pkc 14 7 rfl rfl rfl rfl nc_no (pkc 12 7 rfl rfl rfl rfl nc_no (pkc 16 5 rfl rfl rfl rfl nc_on (pkc 14 5 rfl rfl rfl rfl nc_no (pkc 12 5 rfl rfl rfl rfl nc_no (pkc 16 4 rfl rfl rfl rfl (nc_arb hof6612_10) (pkc 14 4 rfl rfl rfl rfl nc_no (pkc 12 4 rfl rfl rfl rfl nc_no (pkn))))))))))))) (Nk (Ns (Pr rfl (Wm rfl (Wb rfl (Wa rfl (Wn (Nb ?_)))))))))
  refine Nb (Nl ?_)
  exact jm 0 (jm 3 (jm 4 (jm 5 (jm 8 (jm 9 (jm 10 (jm 11 (jm 12 (jm 13 (ih_ (.c1 _ _ _ _ _ _ _ _ _ _ _ _ _ _ _ _ _ _ _ _ _) _ h w6612_2 w6612_3 w6612_4 w6612_5 w6612_6 w6612_7 w6612_8 w6612_9 w6612_10 b10 b11 b12 w13 w14 w15 w16 w17 w18 w19 b20 w21 w22 w23 b24 w7614 _ _ _ _ _ (hH.selG 28 [3, 4, 5, 6, 7, 8, 9, 10, 11, 12, 13, 14, 15, 16, 17, 18, 19, 20, 21, 22, 23, 24, 25, 26, 27, 0] (by decide) (by decide) (gc rfl (gc rfl (gc rfl (gc rfl (gc rfl (gc rfl (gc rfl (gc rfl (gc rfl (gc rfl (gc rfl (gc rfl (gc rfl (gc rfl (gc rfl (gc rfl (gc rfl (gc rfl (gc rfl (gc rfl (gc rfl (gc rfl (gc rfl (gc rfl (gc rfl (gc rfl (gt rfl))))))))))))))))))))))))))))))))))))))
  refine Wn (Ns (Cf (Px rfl (Nb (Nb (Xs (Xl (Xb (Nb ?_)))))))))
  refine Ns (Ps (Pr rfl (w_move_v (w25) rfl rfl (w_load_b (v := .agg [.d (.int .i64 To), .nil]) rfl szg198 hH (i := 24) rfl rfl rfl (w_load_b (v := .agg [.d (.int .i64 To), .nil]) rfl szg198 hH (i := 24) rfl rfl rfl ?_)))))
  refine w_bslice (enc := TNextT.enc) (xs := [(⟨To, []⟩ : TNextT), (⟨To, []⟩ : TNextT)]) [.agg [.d (.int .i64 To), .nil], .agg [.d (.int .i64 To), .nil]] rfl elem194 szg198 zero198 ⟨by decide, Nat.le_of_ble_eq_true rfl⟩ zd198 (fun _ => rfl) (fun _ => rfl) rfl rfl hH (fun w7615 H' n' hH => ?_)
  refine w_append (enc := TNextT.enc) h rfl elem194 szg198 bytes198 (by decide) (fun _ => rfl) hH (j := 26) rfl rfl (shows_own hH (j := 0) rfl) (fun t117 w7616 H' n' h hH => ?_)
  refine w_assign_v (w7616) rfl rfl (Wn (Ns (Ps (Pr rfl (w_move_v (.pt be0 0) rfl rfl (w_move_v (.pt be0 0) rfl rfl (Wq rfl (Fb fo49_2 (by decide) rfl 2 rfl (w_load_b (v := w3) rfl szg33 hH (i := 2) rfl rfl rfl ?_)))))))))
  refine w_move_v (w7616) rfl rfl ?_
  refine w_bslice1 (enc := (eL TNextT.enc)) (e := t117) (w7616) rfl elem33 szg194 zero194 (by decide) zd194 (fun _ => rfl) (fun _ => rfl) rfl (FS.own hH (j := 0) rfl (fun _ hH => FS.nil hH)) (fun w7617 H' n' hH => ?_)
  refine w_append (enc := (eL TNextT.enc)) h rfl elem33 szg194 bytes194 (by decide) (fun _ => rfl) hH (j := 6) rfl rfl (shows_own hH (j := 0) rfl) (fun t125 w7618 H' n' h hH => ?_)
  refine Wq rfl (Fb fo49_2 (by decide) rfl 2 rfl ?_)
  refine w_store_b1 w7618 rfl szg33 hH (i := 4) rfl rfl rfl (hH.okOwn (j := 0) rfl).2 (hH.okOwn (j := 0) rfl).1 (Nat.le_of_ble_eq_true rfl) (fun H' hH => ?_)
  refine Wn (Ns (Ps (Pr rfl (w_move_v (w7616) rfl rfl (w_move_v (w7616) rfl rfl (w_len_imm rfl elem194 hH (j := 2) rfl rfl (Wb rfl ?_)))))))
  refine w_cut_imm h rfl elem194 szg198 hH (j := 2) rfl rfl (lh_nh) (fun t132 w7619 h hH => ?_)
  refine Fb fo196_6 (by decide) rfl 6 rfl ?_
  refine w_store_b1 w7619 rfl szg194 hH (i := 24) rfl rfl rfl (hH.okImm (j := 0) rfl).2 (hH.okImm (j := 0) rfl).1 (Nat.le_of_ble_eq_true rfl) (fun H' hH => ?_)
  refine Wn (Ns (Pr rfl (w_move_v (w19) rfl rfl (w_load_b (v := .agg [.d (.str Name2), .d (.int .i64 Id), .d (.int .u64 Green), w21, w22, w23, w7619]) rfl szg196 hH (i := 24) rfl rfl rfl ?_))))
  refine w_bslice1 (enc := TStageT.enc) (e := (⟨Name2, Id, Green, Enter, During, Leave, t132⟩ : TStageT)) (.agg [.d (.str Name2), .d (.int .i64 Id), .d (.int .u64 Green), w21, w22, w23, w7619]) rfl elem93 szg196 zero196 (by decide) zd196 (fun _ => rfl) (fun _ => rfl) rfl (FS.agg (FS.d (FS.d (FS.d (FS.imm hH (j := 25) rfl (FS.imm hH (j := 26) rfl (FS.imm hH (j := 27) rfl (FS.imm hH (j := 0) rfl (FS.nil hH)))))))) (fun _ hH => FS.nil hH)) (fun w7620 H' n' hH => ?_)
  refine w_append (enc := TStageT.enc) h rfl elem93 szg196 bytes196 (by decide) (fun _ => rfl) hH (j := 24) rfl rfl (shows_own hH (j := 0) rfl) (fun t137 w7621 H' n' h hH => ?_)
  refine w_assign_v (w7621) rfl rfl (Wn (Nb (Nb (Nb (Nb (Nb (Nb (Nb (Nb ?_)))))))))
  refine Nb (Nb (Nk (Ns (Pr rfl (Wm rfl (Wb rfl (Wa rfl (Wn (Nb ?_)))))))))
  refine Nb (Nl ?_)
  exact jm 0 (jm 3 (jm 4 (jm 5 (jm 8 (jm 9 (ih_ (.c0 _ _ _ _ _ _ _ _ _ _ _) _ h w1 w2 w7618 w4 w5 w6 w7 w8 w9 b10 b11 b12 w13 w14 w15 w16 w17 w18 w7621 _ _ _ _ _ (hH.selG 30 [7, 8, 9, 3, 10, 11, 12, 13, 14, 15, 16, 17, 18, 19, 20, 21, 22, 23, 24, 0] (by decide) (by decide) (gc rfl (gc rfl (gc rfl (gc rfl (gc rfl (gc rfl (gc rfl (gc rfl (gc rfl (gc rfl (gc rfl (gc rfl (gc rfl (gc rfl (gc rfl (gc rfl (gc rfl (gc rfl (gc rfl (gc rfl (gt rfl))))))))))))))))))))))))))))
theorem r5_Room_Typed_L1_ok (nodes : LL NodeT) (stmts : LL StmtT) (tnexts : LL TNextT) (stages : LL TStageT) (groups : LL GroupT) (pairs : LL ConflictT) (dets : LL DetT) (vars : LL VarT) (texts : LL ByteArray) (tF : TypedT) (NameF : ByteArray) (StartF : Int) (Name1F : ByteArray) (Tables_GroupsF : List GroupT) (Tables_ConflictsF : List ConflictT) (DetsF : List DetT) (TimersF : List ByteArray) (CountersF : List ByteArray) (VarsF : List VarT) (Start1F : Int) (full : List TStageT) (i : Int) (r : ByteArray × (List GroupT) × (List ConflictT) × (List DetT) × (List ByteArray) × (List ByteArray) × (List VarT) × (List TStageT) × Int × R9) (h : r5_Room_Typed_L1 nodes stmts tnexts stages groups pairs dets vars texts tF NameF StartF Name1F Tables_GroupsF Tables_ConflictsF DetsF TimersF CountersF VarsF Start1F full i = some r) : r5_Room_Typed_L1_m tF NameF StartF Name1F Tables_GroupsF Tables_ConflictsF DetsF TimersF CountersF VarsF Start1F (.c0 nodes stmts tnexts stages groups pairs dets vars texts full i) r := r5_Room_Typed_L1_run_ok tF NameF StartF Name1F Tables_GroupsF Tables_ConflictsF DetsF TimersF CountersF VarsF Start1F (.c0 nodes stmts tnexts stages groups pairs dets vars texts full i) r h
end Go.Proofs.YtdcpfmjnkcodiaaDoor.We
