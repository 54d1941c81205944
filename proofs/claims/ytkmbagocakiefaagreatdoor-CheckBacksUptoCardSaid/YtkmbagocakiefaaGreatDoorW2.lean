/- The abstract machine computes these functions. Printed by decomp.py. -/
import Derived.Test.YtkmbagocakiefaaGreatDoorD2
namespace Go.Proofs.YtkmbagocakiefaaGreatDoor.Wb
open Go Go.Jv
set_option maxHeartbeats 4000000
open Go.Proofs
set_option maxHeartbeats 4000000
attribute [local irreducible] EW EX PAt con
def mR (tF : ab) (t9F : List ac) (t10F : Int) : ni → Bool → Prop := fun st r => match st with
  | .c0 open_ t11 => ∀ w1 be0 L g H n (hH : HP H n (.box be0 (ab.av tF) :: yH w1 open_ :: L)), PAt C (aj Tryz.f49) (.a (.b (.a (.b (.b .o))))) ⟨upd (upd (upd (upd (upd g 0 (.pt be0 0)) 5 (w1)) 9 (.d (.lst (t9F.map ac.enc)))) 10 (.d (.int .i64 t10F))) 11 (.d (.int .i64 t11)), H, n⟩ (cb C Tryz.f49 (fun rs H' n' => rs = [.d (.bool r)] ∧ HP H' n' (.box be0 (ab.av tF) :: L)))
  | .c1 open_ t11 => ∀ w1 be0 L g H n (hH : HP H n (.box be0 (ab.av tF) :: yH w1 open_ :: L)), PAt C (aj Tryz.f49) (.b (.b (.b (.a (.a (.b (.a (.b (.b .o))))))))) ⟨upd (upd (upd (upd (upd g 0 (.pt be0 0)) 5 (w1)) 9 (.d (.lst (t9F.map ac.enc)))) 10 (.d (.int .i64 t10F))) 11 (.d (.int .i64 t11)), H, n⟩ (cb C Tryz.f49 (fun rs H' n' => rs = [.d (.bool r)] ∧ HP H' n' (.box be0 (ab.av tF) :: L)))
def qG (t : ab) (i : Int) (t73 : List aw) (t74 : Int) (t75 : Int) (r : Bool) : Prop := ∀ be0 L g H n (hH : HP H n (.box be0 (ab.av t) :: L)), PAt C (aj Tryz.f33) (.a (.b (.a (.b (.b (.b (.b (.b .o)))))))) ⟨upd (upd (upd (upd (upd g 0 (.pt be0 0)) 1 (.d (.int .i64 i))) 73 (.d (.lst (t73.map aw.enc)))) 74 (.d (.int .i64 t74))) 75 (.d (.int .i64 t75)), H, n⟩ (cb C Tryz.f33 (fun rs H' n' => rs = [.d (.bool r)] ∧ HP H' n' (.box be0 (ab.av t) :: L)))
def xq (t : ab) (stmts : Int) (nexts : Int) (total : Int) (t78 : List ah) (t79 : Int) (t80 : Int) (r : Bool) : Prop := ∀ b0 g H n (hH : HP H n [.box b0 (ab.av t)]), PAt C (aj Tryz.f15) (.a (.b (.a (.b (.b (.b (.b .o))))))) ⟨upd (upd (upd (upd (upd (upd (upd g 1 (.pt b0 0)) 5 (.d (.int .i64 stmts))) 6 (.d (.int .i64 nexts))) 7 (.d (.int .i64 total))) 78 (.d (.lst (t78.map ah.enc)))) 79 (.d (.int .i64 t79))) 80 (.d (.int .i64 t80)), H, n⟩ (aq C Tryz.f15 [(.bool r)])
def xr (t : ab) (t60 : List aE) (t61 : Int) (t62 : Int) (r : Bool) : Prop := ∀ b0 g H n (hH : HP H n [.box b0 (ab.av t)]), PAt C (aj Tryz.f15) (.a (.b (.a (.b (.b .o))))) ⟨upd (upd (upd (upd g 1 (.pt b0 0)) 60 (.d (.lst (t60.map aE.enc)))) 61 (.d (.int .i64 t61))) 62 (.d (.int .i64 t62)), H, n⟩ (aq C Tryz.f15 [(.bool r)])
def rN (t5F : List ae) (t6F : Int) : sF → Bool → Prop := fun st r => match st with
  | .c0 t7 => ∀ g H n, PAt C (aj Tryz.f34) (.a (.b (.a (.b .o)))) ⟨upd (upd (upd g 5 (.d (.lst (t5F.map ae.enc)))) 6 (.d (.int .i64 t6F))) 7 (.d (.int .i64 t7)), H, n⟩ (aq C Tryz.f34 [(.bool r)])
  | .c1 t7 => ∀ g H n, PAt C (aj Tryz.f34) (.b (.b (.b (.a (.a (.b (.a (.b .o)))))))) ⟨upd (upd (upd g 5 (.d (.lst (t5F.map ae.enc)))) 6 (.d (.int .i64 t6F))) 7 (.d (.int .i64 t7)), H, n⟩ (aq C Tryz.f34 [(.bool r)])
def nH (t25F : List ah) (t26F : Int) : oj → Bool → Prop := fun st r => match st with
  | .c0 t27 => ∀ g H n, PAt C (aj Tryz.f16) (.a (.b (.a (.b (.b .o))))) ⟨upd (upd (upd g 25 (.d (.lst (t25F.map ah.enc)))) 26 (.d (.int .i64 t26F))) 27 (.d (.int .i64 t27)), H, n⟩ (aq C Tryz.f16 [(.bool r)])
  | .c1 s_ t27 t42 t43 => ∀ b0 g H n (hH : HP H n [.box b0 (ah.av s_)]), PAt C (aj Tryz.f16) (.a (.b (.a (.b (.b (.a (.a (.b (.b (.a (.a (.b (.a (.b (.b .o))))))))))))))) ⟨upd (upd (upd (upd (upd (upd g 6 (.pt b0 0)) 25 (.d (.lst (t25F.map ah.enc)))) 26 (.d (.int .i64 t26F))) 27 (.d (.int .i64 t27))) 42 (.agg [.d (.lst (t42.e0.map ac.enc)), .d (.lst (t42.e1.map ac.enc)), .d (.lst (t42.e2.map ac.enc))])) 43 (.d (.int .i64 t43)), H, n⟩ (aq C Tryz.f16 [(.bool r)])
  | .c2 s_ t27 t42 t43 t46 t47 t48 => ∀ b0 g H n (hH : HP H n [.box b0 (ah.av s_)]), PAt C (aj Tryz.f16) (.a (.b (.b (.a (.a (.b (.b (.a (.a (.b (.a (.b (.b (.a (.a (.b (.b (.a (.a (.b (.a (.b (.b .o))))))))))))))))))))))) ⟨upd (upd (upd (upd (upd (upd (upd (upd (upd g 6 (.pt b0 0)) 25 (.d (.lst (t25F.map ah.enc)))) 26 (.d (.int .i64 t26F))) 27 (.d (.int .i64 t27))) 42 (.agg [.d (.lst (t42.e0.map ac.enc)), .d (.lst (t42.e1.map ac.enc)), .d (.lst (t42.e2.map ac.enc))])) 43 (.d (.int .i64 t43))) 46 (.d (.lst (t46.map ac.enc)))) 47 (.d (.int .i64 t47))) 48 (.d (.int .i64 t48)), H, n⟩ (aq C Tryz.f16 [(.bool r)])
  | .c3 t27 t58 t59 t60 => ∀ g H n, PAt C (aj Tryz.f16) (.a (.b (.b (.b (.b (.a (.a (.b (.b (.a (.a (.b (.a (.b (.b .o))))))))))))))) ⟨upd (upd (upd (upd (upd (upd g 25 (.d (.lst (t25F.map ah.enc)))) 26 (.d (.int .i64 t26F))) 27 (.d (.int .i64 t27))) 58 (.d (.lst (t58.map aw.enc)))) 59 (.d (.int .i64 t59))) 60 (.d (.int .i64 t60)), H, n⟩ (aq C Tryz.f16 [(.bool r)])
def sY (t : ab) (t14 : List aN) (t15 : Int) (t16 : Int) (r : Bool) : Prop := ∀ b0 g H n (hH : HP H n [.box b0 (ab.av t)]), PAt C (aj Tryz.f16) (.a (.b (.a (.b .o)))) ⟨upd (upd (upd (upd g 1 (.pt b0 0)) 14 (.d (.lst (t14.map aN.enc)))) 15 (.d (.int .i64 t15))) 16 (.d (.int .i64 t16)), H, n⟩ (aq C Tryz.f16 [(.bool r)])
theorem gk (Kind At_Line At_Col Name With Sort_ N_e0 N_e1 N_e2 Stage_Green Stage_Enter Stage_During Stage_Leave Stage_Nexts Name1 Decls r) (h : fR Kind At_Line At_Col Name With Sort_ N_e0 N_e1 N_e2 Stage_Green Stage_Enter Stage_During Stage_Leave Stage_Nexts Name1 Decls = some r) (we0 we1 we2 we3 we4 be5 we6 H n L) (hH : HP H n (fx we0 Stage_Green :: br we1 Stage_Enter :: br we2 Stage_During :: br we3 Stage_Leave :: mo we4 Stage_Nexts :: .box be5 [.d (.str Name1), we6] :: dS we6 Decls :: L)) : Raw C 17 [.agg [.d (.int .i64 Kind), .d (.int .i64 At_Line), .d (.int .i64 At_Col), .d (.str Name), .d (.str With), .d (.int .i64 Sort_), .d (.int .i32 N_e0), .d (.int .i32 N_e1), .d (.int .i32 N_e2), .nil, we0, we1, we2, we3, we4], .pt be5 0] H n (fun rs H' n' => ∃ (w'1 : AV), rs = [] ∧ HP H' n' (.box be5 [.d (.str r.1), w'1] :: dS w'1 r.2 :: L)) := by
 refine fa Pa rfl (jmp 0 (.agg [.d (.int .i64 Kind), .d (.int .i64 At_Line), .d (.int .i64 At_Col), .d (.str Name), .d (.str With), .d (.int .i64 Sort_), .d (.int .i32 N_e0), .d (.int .i32 N_e1), .d (.int .i32 N_e2), .nil, we0, we1, we2, we3, we4]) rfl (jmp 1 (.pt be5 0) rfl ?_))
 refine Z ?_
 refine cu (cs := [.d (.int .i64 Kind), .d (.int .i64 At_Line), .d (.int .i64 At_Col), .d (.str Name), .d (.str With), .d (.int .i64 Sort_), .d (.int .i32 N_e0), .d (.int .i32 N_e1), .d (.int .i32 N_e2), .nil, we0, we1, we2, we3, we4]) rfl dC.1 rfl rfl (by simp only [List.all_cons, List.all_nil, (hH.okOwn (j := 0) rfl).1, (hH.okOwn (j := 1) rfl).1, (hH.okOwn (j := 2) rfl).1, (hH.okOwn (j := 3) rfl).1, (hH.okOwn (j := 4) rfl).1]; rfl) hH (fun b13795 H' n' hH => ?_)
 refine Z ?_
 refine aF (v := .agg [.d (.int .i64 Kind), .d (.int .i64 At_Line), .d (.int .i64 At_Col), .d (.str Name), .d (.str With), .d (.int .i64 Sort_), .d (.int .i32 N_e0), .d (.int .i32 N_e1), .d (.int .i32 N_e2), .nil, we0, we1, we2, we3, we4]) rfl dC.1 hH (i := 0) rfl rfl rfl ?_
 refine de (enc := aV.enc) (e := (⟨Kind, (⟨At_Line, At_Col⟩ : bd), Name, With, Sort_, (⟨N_e0, N_e1, N_e2⟩ : (A3 Int)), [], (⟨Stage_Green, Stage_Enter, Stage_During, Stage_Leave, Stage_Nexts⟩ : bn)⟩ : aV)) (.agg [.d (.int .i64 Kind), .d (.int .i64 At_Line), .d (.int .i64 At_Col), .d (.str Name), .d (.str With), .d (.int .i64 Sort_), .d (.int .i32 N_e0), .d (.int .i32 N_e1), .d (.int .i32 N_e2), .nil, we0, we1, we2, we3, we4]) rfl eZ.1 dC.1 cO (by decide) vO (fun _ => rfl) (fun _ => rfl) rfl (FS.agg (FS.d (FS.d (FS.d (FS.d (FS.d (FS.d (FS.d (FS.d (FS.d (FS.nl (FS.own hH (j := 1) rfl (fun _ hH => FS.own hH (j := 2) rfl (fun _ hH => FS.own hH (j := 3) rfl (fun _ hH => FS.own hH (j := 4) rfl (fun _ hH => FS.own hH (j := 5) rfl (fun _ hH => FS.nil hH)))))))))))))))) (fun _ hH => FS.nil hH)) (fun w13796 H' n' hH => ?_)
 refine bl (enc := aV.enc) h rfl eZ.1 dC.1 lr (by decide) (fun _ => rfl) hH (j := 8) rfl rfl (aM hH (j := 0) rfl) (fun t7 w13797 H' n' h hH => ?_)
 refine Z ?_
 refine cx w13797 rfl rk.1 hH (i := 8) rfl rfl rfl (hH.okOwn (j := 0) rfl).2 (hH.okOwn (j := 0) rfl).1 (Nat.le_of_ble_eq_true rfl) (fun H' hH => ?_)
 refine Z ?_
 refine N7 ?_
 obtain rfl := si h
 exact prF (.inr rfl) (aJ) ⟨w13797, rfl, (hH.sl 9 [8, 0])⟩
def nI (tF : ab) (t8F : List ae) (t9F : Int) : ol → (List ae) → Prop := fun st r => match st with
  | .c0 out t10 => ∀ w1 be0 L g H n (hH : HP H n (.box be0 (ab.av tF) :: iV w1 out :: L)), PAt C (aj Tryz.f36) (.a (.b (.a (.b (.b .o))))) ⟨upd (upd (upd (upd (upd g 0 (.pt be0 0)) 5 (w1)) 8 (.d (.lst (t8F.map ae.enc)))) 9 (.d (.int .i64 t9F))) 10 (.d (.int .i64 t10)), H, n⟩ (cb C Tryz.f36 (fun rs H' n' => ∃ (w'0 : AV), rs = [w'0] ∧ HP H' n' (iV w'0 r :: .box be0 (ab.av tF) :: L)))
  | .c1 out n_ t10 => ∀ w1 b2 be0 L g H n (hH : HP H n (.box be0 (ab.av tF) :: iV w1 out :: .box b2 (ae.av n_) :: L)), PAt C (aj Tryz.f36) (.a (.b (.a (.b (.a (.b (.a (.a (.b (.b (.a (.a (.b (.a (.b (.b .o)))))))))))))))) ⟨upd (upd (upd (upd (upd (upd g 0 (.pt be0 0)) 5 (w1)) 7 (.pt b2 0)) 8 (.d (.lst (t8F.map ae.enc)))) 9 (.d (.int .i64 t9F))) 10 (.d (.int .i64 t10)), H, n⟩ (cb C Tryz.f36 (fun rs H' n' => ∃ (w'0 : AV), rs = [w'0] ∧ HP H' n' (iV w'0 r :: .box be0 (ab.av tF) :: L)))
  | .c2 out n_ t10 => ∀ w1 b2 be0 L g H n (hH : HP H n (.box be0 (ab.av tF) :: iV w1 out :: .box b2 (ae.av n_) :: L)), PAt C (aj Tryz.f36) (.b (.b (.a (.a (.b (.b (.a (.a (.b (.a (.b (.b .o)))))))))))) ⟨upd (upd (upd (upd (upd (upd g 0 (.pt be0 0)) 5 (w1)) 7 (.pt b2 0)) 8 (.d (.lst (t8F.map ae.enc)))) 9 (.d (.int .i64 t9F))) 10 (.d (.int .i64 t10)), H, n⟩ (cb C Tryz.f36 (fun rs H' n' => ∃ (w'0 : AV), rs = [w'0] ∧ HP H' n' (iV w'0 r :: .box be0 (ab.av tF) :: L)))
def nJ (tF : ab) (t9F : List ac) (t10F : Int) : oo → (List ac) → Prop := fun st r => match st with
  | .c0 out t11 => ∀ w1 be0 L g H n (hH : HP H n (.box be0 (ab.av tF) :: br w1 out :: L)), PAt C (aj Tryz.f35) (.a (.b (.a (.b (.b .o))))) ⟨upd (upd (upd (upd (upd g 0 (.pt be0 0)) 5 (w1)) 9 (.d (.lst (t9F.map ac.enc)))) 10 (.d (.int .i64 t10F))) 11 (.d (.int .i64 t11)), H, n⟩ (cb C Tryz.f35 (fun rs H' n' => ∃ (w'0 : AV), rs = [w'0] ∧ HP H' n' (br w'0 r :: .box be0 (ab.av tF) :: L)))
  | .c1 out s_ Kind Name Ix Expr At_Line At_Col t11 => ∀ w1 b2 b3 w4 be0 L g H n (hH : HP H n (.box be0 (ab.av tF) :: br w1 out :: .box b2 (ac.av s_) :: .box b3 [.d (.int .i64 Kind), .d (.str Name), .d (.int .i64 Ix), w4, .d (.int .i64 At_Line), .d (.int .i64 At_Col)] :: iV w4 Expr :: L)), PAt C (aj Tryz.f35) (.a (.b (.b (.b (.a (.b (.a (.b (.b (.a (.a (.b (.b (.a (.a (.b (.a (.b (.b .o))))))))))))))))))) ⟨upd (upd (upd (upd (upd (upd (upd g 0 (.pt be0 0)) 5 (w1)) 7 (.pt b2 0)) 8 (.pt b3 0)) 9 (.d (.lst (t9F.map ac.enc)))) 10 (.d (.int .i64 t10F))) 11 (.d (.int .i64 t11)), H, n⟩ (cb C Tryz.f35 (fun rs H' n' => ∃ (w'0 : AV), rs = [w'0] ∧ HP H' n' (br w'0 r :: .box be0 (ab.av tF) :: L)))
  | .c2 out Kind Name Ix Expr At_Line At_Col t11 => ∀ w1 b2 w3 be0 L g H n (hH : HP H n (.box be0 (ab.av tF) :: br w1 out :: .box b2 [.d (.int .i64 Kind), .d (.str Name), .d (.int .i64 Ix), w3, .d (.int .i64 At_Line), .d (.int .i64 At_Col)] :: iV w3 Expr :: L)), PAt C (aj Tryz.f35) (.b (.b (.b (.a (.a (.b (.b (.a (.a (.b (.a (.b (.b .o))))))))))))) ⟨upd (upd (upd (upd (upd (upd g 0 (.pt be0 0)) 5 (w1)) 8 (.pt b2 0)) 9 (.d (.lst (t9F.map ac.enc)))) 10 (.d (.int .i64 t10F))) 11 (.d (.int .i64 t11)), H, n⟩ (cb C Tryz.f35 (fun rs H' n' => ∃ (w'0 : AV), rs = [w'0] ∧ HP H' n' (br w'0 r :: .box be0 (ab.av tF) :: L)))
def rO (t : ab) (Green : List ByteArray) (Enter : List ac) (During : List ac) (Leave : List ac) (Nexts : List da) (t49 : List aw) (t50 : Int) (t51 : Int) (r : (List ByteArray) × (List ac) × (List ac) × (List ac) × (List da)) : Prop := ∀ b1 b2 w3 w4 w5 w6 w7 be0 L g H n (hH : HP H n (.box be0 (ab.av t) :: .box b1 [.nil, .nil, .nil, .nil, .nil] :: .box b2 [w3, w4, w5, w6, w7] :: fx w3 Green :: br w4 Enter :: br w5 During :: br w6 Leave :: mo w7 Nexts :: L)), PAt C (aj Tryz.f18) (.a (.b (.a (.b (.b (.b .o)))))) ⟨upd (upd (upd (upd (upd (upd g 0 (.pt be0 0)) 4 (.pt b1 0)) 5 (.pt b2 0)) 49 (.d (.lst (t49.map aw.enc)))) 50 (.d (.int .i64 t50))) 51 (.d (.int .i64 t51)), H, n⟩ (cb C Tryz.f18 (fun rs H' n' => ∃ w'0 w'1 w'2 w'3 w'4 : AV, rs = [.agg [w'0, w'1, w'2, w'3, w'4]] ∧ HP H' n' (fx w'0 r.1 :: br w'1 r.2.1 :: br w'2 r.2.2.1 :: br w'3 r.2.2.2.1 :: mo w'4 r.2.2.2.2 :: .box be0 (ab.av t) :: L)))
def mU (tF : ab) (s_F : ah) (EnterF : List ac) (DuringF : List ac) (LeaveF : List ac) (t27F : List ak) (t28F : Int) : nj → ((List ByteArray) × (List ac) × (List ac) × (List ac) × (List da)) → Prop := fun st r => match st with
  | .c0 Green t29 => ∀ b1 b2 b3 w4 w5 w6 w7 be0 L g H n (hH : HP H n (.box be0 (ab.av tF) :: .box b1 (ah.av s_F) :: .box b2 [.nil, .nil, .nil, .nil, .nil] :: .box b3 [w4, w5, w6, w7, .nil] :: fx w4 Green :: br w5 EnterF :: br w6 DuringF :: br w7 LeaveF :: L)), PAt C (aj Tryz.f18) (.a (.b (.a (.b (.b .o))))) ⟨upd (upd (upd (upd (upd (upd (upd g 0 (.pt be0 0)) 3 (.pt b1 0)) 4 (.pt b2 0)) 5 (.pt b3 0)) 27 (.d (.lst (t27F.map ak.enc)))) 28 (.d (.int .i64 t28F))) 29 (.d (.int .i64 t29)), H, n⟩ (cb C Tryz.f18 (fun rs H' n' => ∃ w'0 w'1 w'2 w'3 w'4 : AV, rs = [.agg [w'0, w'1, w'2, w'3, w'4]] ∧ HP H' n' (fx w'0 r.1 :: br w'1 r.2.1 :: br w'2 r.2.2.1 :: br w'3 r.2.2.2.1 :: mo w'4 r.2.2.2.2 :: .box be0 (ab.av tF) :: L)))
  | .c1 Green t29 => ∀ b1 b2 b3 w4 w5 w6 w7 be0 L g H n (hH : HP H n (.box be0 (ab.av tF) :: .box b1 (ah.av s_F) :: .box b2 [.nil, .nil, .nil, .nil, .nil] :: .box b3 [w4, w5, w6, w7, .nil] :: fx w4 Green :: br w5 EnterF :: br w6 DuringF :: br w7 LeaveF :: L)), PAt C (aj Tryz.f18) (.b (.b (.b (.a (.a (.b (.a (.b (.b .o))))))))) ⟨upd (upd (upd (upd (upd (upd (upd g 0 (.pt be0 0)) 3 (.pt b1 0)) 4 (.pt b2 0)) 5 (.pt b3 0)) 27 (.d (.lst (t27F.map ak.enc)))) 28 (.d (.int .i64 t28F))) 29 (.d (.int .i64 t29)), H, n⟩ (cb C Tryz.f18 (fun rs H' n' => ∃ w'0 w'1 w'2 w'3 w'4 : AV, rs = [.agg [w'0, w'1, w'2, w'3, w'4]] ∧ HP H' n' (fx w'0 r.1 :: br w'1 r.2.1 :: br w'2 r.2.2.1 :: br w'3 r.2.2.2.1 :: mo w'4 r.2.2.2.2 :: .box be0 (ab.av tF) :: L)))
def A8 (t : ab) (Name : ByteArray) (Name1 : ByteArray) (Decls : List aV) (t160 : List ah) (t161 : Int) (t162 : Int) (r : aW × Int) : Prop := ∀ b0 b1 b2 w3 g H n (hH : HP H n [.box b0 (ab.av t), .box b1 [.d (.str Name), .nil], .box b2 [.d (.str Name1), w3], dS w3 Decls]), PAt C (aj Tryz.f5) (.a (.b (.a (.b (.b (.b (.b (.b (.b (.b (.b (.b (.b .o))))))))))))) ⟨upd (upd (upd (upd (upd (upd (upd g 1 (.pt b0 0)) 2 (.pt b1 0)) 4 (.pt b2 0)) 5 (.fn 17 [.pt b2 0])) 160 (.d (.lst (t160.map ah.enc)))) 161 (.d (.int .i64 t161))) 162 (.d (.int .i64 t162)), H, n⟩ (aq C Tryz.f5 [(aW.enc r.1), (.int .i64 r.2)])
def A9 (t : ab) (Name : ByteArray) (Name1 : ByteArray) (Decls : List aV) (t144 : List aN) (t145 : Int) (t146 : Int) (r : aW × Int) : Prop := ∀ b0 b1 b2 w3 g H n (hH : HP H n [.box b0 (ab.av t), .box b1 [.d (.str Name), .nil], .box b2 [.d (.str Name1), w3], dS w3 Decls]), PAt C (aj Tryz.f5) (.a (.b (.a (.b (.b (.b (.b (.b (.b (.b (.b (.b .o)))))))))))) ⟨upd (upd (upd (upd (upd (upd (upd g 1 (.pt b0 0)) 2 (.pt b1 0)) 4 (.pt b2 0)) 5 (.fn 17 [.pt b2 0])) 144 (.d (.lst (t144.map aN.enc)))) 145 (.d (.int .i64 t145))) 146 (.d (.int .i64 t146)), H, n⟩ (aq C Tryz.f5 [(aW.enc r.1), (.int .i64 r.2)])
def Aa (t : ab) (Name : ByteArray) (Name1 : ByteArray) (Decls : List aV) (t132 : List ByteArray) (t133 : Int) (t134 : Int) (r : aW × Int) : Prop := ∀ b0 b1 b2 w3 g H n (hH : HP H n [.box b0 (ab.av t), .box b1 [.d (.str Name), .nil], .box b2 [.d (.str Name1), w3], dS w3 Decls]), PAt C (aj Tryz.f5) (.a (.b (.a (.b (.b (.b (.b (.b (.b (.b (.b .o))))))))))) ⟨upd (upd (upd (upd (upd (upd (upd g 1 (.pt b0 0)) 2 (.pt b1 0)) 4 (.pt b2 0)) 5 (.fn 17 [.pt b2 0])) 132 (.d (.lst (t132.map Dat.str)))) 133 (.d (.int .i64 t133))) 134 (.d (.int .i64 t134)), H, n⟩ (aq C Tryz.f5 [(aW.enc r.1), (.int .i64 r.2)])
def Ab (t : ab) (Name : ByteArray) (Name1 : ByteArray) (Decls : List aV) (t120 : List ByteArray) (t121 : Int) (t122 : Int) (r : aW × Int) : Prop := ∀ b0 b1 b2 w3 g H n (hH : HP H n [.box b0 (ab.av t), .box b1 [.d (.str Name), .nil], .box b2 [.d (.str Name1), w3], dS w3 Decls]), PAt C (aj Tryz.f5) (.a (.b (.a (.b (.b (.b (.b (.b (.b (.b .o)))))))))) ⟨upd (upd (upd (upd (upd (upd (upd g 1 (.pt b0 0)) 2 (.pt b1 0)) 4 (.pt b2 0)) 5 (.fn 17 [.pt b2 0])) 120 (.d (.lst (t120.map Dat.str)))) 121 (.d (.int .i64 t121))) 122 (.d (.int .i64 t122)), H, n⟩ (aq C Tryz.f5 [(aW.enc r.1), (.int .i64 r.2)])
def tW (tF : ab) (NameF : ByteArray) (t96F : List aE) (t97F : Int) : un → (aW × Int) → Prop := fun st r => match st with
  | .c0 Name1 Decls t98 => ∀ b0 b1 b2 w3 g H n (hH : HP H n [.box b0 (ab.av tF), .box b1 [.d (.str NameF), .nil], .box b2 [.d (.str Name1), w3], dS w3 Decls]), PAt C (aj Tryz.f5) (.a (.b (.a (.b (.b (.b (.b (.b (.b .o))))))))) ⟨upd (upd (upd (upd (upd (upd (upd g 1 (.pt b0 0)) 2 (.pt b1 0)) 4 (.pt b2 0)) 5 (.fn 17 [.pt b2 0])) 96 (.d (.lst (t96F.map aE.enc)))) 97 (.d (.int .i64 t97F))) 98 (.d (.int .i64 t98)), H, n⟩ (aq C Tryz.f5 [(aW.enc r.1), (.int .i64 r.2)])
  | .c1 Name1 Decls Kind At_Line At_Col Name2 With Sort_ N_e0 N_e1 N_e2 t98 => ∀ b0 b1 b2 w3 b4 g H n (hH : HP H n [.box b0 (ab.av tF), .box b1 [.d (.str NameF), .nil], .box b2 [.d (.str Name1), w3], dS w3 Decls, .box b4 [.d (.int .i64 Kind), .d (.int .i64 At_Line), .d (.int .i64 At_Col), .d (.str Name2), .d (.str With), .d (.int .i64 Sort_), .d (.int .i32 N_e0), .d (.int .i32 N_e1), .d (.int .i32 N_e2), .nil, .nil, .nil, .nil, .nil, .nil]]), PAt C (aj Tryz.f5) (.b (.b (.b (.a (.a (.b (.b (.a (.a (.b (.a (.b (.b (.b (.b (.b (.b .o))))))))))))))))) ⟨upd (upd (upd (upd (upd (upd (upd (upd g 1 (.pt b0 0)) 2 (.pt b1 0)) 4 (.pt b2 0)) 5 (.fn 17 [.pt b2 0])) 12 (.pt b4 0)) 96 (.d (.lst (t96F.map aE.enc)))) 97 (.d (.int .i64 t97F))) 98 (.d (.int .i64 t98)), H, n⟩ (aq C Tryz.f5 [(aW.enc r.1), (.int .i64 r.2)])
def Ac (t : ab) (Name : ByteArray) (Name1 : ByteArray) (Decls : List aV) (t62 : List ai) (t63 : Int) (t64 : Int) (r : aW × Int) : Prop := ∀ b0 b1 b2 w3 g H n (hH : HP H n [.box b0 (ab.av t), .box b1 [.d (.str Name), .nil], .box b2 [.d (.str Name1), w3], dS w3 Decls]), PAt C (aj Tryz.f5) (.a (.b (.a (.b (.b (.b (.b (.b .o)))))))) ⟨upd (upd (upd (upd (upd (upd (upd g 1 (.pt b0 0)) 2 (.pt b1 0)) 4 (.pt b2 0)) 5 (.fn 17 [.pt b2 0])) 62 (.d (.lst (t62.map ai.enc)))) 63 (.d (.int .i64 t63))) 64 (.d (.int .i64 t64)), H, n⟩ (aq C Tryz.f5 [(aW.enc r.1), (.int .i64 r.2)])
def Ad (t : ab) (Name : ByteArray) (Name1 : ByteArray) (Decls : List aV) (t36 : List ak) (t37 : Int) (t38 : Int) (r : aW × Int) : Prop := ∀ b0 b1 b2 w3 g H n (hH : HP H n [.box b0 (ab.av t), .box b1 [.d (.str Name), .nil], .box b2 [.d (.str Name1), w3], dS w3 Decls]), PAt C (aj Tryz.f5) (.a (.b (.a (.b (.b (.b (.b .o))))))) ⟨upd (upd (upd (upd (upd (upd (upd g 1 (.pt b0 0)) 2 (.pt b1 0)) 4 (.pt b2 0)) 5 (.fn 17 [.pt b2 0])) 36 (.d (.lst (t36.map ak.enc)))) 37 (.d (.int .i64 t37))) 38 (.d (.int .i64 t38)), H, n⟩ (aq C Tryz.f5 [(aW.enc r.1), (.int .i64 r.2)])
theorem xt (Name r) (h : tL Name = some r) (b0 g H n) (hH : HP H n [.box b0 [.d (.str Name), .nil]]) : PAt C (aj Tryz.f5) (.a (.b (.a (.b .o)))) ⟨upd g 2 (.pt b0 0), H, n⟩ (aq C Tryz.f5 [(aW.enc r.1), (.int .i64 r.2)]) := by
 refine Z ?_
 refine cr (cs := [.d (.str ⟨#[]⟩), .nil]) rfl mh vN rfl ?_
 refine ax (new := [.d (.str ⟨#[]⟩), .nil]) rfl iB.1 hH (i := 0) rfl rfl rfl rfl rfl (Nat.le_of_ble_eq_true rfl) (fun H' hH => ?_)
 refine Z ?_
 refine Pt rfl (Cr ?_)
 obtain rfl := si h
 exact pdF (.inl rfl) (iI (.agg [.d (.str ⟨#[]⟩), .nil]) iB.1 hH (i := 0) rfl rfl rfl (aS (.d (.int .i64 80)) rfl (aJ))) (FS.agg (FS.d (FS.nl (FS.nil hH))) (fun _ hH => FS.d (FS.nil hH)))
theorem eE (n_ lo hi r) (h : dU n_ lo hi = some r) : aL C 38 [(.int .i64 n_), (.int .i64 lo), (.int .i64 hi)] = some [(.bool r)] := by
 refine aB (bu _ _ rfl) PE rfl (jmp 0 (.d (.int .i64 n_)) rfl (jmp 1 (.d (.int .i64 lo)) rfl (jmp 2 (.d (.int .i64 hi)) rfl ?_)))
 refine Z ?_
 refine Wc h rfl rfl ?_ ?_ <;> intro _ h
 refine Z ?_
 refine Wb rfl rfl ?_
 refine Z ?_
 cases h; exact Pq rfl rfl
 refine Z ?_
 cases h; exact Pq rfl rfl
def rP (tF : aI) (n_F : Int) : sL → Bool → Prop := fun st r => match st with
  | .c0 i => ∀ b0 g H n (hH : HP H n [.box b0 (aI.av tF)]), PAt C (aj Tryz.f37) (.a (.b (.a (.b (.b (.b (.b .o))))))) ⟨upd (upd (upd g 1 (.pt b0 0)) 3 (.d (.int .i64 n_F))) 6 (.d (.int .i64 i)), H, n⟩ (aq C Tryz.f37 [(.bool r)])
  | .c1 i => ∀ b0 g H n (hH : HP H n [.box b0 (aI.av tF)]), PAt C (aj Tryz.f37) (.b (.b (.a (.a (.b (.a (.b (.b (.b (.b .o)))))))))) ⟨upd (upd (upd g 1 (.pt b0 0)) 3 (.d (.int .i64 n_F))) 6 (.d (.int .i64 i)), H, n⟩ (aq C Tryz.f37 [(.bool r)])
end Go.Proofs.YtkmbagocakiefaaGreatDoor.Wb
namespace Go.Proofs.YtkmbagocakiefaaGreatDoor.Wb
open Go Go.Jv
set_option maxHeartbeats 4000000
open Go.Proofs
set_option maxHeartbeats 4000000
attribute [local irreducible] EW EX PAt con
def xM (t : aI) (n_ : Int) (i : Int) (r : Bool) : Prop := ∀ b0 g H n (hH : HP H n [.box b0 (aI.av t)]), PAt C (aj Tryz.f37) (.a (.b (.a (.b (.b (.b .o)))))) ⟨upd (upd (upd g 1 (.pt b0 0)) 3 (.d (.int .i64 n_))) 4 (.d (.int .i64 i)), H, n⟩ (aq C Tryz.f37 [(.bool r)])
theorem xN (c r) (h : qo c = some r) : aL C 65 [(.int .u8 c)] = some [(.bool r)] := by
 refine aB (bu _ _ rfl) Q6 rfl (jmp 0 (.d (.int .u8 c)) rfl ?_)
 refine Z ?_
 refine Wc h rfl rfl ?_ ?_ <;> intro _ h
 refine Z ?_
 refine Wc h rfl rfl ?_ ?_ <;> intro _ h
 refine Z ?_
 cases h; exact Pq rfl rfl
 refine Z ?_
 refine Wc h rfl rfl ?_ ?_ <;> intro _ h
 refine Z ?_
 refine Wb rfl rfl ?_
 refine Z ?_
 cases h; exact Pq rfl rfl
 refine Z ?_
 cases h; exact Pq rfl rfl
 refine Z ?_
 refine Wc h rfl rfl ?_ ?_ <;> intro _ h
 refine Z ?_
 refine Wb rfl rfl ?_
 refine Z ?_
 cases h; exact Pq rfl rfl
 refine Z ?_
 cases h; exact Pq rfl rfl
theorem ua (c r) (h : pw c = some r) : aL C 92 [(.int .u8 c)] = some [(.bool r)] := by
 refine aB (bu _ _ rfl) Qx rfl (jmp 0 (.d (.int .u8 c)) rfl ?_)
 refine Z ?_
 refine Wc h rfl rfl ?_ ?_ <;> intro _ h
 refine Z ?_
 refine Wb rfl rfl ?_
 refine Z ?_
 cases h; exact Pq rfl rfl
 refine Z ?_
 cases h; exact Pq rfl rfl
def uC (s_ : ByteArray) (i : Int) (r : Int) : Prop := ∀ g H n, PAt C (aj Tryz.f64) (.a (.a (.b .o))) ⟨upd (upd g 0 (.d (.str s_))) 1 (.d (.int .i64 i)), H, n⟩ (aq C Tryz.f64 [(.int .i64 r)])
theorem oV (c base r) (h : mt c base = some r) (g H n) : PAt C (aj Tryz.f93) (.b (.b (.b .o))) ⟨upd (upd g 0 (.d (.int .u8 c))) 1 (.d (.int .i64 base)), H, n⟩ (aq C Tryz.f93 [(.int .i64 r)]) := by
 refine Z ?_
 refine Wc h rfl rfl ?_ ?_ <;> intro _ h
 refine Z ?_
 refine Wc h rfl rfl ?_ ?_ <;> intro _ h
 refine Z ?_
 refine Wc h rfl rfl ?_ ?_ <;> intro _ h
 refine Z ?_
 cases h; exact Pq rfl rfl
 refine Z ?_
 cases h; exact Pq rfl rfl
 refine Z ?_
 cases h; exact Pq rfl rfl
 refine Z ?_
 cases h; exact Pq rfl rfl
def oW (wF : ByteArray) (baseF : Int) (gapsF : Bool) : px → (Int × Bool) → Prop := fun st r => match st with
  | .c0 n_ i => ∀ g H n, PAt C (aj Tryz.f80) (.a (.b (.a (.b (.b .o))))) ⟨upd (upd (upd (upd (upd g 0 (.d (.str wF))) 1 (.d (.int .i64 baseF))) 2 (.d (.bool gapsF))) 8 (.d (.int .i64 n_))) 9 (.d (.int .i64 i)), H, n⟩ (aq C Tryz.f80 [(.int .i64 r.1), (.bool r.2)])
  | .c1 n_ i => ∀ g H n, PAt C (aj Tryz.f80) (.b (.b (.a (.a (.b (.a (.b (.b .o)))))))) ⟨upd (upd (upd (upd (upd g 0 (.d (.str wF))) 1 (.d (.int .i64 baseF))) 2 (.d (.bool gapsF))) 8 (.d (.int .i64 n_))) 9 (.d (.int .i64 i)), H, n⟩ (aq C Tryz.f80 [(.int .i64 r.1), (.bool r.2)])
def mY (wF : ByteArray) (unitsF : ByteArray) (worthF : A3 Int) : nk → (Int × Bool) → Prop := fun st r => match st with
  | .c0 n_ i k => ∀ b0 g H n (hH : HP H n [.box b0 [.d (.int .i64 worthF.e0), .d (.int .i64 worthF.e1), .d (.int .i64 worthF.e2)]]), PAt C (aj Tryz.f81) (.a (.b (.a (.b (.b (.b (.b (.b .o)))))))) ⟨upd (upd (upd (upd (upd (upd g 0 (.d (.str wF))) 4 (.d (.str unitsF))) 5 (.pt b0 0)) 6 (.d (.int .i64 n_))) 7 (.d (.int .i64 i))) 8 (.d (.int .i64 k)), H, n⟩ (aq C Tryz.f81 [(.int .i64 r.1), (.bool r.2)])
  | .c1 n_ i k j => ∀ b0 g H n (hH : HP H n [.box b0 [.d (.int .i64 worthF.e0), .d (.int .i64 worthF.e1), .d (.int .i64 worthF.e2)]]), PAt C (aj Tryz.f81) (.a (.a (.b (.a (.a (.b (.a (.a (.b (.a (.b (.b (.b (.b (.b .o))))))))))))))) ⟨upd (upd (upd (upd (upd (upd (upd g 0 (.d (.str wF))) 4 (.d (.str unitsF))) 5 (.pt b0 0)) 6 (.d (.int .i64 n_))) 7 (.d (.int .i64 i))) 8 (.d (.int .i64 k))) 9 (.d (.int .i64 j)), H, n⟩ (aq C Tryz.f81 [(.int .i64 r.1), (.bool r.2)])
  | .c2 n_ i k j => ∀ b0 g H n (hH : HP H n [.box b0 [.d (.int .i64 worthF.e0), .d (.int .i64 worthF.e1), .d (.int .i64 worthF.e2)]]), PAt C (aj Tryz.f81) (.b (.b (.a (.a (.b (.a (.a (.b (.a (.b (.b (.b (.b (.b .o)))))))))))))) ⟨upd (upd (upd (upd (upd (upd (upd g 0 (.d (.str wF))) 4 (.d (.str unitsF))) 5 (.pt b0 0)) 6 (.d (.int .i64 n_))) 7 (.d (.int .i64 i))) 8 (.d (.int .i64 k))) 9 (.d (.int .i64 j)), H, n⟩ (aq C Tryz.f81 [(.int .i64 r.1), (.bool r.2)])
  | .c3 n_ k j => ∀ b0 g H n (hH : HP H n [.box b0 [.d (.int .i64 worthF.e0), .d (.int .i64 worthF.e1), .d (.int .i64 worthF.e2)]]), PAt C (aj Tryz.f81) (.b (.b (.b (.a (.b (.b (.b (.a (.a (.b (.a (.a (.b (.a (.b (.b (.b (.b (.b .o))))))))))))))))))) ⟨upd (upd (upd (upd (upd (upd g 0 (.d (.str wF))) 4 (.d (.str unitsF))) 5 (.pt b0 0)) 6 (.d (.int .i64 n_))) 8 (.d (.int .i64 k))) 9 (.d (.int .i64 j)), H, n⟩ (aq C Tryz.f81 [(.int .i64 r.1), (.bool r.2)])
  | .c4 n_ i k => ∀ b0 g H n (hH : HP H n [.box b0 [.d (.int .i64 worthF.e0), .d (.int .i64 worthF.e1), .d (.int .i64 worthF.e2)]]), PAt C (aj Tryz.f81) (.b (.b (.a (.a (.b (.a (.b (.b (.b (.b (.b .o))))))))))) ⟨upd (upd (upd (upd (upd (upd g 0 (.d (.str wF))) 4 (.d (.str unitsF))) 5 (.pt b0 0)) 6 (.d (.int .i64 n_))) 7 (.d (.int .i64 i))) 8 (.d (.int .i64 k)), H, n⟩ (aq C Tryz.f81 [(.int .i64 r.1), (.bool r.2)])
theorem nO (n_ ok r) (h : jH n_ ok = some r) (g H n) : PAt C (aj Tryz.f66) (.b (.b (.b (.b .o)))) ⟨upd (upd g 4 (.d (.int .i64 n_))) 5 (.d (.bool ok)), H, n⟩ (aq C Tryz.f66 [(.int .i32 r.1), (.int .i64 r.2)]) := by
 refine Z ?_
 refine bA (b := (!ok)) h rfl (kC rfl rfl) rfl (fun _ => ⟨rfl, rfl⟩) ?_ ?_ <;> intro _ h
 refine Z ?_
 cases h; exact Pq rfl rfl
 refine Z ?_
 refine Wc h rfl rfl ?_ ?_ <;> intro _ h
 refine Z ?_
 cases h; exact Pq rfl rfl
 refine Z ?_
 cases h; exact Pq rfl rfl
def uD (w : ByteArray) (i : Int) (r : Int) : Prop := ∀ g H n, PAt C (aj Tryz.f51) (.a (.b (.a (.b (.b .o))))) ⟨upd (upd g 0 (.d (.str w))) 4 (.d (.int .i64 i)), H, n⟩ (aq C Tryz.f51 [(.int .i64 r)])
def uE (w : ByteArray) (i : Int) (r : Int) : Prop := ∀ g H n, PAt C (aj Tryz.f51) (.a (.b (.a (.b .o)))) ⟨upd (upd g 0 (.d (.str w))) 3 (.d (.int .i64 i)), H, n⟩ (aq C Tryz.f51 [(.int .i64 r)])
def oX (lF : List ByteArray) : pA → Bool → Prop := fun st r => match st with
  | .c0 i => ∀ g H n, PAt C (aj Tryz.f39) (.a (.b (.a (.b .o)))) ⟨upd (upd g 0 (.d (.lst (lF.map Dat.str)))) 3 (.d (.int .i64 i)), H, n⟩ (aq C Tryz.f39 [(.bool r)])
  | .c1 i j => ∀ g H n, PAt C (aj Tryz.f39) (.a (.b (.b (.a (.a (.b (.a (.a (.b (.a (.b .o))))))))))) ⟨upd (upd (upd g 0 (.d (.lst (lF.map Dat.str)))) 3 (.d (.int .i64 i))) 4 (.d (.int .i64 j)), H, n⟩ (aq C Tryz.f39 [(.bool r)])
def uF (t : ab) (l : List ByteArray) (i : Int) (r : List ByteArray) : Prop := ∀ b0 w1 g H n (hH : HP H n [.box b0 (ab.av t), fx w1 l]), PAt C (aj Tryz.f40) (.a (.b (.a (.b (.b (.b (.b (.b (.b (.b .o)))))))))) ⟨upd (upd (upd g 1 (.pt b0 0)) 3 (w1)) 7 (.d (.int .i64 i)), H, n⟩ (aq C Tryz.f40 [(.lst (r.map Dat.str))])
def uG (t : ab) (l : List ByteArray) (i : Int) (r : List ByteArray) : Prop := ∀ b0 w1 g H n (hH : HP H n [.box b0 (ab.av t), fx w1 l]), PAt C (aj Tryz.f40) (.a (.b (.a (.b (.b (.b (.b (.b (.b .o))))))))) ⟨upd (upd (upd g 1 (.pt b0 0)) 3 (w1)) 6 (.d (.int .i64 i)), H, n⟩ (aq C Tryz.f40 [(.lst (r.map Dat.str))])
def uH (t : ab) (l : List ByteArray) (i : Int) (r : List ByteArray) : Prop := ∀ b0 w1 g H n (hH : HP H n [.box b0 (ab.av t), fx w1 l]), PAt C (aj Tryz.f40) (.a (.b (.a (.b (.b (.b .o)))))) ⟨upd (upd (upd g 1 (.pt b0 0)) 3 (w1)) 5 (.d (.int .i64 i)), H, n⟩ (aq C Tryz.f40 [(.lst (r.map Dat.str))])
def uI (t : ab) (l : List ByteArray) (i : Int) (r : List ByteArray) : Prop := ∀ b0 w1 g H n (hH : HP H n [.box b0 (ab.av t), fx w1 l]), PAt C (aj Tryz.f40) (.a (.b (.a (.b (.b .o))))) ⟨upd (upd (upd g 1 (.pt b0 0)) 3 (w1)) 4 (.d (.int .i64 i)), H, n⟩ (aq C Tryz.f40 [(.lst (r.map Dat.str))])
theorem uJ (op r) (h : pN op = some r) (g H n) : PAt C (aj Tryz.f82) (.b (.b (.b (.b (.a (.b (.b (.b (.b (.a (.a (.b .o)))))))))))) ⟨upd g 0 (.d (.int .i64 op)), H, n⟩ (aq C Tryz.f82 [(.int .i64 r)]) := by
 refine Z ?_
 refine Wc h rfl rfl ?_ ?_ <;> intro _ h
 refine Z ?_
 cases h; exact Pq rfl rfl
 refine Z ?_
 refine Wc h rfl rfl ?_ ?_ <;> intro _ h
 refine Z ?_
 cases h; exact Pq rfl rfl
 refine Z ?_
 cases h; exact Pq rfl rfl
def xO (e : List ae) (wanted : Int) (j : Int) (r : Int) : Prop := ∀ g H n, PAt C (aj Tryz.f67) (.a (.b (.a (.b (.b (.b .o)))))) ⟨upd (upd (upd g 0 (.d (.lst (e.map ae.enc)))) 5 (.d (.int .i64 wanted))) 6 (.d (.int .i64 j)), H, n⟩ (aq C Tryz.f67 [(.int .i64 r)])
theorem Ga (op r) (h : pC op = some r) : aL C 84 [(.int .i64 op)] = some [(.int .i64 r.1), (.int .i64 r.2)] := by
 refine aB (bu _ _ rfl) Qp rfl (jmp 0 (.d (.int .i64 op)) rfl ?_)
 refine Z ?_
 refine Wc h rfl rfl ?_ ?_ <;> intro _ h
 refine Z ?_
 cases h; exact Pq rfl rfl
 refine Z ?_
 refine Wc h rfl rfl ?_ ?_ <;> intro _ h
 refine Z ?_
 cases h; exact Pq rfl rfl
 refine Z ?_
 refine Wc h rfl rfl ?_ ?_ <;> intro _ h
 refine Z ?_
 cases h; exact Pq rfl rfl
 refine Z ?_
 refine Wc h rfl rfl ?_ ?_ <;> intro _ h
 refine Z ?_
 cases h; exact Pq rfl rfl
 refine Z ?_
 refine Wc h rfl rfl ?_ ?_ <;> intro _ h
 refine Z ?_
 cases h; exact Pq rfl rfl
 refine Z ?_
 refine Wc h rfl rfl ?_ ?_ <;> intro _ h
 refine Z ?_
 cases h; exact Pq rfl rfl
 refine Z ?_
 refine Wc h rfl rfl ?_ ?_ <;> intro _ h
 refine Z ?_
 cases h; exact Pq rfl rfl
 refine Z ?_
 refine Wc h rfl rfl ?_ ?_ <;> intro _ h
 refine Z ?_
 cases h; exact Pq rfl rfl
 refine Z ?_
 refine Wc h rfl rfl ?_ ?_ <;> intro _ h
 refine Z ?_
 cases h; exact Pq rfl rfl
 refine Z ?_
 refine Wc h rfl rfl ?_ ?_ <;> intro _ h
 refine Z ?_
 cases h; exact Pq rfl rfl
 refine Z ?_
 refine Wc h rfl rfl ?_ ?_ <;> intro _ h
 refine Z ?_
 cases h; exact Pq rfl rfl
 refine Z ?_
 refine Wc h rfl rfl ?_ ?_ <;> intro _ h
 refine Z ?_
 cases h; exact Pq rfl rfl
 refine Z ?_
 refine Wc h rfl rfl ?_ ?_ <;> intro _ h
 refine Z ?_
 cases h; exact Pq rfl rfl
 refine Z ?_
 refine Wc h rfl rfl ?_ ?_ <;> intro _ h
 refine Z ?_
 cases h; exact Pq rfl rfl
 refine Z ?_
 refine Wc h rfl rfl ?_ ?_ <;> intro _ h
 refine Z ?_
 cases h; exact Pq rfl rfl
 refine Z ?_
 cases h; exact Pq rfl rfl
theorem Gb (op r) (h : pD op = some r) : aL C 85 [(.int .i64 op)] = some [(.int .i64 r)] := by
 refine aB (bu _ _ rfl) Qq rfl (jmp 0 (.d (.int .i64 op)) rfl ?_)
 refine Z ?_
 refine Wc h rfl rfl ?_ ?_ <;> intro _ h
 refine Z ?_
 cases h; exact Pq rfl rfl
 refine Z ?_
 refine Wc h rfl rfl ?_ ?_ <;> intro _ h
 refine Z ?_
 cases h; exact Pq rfl rfl
 refine Z ?_
 refine Wc h rfl rfl ?_ ?_ <;> intro _ h
 refine Z ?_
 cases h; exact Pq rfl rfl
 refine Z ?_
 refine Wc h rfl rfl ?_ ?_ <;> intro _ h
 refine Z ?_
 cases h; exact Pq rfl rfl
 refine Z ?_
 refine Wc h rfl rfl ?_ ?_ <;> intro _ h
 refine Z ?_
 cases h; exact Pq rfl rfl
 refine Z ?_
 refine Wc h rfl rfl ?_ ?_ <;> intro _ h
 refine Z ?_
 cases h; exact Pq rfl rfl
 refine Z ?_
 refine Wc h rfl rfl ?_ ?_ <;> intro _ h
 refine Z ?_
 cases h; exact Pq rfl rfl
 refine Z ?_
 refine Wc h rfl rfl ?_ ?_ <;> intro _ h
 refine Z ?_
 cases h; exact Pq rfl rfl
 refine Z ?_
 refine Wc h rfl rfl ?_ ?_ <;> intro _ h
 refine Z ?_
 cases h; exact Pq rfl rfl
 refine Z ?_
 refine Wc h rfl rfl ?_ ?_ <;> intro _ h
 refine Z ?_
 cases h; exact Pq rfl rfl
 refine Z ?_
 refine Wc h rfl rfl ?_ ?_ <;> intro _ h
 refine Z ?_
 cases h; exact Pq rfl rfl
 refine Z ?_
 refine Wc h rfl rfl ?_ ?_ <;> intro _ h
 refine Z ?_
 cases h; exact Pq rfl rfl
 refine Z ?_
 refine Wc h rfl rfl ?_ ?_ <;> intro _ h
 refine Z ?_
 cases h; exact Pq rfl rfl
 refine Z ?_
 refine Wc h rfl rfl ?_ ?_ <;> intro _ h
 refine Z ?_
 cases h; exact Pq rfl rfl
 refine Z ?_
 refine Wc h rfl rfl ?_ ?_ <;> intro _ h
 refine Z ?_
 cases h; exact Pq rfl rfl
 refine Z ?_
 cases h; exact Pq rfl rfl
def rV (eF : List ae) : sN → Int → Prop := fun st r => match st with
  | .c0 aC ops i => ∀ w0 w1 g H n (hH : HP H n [gw w0 aC, gw w1 ops]), PAt C (aj Tryz.f68) (.a (.b (.a (.b (.b (.b (.b (.b .o)))))))) ⟨upd (upd (upd (upd g 0 (.d (.lst (eF.map ae.enc)))) 4 (w0)) 5 (w1)) 6 (.d (.int .i64 i)), H, n⟩ (aq C Tryz.f68 [(.int .i64 r)])
  | .c1 aC ops i op a x y own k => ∀ w0 w1 g H n (hH : HP H n [gw w0 aC, gw w1 ops]), PAt C (aj Tryz.f68) (.a (.b (.a (.b (.b (.b (.b (.a (.a (.b (.a (.a (.b (.a (.b (.b (.b (.b (.b .o))))))))))))))))))) ⟨upd (upd (upd (upd (upd (upd (upd (upd (upd (upd g 0 (.d (.lst (eF.map ae.enc)))) 4 (w0)) 5 (w1)) 6 (.d (.int .i64 i))) 7 (.d (.int .i64 op))) 8 (.d (.int .i64 a))) 9 (.d (.int .i64 x))) 10 (.d (.int .i64 y))) 11 (.d (.int .i64 own))) 12 (.d (.int .i64 k)), H, n⟩ (aq C Tryz.f68 [(.int .i64 r)])
  | .c2 aC ops i op a x y own k n_ asked => ∀ w0 w1 g H n (hH : HP H n [gw w0 aC, gw w1 ops]), PAt C (aj Tryz.f68) (.b (.b (.b (.a (.a (.b (.a (.a (.b (.a (.b (.b (.b (.b (.a (.a (.b (.a (.a (.b (.a (.b (.b (.b (.b (.b .o)))))))))))))))))))))))))) ⟨upd (upd (upd (upd (upd (upd (upd (upd (upd (upd (upd (upd g 0 (.d (.lst (eF.map ae.enc)))) 4 (w0)) 5 (w1)) 6 (.d (.int .i64 i))) 7 (.d (.int .i64 op))) 8 (.d (.int .i64 a))) 9 (.d (.int .i64 x))) 10 (.d (.int .i64 y))) 11 (.d (.int .i64 own))) 12 (.d (.int .i64 k))) 13 (.d (.int .i64 n_))) 14 (.d (.int .i64 asked)), H, n⟩ (aq C Tryz.f68 [(.int .i64 r)])
  | .c3 aC ops i op a x y own k v => ∀ w0 w1 g H n (hH : HP H n [gw w0 aC, gw w1 ops]), PAt C (aj Tryz.f68) (.b (.b (.b (.b (.b (.a (.a (.b (.a (.a (.b (.a (.b (.b (.b (.b (.a (.a (.b (.a (.a (.b (.a (.b (.b (.b (.b (.b .o)))))))))))))))))))))))))))) ⟨upd (upd (upd (upd (upd (upd (upd (upd (upd (upd (upd g 0 (.d (.lst (eF.map ae.enc)))) 4 (w0)) 5 (w1)) 6 (.d (.int .i64 i))) 7 (.d (.int .i64 op))) 8 (.d (.int .i64 a))) 9 (.d (.int .i64 x))) 10 (.d (.int .i64 y))) 11 (.d (.int .i64 own))) 12 (.d (.int .i64 k))) 15 (.d (.int .i64 v)), H, n⟩ (aq C Tryz.f68 [(.int .i64 r)])
  | .c4 aC ops i op a x y own k => ∀ w0 w1 g H n (hH : HP H n [gw w0 aC, gw w1 ops]), PAt C (aj Tryz.f68) (.b (.b (.a (.a (.b (.a (.b (.b (.b (.b (.a (.a (.b (.a (.a (.b (.a (.b (.b (.b (.b (.b .o)))))))))))))))))))))) ⟨upd (upd (upd (upd (upd (upd (upd (upd (upd (upd g 0 (.d (.lst (eF.map ae.enc)))) 4 (w0)) 5 (w1)) 6 (.d (.int .i64 i))) 7 (.d (.int .i64 op))) 8 (.d (.int .i64 a))) 9 (.d (.int .i64 x))) 10 (.d (.int .i64 y))) 11 (.d (.int .i64 own))) 12 (.d (.int .i64 k)), H, n⟩ (aq C Tryz.f68 [(.int .i64 r)])
  | .c5 aC ops i op a own => ∀ w0 w1 g H n (hH : HP H n [gw w0 aC, gw w1 ops]), PAt C (aj Tryz.f68) (.a (.b (.a (.b (.b (.b (.b (.b (.a (.a (.b (.a (.a (.b (.a (.b (.b (.b (.b (.b .o)))))))))))))))))))) ⟨upd (upd (upd (upd (upd (upd (upd g 0 (.d (.lst (eF.map ae.enc)))) 4 (w0)) 5 (w1)) 6 (.d (.int .i64 i))) 7 (.d (.int .i64 op))) 8 (.d (.int .i64 a))) 11 (.d (.int .i64 own)), H, n⟩ (aq C Tryz.f68 [(.int .i64 r)])
  | .c6 aC ops i op a own => ∀ w0 w1 g H n (hH : HP H n [gw w0 aC, gw w1 ops]), PAt C (aj Tryz.f68) (.b (.b (.b (.b (.b (.b (.a (.a (.b (.a (.a (.b (.a (.b (.b (.b (.b (.b .o)))))))))))))))))) ⟨upd (upd (upd (upd (upd (upd (upd g 0 (.d (.lst (eF.map ae.enc)))) 4 (w0)) 5 (w1)) 6 (.d (.int .i64 i))) 7 (.d (.int .i64 op))) 8 (.d (.int .i64 a))) 11 (.d (.int .i64 own)), H, n⟩ (aq C Tryz.f68 [(.int .i64 r)])
theorem uK (op r) (h : eI op = some r) : aL C 86 [(.int .i64 op)] = some [(.int .i64 r)] := by
 refine aB (bu _ _ rfl) Qr rfl (jmp 0 (.d (.int .i64 op)) rfl ?_)
 refine Z ?_
 refine Wc h rfl rfl ?_ ?_ <;> intro _ h
 refine Z ?_
 cases h; exact Pq rfl rfl
 refine Z ?_
 refine Wc h rfl rfl ?_ ?_ <;> intro _ h
 refine Z ?_
 cases h; exact Pq rfl rfl
 refine Z ?_
 cases h; exact Pq rfl rfl
theorem wh (t r) (h : rx t = some r) (b0 g H n) (hH : HP H n [.box b0 (ab.av t)]) : PAt C (aj Tryz.f94) (.a (.b (.a (.b (.a (.b .o)))))) ⟨upd g 2 (.pt b0 0), H, n⟩ (aq C Tryz.f94 [(.int .i64 r)]) := by
 refine Z ?_
 cases h; exact Pq rfl rfl
theorem tf (a r) (h : ox a = some r) (g H n) : PAt C (aj Tryz.f88) (.a (.b (.a (.a (.b .o))))) ⟨upd g 1 (.d (.int .i64 a)), H, n⟩ (aq C Tryz.f88 [(.int .i64 r)]) := by
 refine Z ?_
 refine Wc h rfl rfl ?_ ?_ <;> intro _ h
 refine Z ?_
 cases h; exact Pq rfl rfl
 refine Z ?_
 cases h; exact Pq rfl rfl
theorem tg (a b r) (h : oy a b = some r) (g H n) : PAt C (aj Tryz.f88) (.a (.b (.b (.b (.b (.b (.b (.b (.a (.a (.b .o))))))))))) ⟨upd (upd g 1 (.d (.int .i64 a))) 2 (.d (.int .i64 b)), H, n⟩ (aq C Tryz.f88 [(.int .i64 r)]) := by
 refine Z ?_
 refine Wc h rfl rfl ?_ ?_ <;> intro _ h
 refine Z ?_
 cases h; exact Pq rfl rfl
 refine Z ?_
 cases h; exact Pq rfl rfl
theorem tj (a b r) (h : oz a b = some r) (g H n) : PAt C (aj Tryz.f88) (.a (.b (.b (.b (.b (.b (.b (.b (.b (.b (.b (.b (.a (.a (.b .o))))))))))))))) ⟨upd (upd g 1 (.d (.int .i64 a))) 2 (.d (.int .i64 b)), H, n⟩ (aq C Tryz.f88 [(.int .i64 r)]) := by
 refine Z ?_
 refine Wc h rfl rfl ?_ ?_ <;> intro _ h
 refine Z ?_
 refine Wc h rfl rfl ?_ ?_ <;> intro _ h
 refine Z ?_
 cases h; exact Pq rfl rfl
 refine Z ?_
 cases h; exact Pq rfl rfl
 refine Z ?_
 cases h; exact Pq rfl rfl
def qy (eF : List ae) (tF : ab) : qD → Int → Prop := fun st r => match st with
  | .c0 stack i => ∀ b0 w1 g H n (hH : HP H n [.box b0 (ab.av tF), gw w1 stack]), PAt C (aj Tryz.f69) (.a (.b (.a (.b (.b .o))))) ⟨upd (upd (upd (upd g 1 (.d (.lst (eF.map ae.enc)))) 2 (.pt b0 0)) 5 (w1)) 6 (.d (.int .i64 i)), H, n⟩ (aq C Tryz.f69 [(.int .i64 r)])
  | .c1 stack i typ => ∀ b0 w1 g H n (hH : HP H n [.box b0 (ab.av tF), gw w1 stack]), PAt C (aj Tryz.f69) (.b (.b (.b (.b (.b (.a (.a (.b (.a (.a (.b (.a (.b (.b .o)))))))))))))) ⟨upd (upd (upd (upd (upd g 1 (.d (.lst (eF.map ae.enc)))) 2 (.pt b0 0)) 5 (w1)) 6 (.d (.int .i64 i))) 9 (.d (.int .i64 typ)), H, n⟩ (aq C Tryz.f69 [(.int .i64 r)])
def lO (lF : List ac) (tF : ab) : lW → Bool → Prop := fun st r => match st with
  | .c0 elses i => ∀ b0 w1 g H n (hH : HP H n [.box b0 (ab.av tF), yH w1 elses]), PAt C (aj Tryz.f52) (.a (.b (.a (.b (.b .o))))) ⟨upd (upd (upd (upd g 1 (.d (.lst (lF.map ac.enc)))) 2 (.pt b0 0)) 5 (w1)) 6 (.d (.int .i64 i)), H, n⟩ (aq C Tryz.f52 [(.bool r)])
  | .c1 elses i s_ typ => ∀ b0 w1 b2 g H n (hH : HP H n [.box b0 (ab.av tF), yH w1 elses, .box b2 (ac.av s_)]), PAt C (aj Tryz.f52) (.a (.b (.b (.b (.a (.b (.a (.b (.b (.b (.b (.b (.a (.a (.b (.a (.a (.b (.a (.b (.b .o))))))))))))))))))))) ⟨upd (upd (upd (upd (upd (upd g 1 (.d (.lst (lF.map ac.enc)))) 2 (.pt b0 0)) 5 (w1)) 6 (.d (.int .i64 i))) 7 (.pt b2 0)) 10 (.d (.int .i64 typ)), H, n⟩ (aq C Tryz.f52 [(.bool r)])
  | .c2 elses i s_ typ => ∀ b0 w1 b2 g H n (hH : HP H n [.box b0 (ab.av tF), yH w1 elses, .box b2 (ac.av s_)]), PAt C (aj Tryz.f52) (.a (.b (.b (.b (.b (.b (.a (.b (.a (.b (.b (.b (.b (.b (.a (.a (.b (.a (.a (.b (.a (.b (.b .o))))))))))))))))))))))) ⟨upd (upd (upd (upd (upd (upd g 1 (.d (.lst (lF.map ac.enc)))) 2 (.pt b0 0)) 5 (w1)) 6 (.d (.int .i64 i))) 7 (.pt b2 0)) 10 (.d (.int .i64 typ)), H, n⟩ (aq C Tryz.f52 [(.bool r)])
  | .c3 elses i s_ things typ => ∀ b0 w1 b2 g H n (hH : HP H n [.box b0 (ab.av tF), yH w1 elses, .box b2 (ac.av s_)]), PAt C (aj Tryz.f52) (.b (.b (.b (.b (.b (.b (.a (.a (.b (.a (.a (.b (.a (.b (.b .o))))))))))))))) ⟨upd (upd (upd (upd (upd (upd (upd g 1 (.d (.lst (lF.map ac.enc)))) 2 (.pt b0 0)) 5 (w1)) 6 (.d (.int .i64 i))) 7 (.pt b2 0)) 9 (.d (.int .i64 things))) 10 (.d (.int .i64 typ)), H, n⟩ (aq C Tryz.f52 [(.bool r)])
  | .c4 elses i => ∀ b0 w1 g H n (hH : HP H n [.box b0 (ab.av tF), yH w1 elses]), PAt C (aj Tryz.f52) (.b (.b (.a (.a (.b (.a (.b (.b .o)))))))) ⟨upd (upd (upd (upd g 1 (.d (.lst (lF.map ac.enc)))) 2 (.pt b0 0)) 5 (w1)) 6 (.d (.int .i64 i)), H, n⟩ (aq C Tryz.f52 [(.bool r)])
def wi (l : List ac) (n_ : Int) (i : Int) (r : Int) : Prop := ∀ g H n, PAt C (aj Tryz.f53) (.a (.b (.a (.b (.b .o))))) ⟨upd (upd (upd g 0 (.d (.lst (l.map ac.enc)))) 3 (.d (.int .i64 n_))) 4 (.d (.int .i64 i)), H, n⟩ (aq C Tryz.f53 [(.int .i64 r)])
def oY (tF : ab) : pE → Bool → Prop := fun st r => match st with
  | .c0 stmts nexts total i => ∀ b0 g H n (hH : HP H n [.box b0 (ab.av tF)]), PAt C (aj Tryz.f41) (.a (.b (.a (.b (.b (.b (.b .o))))))) ⟨upd (upd (upd (upd (upd g 1 (.pt b0 0)) 3 (.d (.int .i64 stmts))) 4 (.d (.int .i64 nexts))) 5 (.d (.int .i64 total))) 6 (.d (.int .i64 i)), H, n⟩ (aq C Tryz.f41 [(.bool r)])
  | .c1 stmts nexts total i s_ => ∀ b0 b1 g H n (hH : HP H n [.box b0 (ab.av tF), .box b1 (ah.av s_)]), PAt C (aj Tryz.f41) (.b (.b (.a (.a (.b (.a (.a (.b (.a (.b (.b (.b (.b .o))))))))))))) ⟨upd (upd (upd (upd (upd (upd g 1 (.pt b0 0)) 3 (.d (.int .i64 stmts))) 4 (.d (.int .i64 nexts))) 5 (.d (.int .i64 total))) 6 (.d (.int .i64 i))) 7 (.pt b1 0), H, n⟩ (aq C Tryz.f41 [(.bool r)])
  | .c2 stmts nexts total i s_ => ∀ b0 b1 g H n (hH : HP H n [.box b0 (ab.av tF), .box b1 (ah.av s_)]), PAt C (aj Tryz.f41) (.b (.b (.b (.b (.a (.a (.b (.a (.a (.b (.a (.b (.b (.b (.b .o))))))))))))))) ⟨upd (upd (upd (upd (upd (upd g 1 (.pt b0 0)) 3 (.d (.int .i64 stmts))) 4 (.d (.int .i64 nexts))) 5 (.d (.int .i64 total))) 6 (.d (.int .i64 i))) 7 (.pt b1 0), H, n⟩ (aq C Tryz.f41 [(.bool r)])
  | .c3 stmts nexts total i s_ j => ∀ b0 b1 g H n (hH : HP H n [.box b0 (ab.av tF), .box b1 (ah.av s_)]), PAt C (aj Tryz.f41) (.a (.b (.b (.b (.b (.b (.b (.b (.b (.b (.a (.a (.b (.a (.a (.b (.a (.b (.b (.b (.b .o))))))))))))))))))))) ⟨upd (upd (upd (upd (upd (upd (upd g 1 (.pt b0 0)) 3 (.d (.int .i64 stmts))) 4 (.d (.int .i64 nexts))) 5 (.d (.int .i64 total))) 6 (.d (.int .i64 i))) 7 (.pt b1 0)) 9 (.d (.int .i64 j)), H, n⟩ (aq C Tryz.f41 [(.bool r)])
def wj (t : ab) (i : Int) (r : Bool) : Prop := ∀ b0 g H n (hH : HP H n [.box b0 (ab.av t)]), PAt C (aj Tryz.f19) (.a (.b (.a (.b (.b (.b .o)))))) ⟨upd (upd g 1 (.pt b0 0)) 3 (.d (.int .i64 i)), H, n⟩ (aq C Tryz.f19 [(.bool r)])
def qz (eF : List ae) : qE → Bool → Prop := fun st r => match st with
  | .c0 i => ∀ g H n, PAt C (aj Tryz.f43) (.a (.b (.a (.b .o)))) ⟨upd (upd g 0 (.d (.lst (eF.map ae.enc)))) 3 (.d (.int .i64 i)), H, n⟩ (aq C Tryz.f43 [(.bool r)])
  | .c1 i => ∀ g H n, PAt C (aj Tryz.f43) (.b (.b (.a (.a (.b (.a (.b .o))))))) ⟨upd (upd g 0 (.d (.lst (eF.map ae.enc)))) 3 (.d (.int .i64 i)), H, n⟩ (aq C Tryz.f43 [(.bool r)])
def qH (l : List ac) (i : Int) (r : Bool) : Prop := ∀ g H n, PAt C (aj Tryz.f42) (.a (.b (.a (.b .o)))) ⟨upd (upd g 0 (.d (.lst (l.map ac.enc)))) 3 (.d (.int .i64 i)), H, n⟩ (aq C Tryz.f42 [(.bool r)])
def na (tF : ab) : nn → Bool → Prop := fun st r => match st with
  | .c0 i => ∀ b0 g H n (hH : HP H n [.box b0 (ab.av tF)]), PAt C (aj Tryz.f20) (.a (.b (.a (.b (.b .o))))) ⟨upd (upd g 1 (.pt b0 0)) 4 (.d (.int .i64 i)), H, n⟩ (aq C Tryz.f20 [(.bool r)])
  | .c1 i s_ j => ∀ b0 b1 g H n (hH : HP H n [.box b0 (ab.av tF), .box b1 (ah.av s_)]), PAt C (aj Tryz.f20) (.a (.b (.b (.b (.a (.a (.b (.a (.a (.b (.a (.b (.b .o))))))))))))) ⟨upd (upd (upd (upd g 1 (.pt b0 0)) 4 (.d (.int .i64 i))) 5 (.pt b1 0)) 6 (.d (.int .i64 j)), H, n⟩ (aq C Tryz.f20 [(.bool r)])
def rW (t : ab) (i : Int) (r : Bool) : Prop := ∀ b0 g H n (hH : HP H n [.box b0 (ab.av t)]), PAt C (aj Tryz.f20) (.a (.b (.a (.b .o)))) ⟨upd (upd g 1 (.pt b0 0)) 3 (.d (.int .i64 i)), H, n⟩ (aq C Tryz.f20 [(.bool r)])
def nP (eF : List ae) (tF : ab) : oD → (List ae) → Prop := fun st r => match st with
  | .c0 l i => ∀ b0 w1 g H n (hH : HP H n [.box b0 (ab.av tF), iV w1 l]), PAt C (aj Tryz.f45) (.a (.b (.a (.b (.b .o))))) ⟨upd (upd (upd (upd g 1 (.d (.lst (eF.map ae.enc)))) 2 (.pt b0 0)) 5 (w1)) 6 (.d (.int .i64 i)), H, n⟩ (aq C Tryz.f45 [(.lst (r.map ae.enc))])
  | .c1 l i n_ v => ∀ b0 w1 b2 g H n (hH : HP H n [.box b0 (ab.av tF), iV w1 l, .box b2 (ae.av n_)]), PAt C (aj Tryz.f45) (.a (.b (.b (.b (.b (.b (.b (.b (.b (.b (.a (.b (.a (.b (.b (.a (.a (.b (.a (.a (.b (.a (.b (.b .o)))))))))))))))))))))))) ⟨upd (upd (upd (upd (upd (upd g 1 (.d (.lst (eF.map ae.enc)))) 2 (.pt b0 0)) 5 (w1)) 6 (.d (.int .i64 i))) 7 (.pt b2 0)) 8 (.d (.int .i64 v)), H, n⟩ (aq C Tryz.f45 [(.lst (r.map ae.enc))])
  | .c2 l i n_ => ∀ b0 w1 b2 g H n (hH : HP H n [.box b0 (ab.av tF), iV w1 l, .box b2 (ae.av n_)]), PAt C (aj Tryz.f45) (.b (.b (.b (.a (.a (.b (.a (.a (.b (.a (.b (.b .o)))))))))))) ⟨upd (upd (upd (upd (upd g 1 (.d (.lst (eF.map ae.enc)))) 2 (.pt b0 0)) 5 (w1)) 6 (.d (.int .i64 i))) 7 (.pt b2 0), H, n⟩ (aq C Tryz.f45 [(.lst (r.map ae.enc))])
end Go.Proofs.YtkmbagocakiefaaGreatDoor.Wb
