/- The abstract machine computes these functions. Printed by decomp.py. -/
import Derived.Test.YtkmbagocakiefaaGreatDoorD2
import Derived.Test.YtkmbagocakiefaaGreatDoorW1
import Derived.Test.YtkmbagocakiefaaGreatDoorW2
namespace Go.Proofs.YtkmbagocakiefaaGreatDoor.Wb
open Go Go.Jv
set_option maxHeartbeats 4000000
open Go.Proofs
set_option maxHeartbeats 4000000
attribute [local irreducible] EW EX PAt con
def kD (lF : List ac) (tF : ab) : kE → (List ac) → Prop := fun st r => match st with
  | .c0 out i => ∀ b0 w1 g H n (hH : HP H n [.box b0 (ab.av tF), br w1 out]), PAt C (aj Tryz.f44) (.a (.b (.a (.b (.b .o))))) ⟨upd (upd (upd (upd g 1 (.d (.lst (lF.map ac.enc)))) 2 (.pt b0 0)) 5 (w1)) 6 (.d (.int .i64 i)), H, n⟩ (aq C Tryz.f44 [(.lst (r.map ac.enc))])
  | .c1 out i s_ => ∀ b0 w1 b2 g H n (hH : HP H n [.box b0 (ab.av tF), br w1 out, .box b2 (ac.av s_)]), PAt C (aj Tryz.f44) (.a (.b (.b (.b (.a (.b (.a (.b (.a (.a (.b (.a (.a (.b (.a (.b (.b .o))))))))))))))))) ⟨upd (upd (upd (upd (upd g 1 (.d (.lst (lF.map ac.enc)))) 2 (.pt b0 0)) 5 (w1)) 6 (.d (.int .i64 i))) 7 (.pt b2 0), H, n⟩ (aq C Tryz.f44 [(.lst (r.map ac.enc))])
  | .c2 out i s_ => ∀ b0 w1 b2 g H n (hH : HP H n [.box b0 (ab.av tF), br w1 out, .box b2 (ac.av s_)]), PAt C (aj Tryz.f44) (.b (.b (.a (.a (.b (.a (.a (.b (.a (.b (.b .o))))))))))) ⟨upd (upd (upd (upd (upd g 1 (.d (.lst (lF.map ac.enc)))) 2 (.pt b0 0)) 5 (w1)) 6 (.d (.int .i64 i))) 7 (.pt b2 0), H, n⟩ (aq C Tryz.f44 [(.lst (r.map ac.enc))])
def oc (t : ab) (s_ : ah) (Green : List ByteArray) (Enter : List ac) (During : List ac) (Leave : List ac) (Nexts : List da) (i : Int) (r : bn) : Prop := ∀ b0 b1 b2 b3 w4 w5 g H n (hH : HP H n [.box b0 (ab.av t), .box b1 (ah.av s_), .box b2 [.nil, .nil, .nil, .nil, .nil], .box b3 [w4, .d (.lst (Enter.map ac.enc)), .d (.lst (During.map ac.enc)), .d (.lst (Leave.map ac.enc)), w5], fx w4 Green, mo w5 Nexts]), PAt C (aj Tryz.f21) (.a (.b (.a (.b (.b (.b (.b (.b (.b .o))))))))) ⟨upd (upd (upd (upd (upd g 2 (.pt b0 0)) 3 (.pt b1 0)) 4 (.pt b2 0)) 5 (.pt b3 0)) 7 (.d (.int .i64 i)), H, n⟩ (aq C Tryz.f21 [(bn.enc r)])
def jU (tF : ab) (s_F : ah) : kc → bn → Prop := fun st r => match st with
  | .c0 Green g_ => ∀ b0 b1 b2 b3 w4 g H n (hH : HP H n [.box b0 (ab.av tF), .box b1 (ah.av s_F), .box b2 [.nil, .nil, .nil, .nil, .nil], .box b3 [w4, .nil, .nil, .nil, .nil], fx w4 Green]), PAt C (aj Tryz.f21) (.a (.b (.a (.b (.b .o))))) ⟨upd (upd (upd (upd (upd g 2 (.pt b0 0)) 3 (.pt b1 0)) 4 (.pt b2 0)) 5 (.pt b3 0)) 6 (.d (.int .i64 g_)), H, n⟩ (aq C Tryz.f21 [(bn.enc r)])
  | .c1 Green g_ => ∀ b0 b1 b2 b3 w4 g H n (hH : HP H n [.box b0 (ab.av tF), .box b1 (ah.av s_F), .box b2 [.nil, .nil, .nil, .nil, .nil], .box b3 [w4, .nil, .nil, .nil, .nil], fx w4 Green]), PAt C (aj Tryz.f21) (.b (.b (.a (.a (.b (.a (.b (.b .o)))))))) ⟨upd (upd (upd (upd (upd g 2 (.pt b0 0)) 3 (.pt b1 0)) 4 (.pt b2 0)) 5 (.pt b3 0)) 6 (.d (.int .i64 g_)), H, n⟩ (aq C Tryz.f21 [(bn.enc r)])
def yA (t : ab) (Name : ByteArray) (Name1 : ByteArray) (Decls : List aV) (i : Int) (r : aW × Int) : Prop := ∀ b0 b1 b2 w3 g H n (hH : HP H n [.box b0 (ab.av t), .box b1 [.d (.str Name), .nil], .box b2 [.d (.str Name1), w3], dS w3 Decls]), PAt C (aj Tryz.f6) (.a (.b (.a (.b (.b (.b (.b (.b (.b (.b (.b (.b (.b .o))))))))))))) ⟨upd (upd (upd (upd g 1 (.pt b0 0)) 2 (.pt b1 0)) 4 (.pt b2 0)) 14 (.d (.int .i64 i)), H, n⟩ (aq C Tryz.f6 [(aW.enc r.1), (.int .i64 r.2)])
def yB (t : ab) (Name : ByteArray) (Name1 : ByteArray) (Decls : List aV) (i : Int) (r : aW × Int) : Prop := ∀ b0 b1 b2 w3 g H n (hH : HP H n [.box b0 (ab.av t), .box b1 [.d (.str Name), .nil], .box b2 [.d (.str Name1), w3], dS w3 Decls]), PAt C (aj Tryz.f6) (.a (.b (.a (.b (.b (.b (.b (.b (.b (.b (.b (.b .o)))))))))))) ⟨upd (upd (upd (upd g 1 (.pt b0 0)) 2 (.pt b1 0)) 4 (.pt b2 0)) 13 (.d (.int .i64 i)), H, n⟩ (aq C Tryz.f6 [(aW.enc r.1), (.int .i64 r.2)])
def yC (t : ab) (Name : ByteArray) (Name1 : ByteArray) (Decls : List aV) (i : Int) (r : aW × Int) : Prop := ∀ b0 b1 b2 w3 g H n (hH : HP H n [.box b0 (ab.av t), .box b1 [.d (.str Name), .nil], .box b2 [.d (.str Name1), w3], dS w3 Decls]), PAt C (aj Tryz.f6) (.a (.b (.a (.b (.b (.b (.b (.b (.b (.b (.b .o))))))))))) ⟨upd (upd (upd (upd g 1 (.pt b0 0)) 2 (.pt b1 0)) 4 (.pt b2 0)) 12 (.d (.int .i64 i)), H, n⟩ (aq C Tryz.f6 [(aW.enc r.1), (.int .i64 r.2)])
def yD (t : ab) (Name : ByteArray) (Name1 : ByteArray) (Decls : List aV) (i : Int) (r : aW × Int) : Prop := ∀ b0 b1 b2 w3 g H n (hH : HP H n [.box b0 (ab.av t), .box b1 [.d (.str Name), .nil], .box b2 [.d (.str Name1), w3], dS w3 Decls]), PAt C (aj Tryz.f6) (.a (.b (.a (.b (.b (.b (.b (.b (.b (.b .o)))))))))) ⟨upd (upd (upd (upd g 1 (.pt b0 0)) 2 (.pt b1 0)) 4 (.pt b2 0)) 11 (.d (.int .i64 i)), H, n⟩ (aq C Tryz.f6 [(aW.enc r.1), (.int .i64 r.2)])
def sq (tF : ab) (NameF : ByteArray) (Name1F : ByteArray) : sQ → (aW × Int) → Prop := fun st r => match st with
  | .c0 Decls i => ∀ b0 b1 b2 w3 g H n (hH : HP H n [.box b0 (ab.av tF), .box b1 [.d (.str NameF), .nil], .box b2 [.d (.str Name1F), w3], dS w3 Decls]), PAt C (aj Tryz.f6) (.a (.b (.a (.b (.b (.b (.b (.b (.b .o))))))))) ⟨upd (upd (upd (upd g 1 (.pt b0 0)) 2 (.pt b1 0)) 4 (.pt b2 0)) 9 (.d (.int .i64 i)), H, n⟩ (aq C Tryz.f6 [(aW.enc r.1), (.int .i64 r.2)])
  | .c1 Decls i Kind At_Line At_Col Name2 With Sort_ N_e0 N_e1 N_e2 => ∀ b0 b1 b2 w3 b4 g H n (hH : HP H n [.box b0 (ab.av tF), .box b1 [.d (.str NameF), .nil], .box b2 [.d (.str Name1F), w3], dS w3 Decls, .box b4 [.d (.int .i64 Kind), .d (.int .i64 At_Line), .d (.int .i64 At_Col), .d (.str Name2), .d (.str With), .d (.int .i64 Sort_), .d (.int .i32 N_e0), .d (.int .i32 N_e1), .d (.int .i32 N_e2), .nil, .nil, .nil, .nil, .nil, .nil]]), PAt C (aj Tryz.f6) (.b (.b (.a (.a (.b (.a (.a (.b (.a (.b (.b (.b (.b (.b (.b .o))))))))))))))) ⟨upd (upd (upd (upd (upd g 1 (.pt b0 0)) 2 (.pt b1 0)) 4 (.pt b2 0)) 9 (.d (.int .i64 i))) 10 (.pt b4 0), H, n⟩ (aq C Tryz.f6 [(aW.enc r.1), (.int .i64 r.2)])
def yE (t : ab) (Name : ByteArray) (Name1 : ByteArray) (Decls : List aV) (l : List ak) (i : Int) (r : aW × Int) : Prop := ∀ b0 b1 b2 w3 g H n (hH : HP H n [.box b0 (ab.av t), .box b1 [.d (.str Name), .nil], .box b2 [.d (.str Name1), w3], dS w3 Decls]), PAt C (aj Tryz.f6) (.a (.b (.a (.b (.b (.b (.b (.b .o)))))))) ⟨upd (upd (upd (upd (upd g 1 (.pt b0 0)) 2 (.pt b1 0)) 4 (.pt b2 0)) 5 (.d (.lst (l.map ak.enc)))) 7 (.d (.int .i64 i)), H, n⟩ (aq C Tryz.f6 [(aW.enc r.1), (.int .i64 r.2)])
def yF (t : ab) (Name : ByteArray) (Name1 : ByteArray) (Decls : List aV) (l : List ak) (i : Int) (r : aW × Int) : Prop := ∀ b0 b1 b2 w3 g H n (hH : HP H n [.box b0 (ab.av t), .box b1 [.d (.str Name), .nil], .box b2 [.d (.str Name1), w3], dS w3 Decls]), PAt C (aj Tryz.f6) (.a (.b (.a (.b (.b (.b (.b .o))))))) ⟨upd (upd (upd (upd (upd g 1 (.pt b0 0)) 2 (.pt b1 0)) 4 (.pt b2 0)) 5 (.d (.lst (l.map ak.enc)))) 6 (.d (.int .i64 i)), H, n⟩ (aq C Tryz.f6 [(aW.enc r.1), (.int .i64 r.2)])
theorem wz (Name r) (h : ry Name = some r) (b0 g H n) (hH : HP H n [.box b0 [.d (.str Name), .nil]]) : PAt C (aj Tryz.f6) (.a (.b (.a (.b .o)))) ⟨upd g 2 (.pt b0 0), H, n⟩ (aq C Tryz.f6 [(aW.enc r.1), (.int .i64 r.2)]) := by
 refine Z ?_
 refine cr (cs := [.d (.str ⟨#[]⟩), .nil]) rfl mh vN rfl ?_
 refine ax (new := [.d (.str ⟨#[]⟩), .nil]) rfl iB.1 hH (i := 0) rfl rfl rfl rfl rfl (Nat.le_of_ble_eq_true rfl) (fun H' hH => ?_)
 refine Z ?_
 refine Pt rfl (Cr ?_)
 obtain rfl := si h
 exact pdF (.inl rfl) (iI (.agg [.d (.str ⟨#[]⟩), .nil]) iB.1 hH (i := 0) rfl rfl rfl (aS (.d (.int .i64 80)) rfl (aJ))) (FS.agg (FS.d (FS.nl (FS.nil hH))) (fun _ hH => FS.d (FS.nil hH)))
def qL (a : List ae) (b : List ae) (i : Int) (r : Bool) : Prop := ∀ g H n, PAt C (aj Tryz.f22) (.a (.b (.a (.b (.b .o))))) ⟨upd (upd (upd g 0 (.d (.lst (a.map ae.enc)))) 1 (.d (.lst (b.map ae.enc)))) 5 (.d (.int .i64 i)), H, n⟩ (aq C Tryz.f22 [(.bool r)])
def oM (a : List ByteArray) (b : List ByteArray) (i : Int) (r : Bool) : Prop := ∀ g H n, PAt C (aj Tryz.f25) (.a (.b (.a (.b (.b .o))))) ⟨upd (upd (upd g 0 (.d (.lst (a.map Dat.str)))) 1 (.d (.lst (b.map Dat.str)))) 5 (.d (.int .i64 i)), H, n⟩ (aq C Tryz.f25 [(.bool r)])
def qM (a : List ac) (b : List ac) (i : Int) (r : Bool) : Prop := ∀ g H n, PAt C (aj Tryz.f46) (.a (.b (.a (.b (.b .o))))) ⟨upd (upd (upd g 0 (.d (.lst (a.map ac.enc)))) 1 (.d (.lst (b.map ac.enc)))) 5 (.d (.int .i64 i)), H, n⟩ (aq C Tryz.f46 [(.bool r)])
def qN (a : bn) (b : bn) (i : Int) (r : Bool) : Prop := ∀ b0 b1 g H n (hH : HP H n [.box b0 (bn.av a), .box b1 (bn.av b)]), PAt C (aj Tryz.f23) (.a (.b (.a (.b (.b .o))))) ⟨upd (upd (upd g 2 (.pt b0 0)) 3 (.pt b1 0)) 5 (.d (.int .i64 i)), H, n⟩ (aq C Tryz.f23 [(.bool r)])
def sr (a : aW) (b : aW) (i : Int) (r : Bool) : Prop := ∀ b0 b1 g H n (hH : HP H n [.box b0 (aW.av a), .box b1 (aW.av b)]), PAt C (aj Tryz.f7) (.a (.b (.a (.b (.b .o))))) ⟨upd (upd (upd g 2 (.pt b0 0)) 3 (.pt b1 0)) 5 (.d (.int .i64 i)), H, n⟩ (aq C Tryz.f7 [(.bool r)])
def qe (a : aI) (b : aI) (i : Int) (r : Bool) : Prop := ∀ b0 b1 g H n (hH : HP H n [.box b0 (aI.av a), .box b1 (aI.av b)]), PAt C (aj Tryz.f24) (.a (.b (.a (.b (.b (.b .o)))))) ⟨upd (upd (upd g 2 (.pt b0 0)) 3 (.pt b1 0)) 6 (.d (.int .i64 i)), H, n⟩ (aq C Tryz.f24 [(.bool r)])
def qf (a : aI) (b : aI) (i : Int) (r : Bool) : Prop := ∀ b0 b1 g H n (hH : HP H n [.box b0 (aI.av a), .box b1 (aI.av b)]), PAt C (aj Tryz.f24) (.a (.b (.a (.b (.b .o))))) ⟨upd (upd (upd g 2 (.pt b0 0)) 3 (.pt b1 0)) 5 (.d (.int .i64 i)), H, n⟩ (aq C Tryz.f24 [(.bool r)])
def qO (a : ah) (b : ah) (i : Int) (r : Bool) : Prop := ∀ b0 b1 g H n (hH : HP H n [.box b0 (ah.av a), .box b1 (ah.av b)]), PAt C (aj Tryz.f26) (.a (.b (.a (.b (.b .o))))) ⟨upd (upd (upd g 2 (.pt b0 0)) 3 (.pt b1 0)) 5 (.d (.int .i64 i)), H, n⟩ (aq C Tryz.f26 [(.bool r)])
def qP (a : ab) (b : ab) (i : Int) (r : Bool) : Prop := ∀ b0 b1 g H n (hH : HP H n [.box b0 (ab.av a), .box b1 (ab.av b)]), PAt C (aj Tryz.f8) (.a (.b (.a (.b (.b (.b (.b (.b .o)))))))) ⟨upd (upd (upd g 2 (.pt b0 0)) 3 (.pt b1 0)) 7 (.d (.int .i64 i)), H, n⟩ (aq C Tryz.f8 [(.bool r)])
def qQ (a : ab) (b : ab) (i : Int) (r : Bool) : Prop := ∀ b0 b1 g H n (hH : HP H n [.box b0 (ab.av a), .box b1 (ab.av b)]), PAt C (aj Tryz.f8) (.a (.b (.a (.b (.b (.b (.b .o))))))) ⟨upd (upd (upd g 2 (.pt b0 0)) 3 (.pt b1 0)) 6 (.d (.int .i64 i)), H, n⟩ (aq C Tryz.f8 [(.bool r)])
def qR (a : ab) (b : ab) (i : Int) (r : Bool) : Prop := ∀ b0 b1 g H n (hH : HP H n [.box b0 (ab.av a), .box b1 (ab.av b)]), PAt C (aj Tryz.f8) (.a (.b (.a (.b (.b (.b .o)))))) ⟨upd (upd (upd g 2 (.pt b0 0)) 3 (.pt b1 0)) 5 (.d (.int .i64 i)), H, n⟩ (aq C Tryz.f8 [(.bool r)])
theorem xc (nodes stmts tnexts stages groups pairs dets vars texts i r) (h : np nodes stmts tnexts stages groups pairs dets vars texts i = some r) (w1 w2 w3 w4 w5 w6 w7 w8 w9 be0 L g H n) (hH : HP H n (.box be0 [w1, w2, w3, .nil, w4, .nil, w5, w6, w7, w8, .nil, w9, .nil, .nil, .nil, .nil, .nil] :: bS w1 nodes :: bT w2 stmts :: bU w3 tnexts :: cz w4 stages :: bw w5 groups :: bz w6 pairs :: bF w7 dets :: bV w8 vars :: bL w9 texts :: L)) : PAt C (aj Tryz.f27) (.a (.b (.a (.b (.b (.b (.b (.b (.b .o))))))))) ⟨upd (upd g 0 (.pt be0 0)) 13 (.d (.int .i64 i)), H, n⟩ (cb C Tryz.f27 (fun rs H' n' => ∃ w'1 w'2 w'3 w'4 w'5 w'6 w'7 w'8 w'9 : AV, rs = [.d (.bool r.1)] ∧ HP H' n' (.box be0 [w'1, w'2, w'3, .nil, w'4, .nil, w'5, w'6, w'7, w'8, .nil, w'9, .nil, .nil, .nil, .nil, .nil] :: bS w'1 r.2.1 :: bT w'2 r.2.2.1 :: bU w'3 r.2.2.2.1 :: cz w'4 r.2.2.2.2.1 :: bw w'5 r.2.2.2.2.2.1 :: bz w'6 r.2.2.2.2.2.2.1 :: bF w'7 r.2.2.2.2.2.2.2.1 :: bV w'8 r.2.2.2.2.2.2.2.2.1 :: bL w'9 r.2.2.2.2.2.2.2.2.2 :: L))) := by
 refine Po rfl ?_
 refine Z ?_
 refine pf rfl Ls.1 rfl ?_
 refine Wc h rfl rfl ?_ ?_ <;> intro _ h
 refine Z ?_
 cases h
 refine Z ?_
 refine Pt rfl (Cr ?_)
 obtain rfl := si h
 exact prF (.inl rfl) (aS (.d (.bool true)) rfl (aJ)) ⟨w1, w2, w3, w4, w5, w6, w7, w8, w9, rfl, hH⟩
def qg (nodes : LL ae) (stmts : LL ac) (tnexts : LL aw) (stages : LL ah) (groups : LL ak) (pairs : LL ai) (dets : LL aE) (vars : LL aN) (texts : LL ByteArray) (i : Int) (r : Bool × R9) : Prop := ∀ w1 w2 w3 w4 w5 w6 w7 w8 w9 be0 L g H n (hH : HP H n (.box be0 [w1, w2, w3, .nil, w4, .nil, w5, w6, w7, w8, .nil, w9, .nil, .nil, .nil, .nil, .nil] :: bS w1 nodes :: bT w2 stmts :: bU w3 tnexts :: cz w4 stages :: bw w5 groups :: bz w6 pairs :: bF w7 dets :: bV w8 vars :: bL w9 texts :: L)), PAt C (aj Tryz.f27) (.a (.b (.a (.b (.b (.b (.b (.b .o)))))))) ⟨upd (upd g 0 (.pt be0 0)) 11 (.d (.int .i64 i)), H, n⟩ (cb C Tryz.f27 (fun rs H' n' => ∃ w'1 w'2 w'3 w'4 w'5 w'6 w'7 w'8 w'9 : AV, rs = [.d (.bool r.1)] ∧ HP H' n' (.box be0 [w'1, w'2, w'3, .nil, w'4, .nil, w'5, w'6, w'7, w'8, .nil, w'9, .nil, .nil, .nil, .nil, .nil] :: bS w'1 r.2.1 :: bT w'2 r.2.2.1 :: bU w'3 r.2.2.2.1 :: cz w'4 r.2.2.2.2.1 :: bw w'5 r.2.2.2.2.2.1 :: bz w'6 r.2.2.2.2.2.2.1 :: bF w'7 r.2.2.2.2.2.2.2.1 :: bV w'8 r.2.2.2.2.2.2.2.2.1 :: bL w'9 r.2.2.2.2.2.2.2.2.2 :: L)))
def qh (nodes : LL ae) (stmts : LL ac) (tnexts : LL aw) (stages : LL ah) (groups : LL ak) (pairs : LL ai) (dets : LL aE) (vars : LL aN) (texts : LL ByteArray) (i : Int) (r : Bool × R9) : Prop := ∀ w1 w2 w3 w4 w5 w6 w7 w8 w9 be0 L g H n (hH : HP H n (.box be0 [w1, w2, w3, .nil, w4, .nil, w5, w6, w7, w8, .nil, w9, .nil, .nil, .nil, .nil, .nil] :: bS w1 nodes :: bT w2 stmts :: bU w3 tnexts :: cz w4 stages :: bw w5 groups :: bz w6 pairs :: bF w7 dets :: bV w8 vars :: bL w9 texts :: L)), PAt C (aj Tryz.f27) (.a (.b (.a (.b (.b (.b .o)))))) ⟨upd (upd g 0 (.pt be0 0)) 7 (.d (.int .i64 i)), H, n⟩ (cb C Tryz.f27 (fun rs H' n' => ∃ w'1 w'2 w'3 w'4 w'5 w'6 w'7 w'8 w'9 : AV, rs = [.d (.bool r.1)] ∧ HP H' n' (.box be0 [w'1, w'2, w'3, .nil, w'4, .nil, w'5, w'6, w'7, w'8, .nil, w'9, .nil, .nil, .nil, .nil, .nil] :: bS w'1 r.2.1 :: bT w'2 r.2.2.1 :: bU w'3 r.2.2.2.1 :: cz w'4 r.2.2.2.2.1 :: bw w'5 r.2.2.2.2.2.1 :: bz w'6 r.2.2.2.2.2.2.1 :: bF w'7 r.2.2.2.2.2.2.2.1 :: bV w'8 r.2.2.2.2.2.2.2.2.1 :: bL w'9 r.2.2.2.2.2.2.2.2.2 :: L)))
def qi (nodes : LL ae) (stmts : LL ac) (tnexts : LL aw) (stages : LL ah) (groups : LL ak) (pairs : LL ai) (dets : LL aE) (vars : LL aN) (texts : LL ByteArray) (i : Int) (r : Bool × R9) : Prop := ∀ w1 w2 w3 w4 w5 w6 w7 w8 w9 be0 L g H n (hH : HP H n (.box be0 [w1, w2, w3, .nil, w4, .nil, w5, w6, w7, w8, .nil, w9, .nil, .nil, .nil, .nil, .nil] :: bS w1 nodes :: bT w2 stmts :: bU w3 tnexts :: cz w4 stages :: bw w5 groups :: bz w6 pairs :: bF w7 dets :: bV w8 vars :: bL w9 texts :: L)), PAt C (aj Tryz.f27) (.a (.b (.a (.b (.b .o))))) ⟨upd (upd g 0 (.pt be0 0)) 5 (.d (.int .i64 i)), H, n⟩ (cb C Tryz.f27 (fun rs H' n' => ∃ w'1 w'2 w'3 w'4 w'5 w'6 w'7 w'8 w'9 : AV, rs = [.d (.bool r.1)] ∧ HP H' n' (.box be0 [w'1, w'2, w'3, .nil, w'4, .nil, w'5, w'6, w'7, w'8, .nil, w'9, .nil, .nil, .nil, .nil, .nil] :: bS w'1 r.2.1 :: bT w'2 r.2.2.1 :: bU w'3 r.2.2.2.1 :: cz w'4 r.2.2.2.2.1 :: bw w'5 r.2.2.2.2.2.1 :: bz w'6 r.2.2.2.2.2.2.1 :: bF w'7 r.2.2.2.2.2.2.2.1 :: bV w'8 r.2.2.2.2.2.2.2.2.1 :: bL w'9 r.2.2.2.2.2.2.2.2.2 :: L)))
def qj (nodes : LL ae) (stmts : LL ac) (tnexts : LL aw) (stages : LL ah) (groups : LL ak) (pairs : LL ai) (dets : LL aE) (vars : LL aN) (texts : LL ByteArray) (i : Int) (r : Bool × R9) : Prop := ∀ w1 w2 w3 w4 w5 w6 w7 w8 w9 be0 L g H n (hH : HP H n (.box be0 [w1, w2, w3, .nil, w4, .nil, w5, w6, w7, w8, .nil, w9, .nil, .nil, .nil, .nil, .nil] :: bS w1 nodes :: bT w2 stmts :: bU w3 tnexts :: cz w4 stages :: bw w5 groups :: bz w6 pairs :: bF w7 dets :: bV w8 vars :: bL w9 texts :: L)), PAt C (aj Tryz.f27) (.a (.b (.a (.b .o)))) ⟨upd (upd g 0 (.pt be0 0)) 3 (.d (.int .i64 i)), H, n⟩ (cb C Tryz.f27 (fun rs H' n' => ∃ w'1 w'2 w'3 w'4 w'5 w'6 w'7 w'8 w'9 : AV, rs = [.d (.bool r.1)] ∧ HP H' n' (.box be0 [w'1, w'2, w'3, .nil, w'4, .nil, w'5, w'6, w'7, w'8, .nil, w'9, .nil, .nil, .nil, .nil, .nil] :: bS w'1 r.2.1 :: bT w'2 r.2.2.1 :: bU w'3 r.2.2.2.1 :: cz w'4 r.2.2.2.2.1 :: bw w'5 r.2.2.2.2.2.1 :: bz w'6 r.2.2.2.2.2.2.1 :: bF w'7 r.2.2.2.2.2.2.2.1 :: bV w'8 r.2.2.2.2.2.2.2.2.1 :: bL w'9 r.2.2.2.2.2.2.2.2.2 :: L)))
theorem vV (nodes stmts tnexts stages groups pairs dets vars texts i r) (h : lX nodes stmts tnexts stages groups pairs dets vars texts i = some r) (w1 w2 w3 w4 w5 w6 w7 w8 w9 be0 L g H n) (hH : HP H n (.box be0 [w1, w2, w3, .nil, w4, .nil, w5, w6, w7, w8, .nil, w9, .nil, .nil, .nil, .nil, .nil] :: bS w1 nodes :: bT w2 stmts :: bU w3 tnexts :: cz w4 stages :: bw w5 groups :: bz w6 pairs :: bF w7 dets :: bV w8 vars :: bL w9 texts :: L)) : PAt C (aj Tryz.f28) (.a (.b (.a (.b (.b (.b (.b (.b .o)))))))) ⟨upd (upd g 0 (.pt be0 0)) 12 (.d (.int .i64 i)), H, n⟩ (cb C Tryz.f28 (fun rs H' n' => ∃ w'1 w'2 w'3 w'4 w'5 w'6 w'7 w'8 w'9 : AV, rs = [.d (.bool r.1)] ∧ HP H' n' (.box be0 [w'1, w'2, w'3, .nil, w'4, .nil, w'5, w'6, w'7, w'8, .nil, w'9, .nil, .nil, .nil, .nil, .nil] :: bS w'1 r.2.1 :: bT w'2 r.2.2.1 :: bU w'3 r.2.2.2.1 :: cz w'4 r.2.2.2.2.1 :: bw w'5 r.2.2.2.2.2.1 :: bz w'6 r.2.2.2.2.2.2.1 :: bF w'7 r.2.2.2.2.2.2.2.1 :: bV w'8 r.2.2.2.2.2.2.2.2.1 :: bL w'9 r.2.2.2.2.2.2.2.2.2 :: L))) := by
 refine Po rfl ?_
 refine Z ?_
 refine pf rfl Lu.1 rfl ?_
 refine Wc h rfl rfl ?_ ?_ <;> intro _ h
 refine Z ?_
 cases h
 refine Z ?_
 refine Pt rfl (Cr ?_)
 obtain rfl := si h
 exact prF (.inl rfl) (aS (.d (.bool true)) rfl (aJ)) ⟨w1, w2, w3, w4, w5, w6, w7, w8, w9, rfl, hH⟩
def oN (nodes : LL ae) (stmts : LL ac) (tnexts : LL aw) (stages : LL ah) (groups : LL ak) (pairs : LL ai) (dets : LL aE) (vars : LL aN) (texts : LL ByteArray) (i : Int) (r : Bool × R9) : Prop := ∀ w1 w2 w3 w4 w5 w6 w7 w8 w9 be0 L g H n (hH : HP H n (.box be0 [w1, w2, w3, .nil, w4, .nil, w5, w6, w7, w8, .nil, w9, .nil, .nil, .nil, .nil, .nil] :: bS w1 nodes :: bT w2 stmts :: bU w3 tnexts :: cz w4 stages :: bw w5 groups :: bz w6 pairs :: bF w7 dets :: bV w8 vars :: bL w9 texts :: L)), PAt C (aj Tryz.f28) (.a (.b (.a (.b (.b (.b .o)))))) ⟨upd (upd g 0 (.pt be0 0)) 8 (.d (.int .i64 i)), H, n⟩ (cb C Tryz.f28 (fun rs H' n' => ∃ w'1 w'2 w'3 w'4 w'5 w'6 w'7 w'8 w'9 : AV, rs = [.d (.bool r.1)] ∧ HP H' n' (.box be0 [w'1, w'2, w'3, .nil, w'4, .nil, w'5, w'6, w'7, w'8, .nil, w'9, .nil, .nil, .nil, .nil, .nil] :: bS w'1 r.2.1 :: bT w'2 r.2.2.1 :: bU w'3 r.2.2.2.1 :: cz w'4 r.2.2.2.2.1 :: bw w'5 r.2.2.2.2.2.1 :: bz w'6 r.2.2.2.2.2.2.1 :: bF w'7 r.2.2.2.2.2.2.2.1 :: bV w'8 r.2.2.2.2.2.2.2.2.1 :: bL w'9 r.2.2.2.2.2.2.2.2.2 :: L)))
end Go.Proofs.YtkmbagocakiefaaGreatDoor.Wb
namespace Go.Proofs.YtkmbagocakiefaaGreatDoor.Wb
open Go Go.Jv
set_option maxHeartbeats 4000000
open Go.Proofs
set_option maxHeartbeats 4000000
attribute [local irreducible] EW EX PAt con
def oK (nodes : LL ae) (stmts : LL ac) (tnexts : LL aw) (stages : LL ah) (groups : LL ak) (pairs : LL ai) (dets : LL aE) (vars : LL aN) (texts : LL ByteArray) (i : Int) (r : Bool × R9) : Prop := ∀ w1 w2 w3 w4 w5 w6 w7 w8 w9 be0 L g H n (hH : HP H n (.box be0 [w1, w2, w3, .nil, w4, .nil, w5, w6, w7, w8, .nil, w9, .nil, .nil, .nil, .nil, .nil] :: bS w1 nodes :: bT w2 stmts :: bU w3 tnexts :: cz w4 stages :: bw w5 groups :: bz w6 pairs :: bF w7 dets :: bV w8 vars :: bL w9 texts :: L)), PAt C (aj Tryz.f28) (.a (.b (.a (.b (.b .o))))) ⟨upd (upd g 0 (.pt be0 0)) 6 (.d (.int .i64 i)), H, n⟩ (cb C Tryz.f28 (fun rs H' n' => ∃ w'1 w'2 w'3 w'4 w'5 w'6 w'7 w'8 w'9 : AV, rs = [.d (.bool r.1)] ∧ HP H' n' (.box be0 [w'1, w'2, w'3, .nil, w'4, .nil, w'5, w'6, w'7, w'8, .nil, w'9, .nil, .nil, .nil, .nil, .nil] :: bS w'1 r.2.1 :: bT w'2 r.2.2.1 :: bU w'3 r.2.2.2.1 :: cz w'4 r.2.2.2.2.1 :: bw w'5 r.2.2.2.2.2.1 :: bz w'6 r.2.2.2.2.2.2.1 :: bF w'7 r.2.2.2.2.2.2.2.1 :: bV w'8 r.2.2.2.2.2.2.2.2.1 :: bL w'9 r.2.2.2.2.2.2.2.2.2 :: L)))
def oL (nodes : LL ae) (stmts : LL ac) (tnexts : LL aw) (stages : LL ah) (groups : LL ak) (pairs : LL ai) (dets : LL aE) (vars : LL aN) (texts : LL ByteArray) (i : Int) (r : Bool × R9) : Prop := ∀ w1 w2 w3 w4 w5 w6 w7 w8 w9 be0 L g H n (hH : HP H n (.box be0 [w1, w2, w3, .nil, w4, .nil, w5, w6, w7, w8, .nil, w9, .nil, .nil, .nil, .nil, .nil] :: bS w1 nodes :: bT w2 stmts :: bU w3 tnexts :: cz w4 stages :: bw w5 groups :: bz w6 pairs :: bF w7 dets :: bV w8 vars :: bL w9 texts :: L)), PAt C (aj Tryz.f28) (.a (.b (.a (.b .o)))) ⟨upd (upd g 0 (.pt be0 0)) 3 (.d (.int .i64 i)), H, n⟩ (cb C Tryz.f28 (fun rs H' n' => ∃ w'1 w'2 w'3 w'4 w'5 w'6 w'7 w'8 w'9 : AV, rs = [.d (.bool r.1)] ∧ HP H' n' (.box be0 [w'1, w'2, w'3, .nil, w'4, .nil, w'5, w'6, w'7, w'8, .nil, w'9, .nil, .nil, .nil, .nil, .nil] :: bS w'1 r.2.1 :: bT w'2 r.2.2.1 :: bU w'3 r.2.2.2.1 :: cz w'4 r.2.2.2.2.1 :: bw w'5 r.2.2.2.2.2.1 :: bz w'6 r.2.2.2.2.2.2.1 :: bF w'7 r.2.2.2.2.2.2.2.1 :: bV w'8 r.2.2.2.2.2.2.2.2.1 :: bL w'9 r.2.2.2.2.2.2.2.2.2 :: L)))
def qb (nodes : LL ae) (stmts : LL ac) (tnexts : LL aw) (stages : LL ah) (groups : LL ak) (pairs : LL ai) (dets : LL aE) (vars : LL aN) (texts : LL ByteArray) (i : Int) (r : Bool × R9) : Prop := ∀ w1 w2 w3 w4 w5 w6 w7 w8 w9 be0 L g H n (hH : HP H n (.box be0 [w1, w2, w3, .nil, w4, .nil, w5, w6, w7, w8, .nil, w9, .nil, .nil, .nil, .nil, .nil] :: bS w1 nodes :: bT w2 stmts :: bU w3 tnexts :: cz w4 stages :: bw w5 groups :: bz w6 pairs :: bF w7 dets :: bV w8 vars :: bL w9 texts :: L)), PAt C (aj Tryz.f9) (.a (.b (.a (.b .o)))) ⟨upd (upd g 0 (.pt be0 0)) 3 (.d (.int .i64 i)), H, n⟩ (cb C Tryz.f9 (fun rs H' n' => ∃ w'1 w'2 w'3 w'4 w'5 w'6 w'7 w'8 w'9 : AV, rs = [.d (.bool r.1)] ∧ HP H' n' (.box be0 [w'1, w'2, w'3, .nil, w'4, .nil, w'5, w'6, w'7, w'8, .nil, w'9, .nil, .nil, .nil, .nil, .nil] :: bS w'1 r.2.1 :: bT w'2 r.2.2.1 :: bU w'3 r.2.2.2.1 :: cz w'4 r.2.2.2.2.1 :: bw w'5 r.2.2.2.2.2.1 :: bz w'6 r.2.2.2.2.2.2.1 :: bF w'7 r.2.2.2.2.2.2.2.1 :: bV w'8 r.2.2.2.2.2.2.2.2.1 :: bL w'9 r.2.2.2.2.2.2.2.2.2 :: L)))
theorem sT (l : List ac) (Kind : Int) (Name : ByteArray) (Ix : Int) (At_Line : Int) (At_Col : Int) (st : kY) (r : (List ac) × (LL ae) × (LL ac) × (LL aw) × (LL ak) × (LL ai) × (LL aE) × (LL aN) × (LL ByteArray)) (h : fy l Kind Name Ix At_Line At_Col st = some r) : kS l Kind Name Ix At_Line At_Col st r := by
 refine fy.partial_correctness l Kind Name Ix At_Line At_Col (kS l Kind Name Ix At_Line At_Col) (fun r5_Room_Stmts_L1_run' ih_ st r h => ?_) st r h
 cases st with
 | c0 nodes stmts tnexts groups pairs dets vars texts full i =>
  intro w1 w2 w3 w4 w5 w6 w7 w8 b9 w10 be0 L g H n hH
  refine Po rfl ?_
  refine Z ?_
  refine Wc h rfl rfl ?_ ?_ <;> intro _ h
  refine Z ?_
  refine aA h rfl cf.1 bj.1 (fun _ => rfl) rfl rfl (fun t18 h => ?_)
  refine aR (d := (ac.enc t18)) rfl bj.1 rfl rfl ?_
  refine aQ rfl fM hH (fun b13470 H' n' hH => ?_)
  refine ax (new := (ac.av t18)) rfl bj.1 hH (i := 0) rfl rfl rfl rfl rfl (Nat.le_of_ble_eq_true rfl) (fun H' hH => ?_)
  refine Z ?_
  refine fw [.pt be0 0, .d (.lst (t18.Expr.map ae.enc))] h rfl rfl Ki rfl (fun y hy => rU _ _ _ _ _ _ _ _ _ y hy be0 w1 w2 w3 w4 w5 w6 w7 w8 _ _ (.box b13470 (ac.av t18) :: .box b9 [.d (.int .i64 Kind), .d (.str Name), .d (.int .i64 Ix), .nil, .d (.int .i64 At_Line), .d (.int .i64 At_Col)] :: br w10 full :: L) (hH.sl 12 [1, 2, 3, 4, 5, 6, 7, 8, 9, 0, 10, 11])) (fun t23 rs H' n' h hP => ?_)
  obtain ⟨w12471_0, w12471_2, w12471_3, w12471_4, w12471_5, w12471_6, w12471_7, w12471_8, w12471_9, rfl, hH⟩ := hP
  refine Z ?_
  refine cx w12471_0 rfl BZ.1 hH (i := 10) rfl rfl rfl (hH.okImm (j := 0) rfl).2 (hH.okImm (j := 0) rfl).1 (Nat.le_of_ble_eq_true rfl) (fun H' hH => ?_)
  refine Z ?_
  refine aF (v := .agg [.d (.int .i64 t18.Kind), .d (.str t18.Name), .d (.int .i64 t18.Ix), w12471_0, .d (.int .i64 t18.At.Line), .d (.int .i64 t18.At.Col)]) rfl bj.1 hH (i := 10) rfl rfl rfl ?_
  refine de (enc := ac.enc) (e := (⟨t18.Kind, t18.Name, t18.Ix, t23.1, t18.At⟩ : ac)) (.agg [.d (.int .i64 t18.Kind), .d (.str t18.Name), .d (.int .i64 t18.Ix), w12471_0, .d (.int .i64 t18.At.Line), .d (.int .i64 t18.At.Col)]) rfl cf.1 bj.1 fM (by decide) Er (fun _ => rfl) (fun _ => rfl) rfl (FS.agg (FS.d (FS.d (FS.d (FS.imm hH (j := 0) rfl (FS.d (FS.d (FS.nil hH))))))) (fun _ hH => FS.nil hH)) (fun w13472 H' n' hH => ?_)
  refine bl (enc := ac.enc) h rfl cf.1 bj.1 vL (by decide) (fun _ => rfl) hH (j := 13) rfl rfl (aM hH (j := 0) rfl) (fun t28 w13473 H' n' h hH => ?_)
  refine Z ?_
  exact J fun g => ih_ (.c0 _ _ _ _ _ _ _ _ _ _) _ h w12471_2 w12471_3 w12471_4 w12471_5 w12471_6 w12471_7 w12471_8 w12471_9 b9 w13473 _ _ g _ _ (hH.sl 14 [3, 4, 5, 6, 7, 8, 9, 10, 11, 13, 0])
  refine Z ?_
  refine aF (v := .agg [.d (.int .i64 Kind), .d (.str Name), .d (.int .i64 Ix), .nil, .d (.int .i64 At_Line), .d (.int .i64 At_Col)]) rfl bj.1 hH (i := 9) rfl rfl rfl (aF (v := .agg [.d (.int .i64 Kind), .d (.str Name), .d (.int .i64 Ix), .nil, .d (.int .i64 At_Line), .d (.int .i64 At_Col)]) rfl bj.1 hH (i := 9) rfl rfl rfl ?_)
  refine cN (enc := ac.enc) (xs := [(⟨Kind, Name, Ix, [], (⟨At_Line, At_Col⟩ : bd)⟩ : ac), (⟨Kind, Name, Ix, [], (⟨At_Line, At_Col⟩ : bd)⟩ : ac)]) [.agg [.d (.int .i64 Kind), .d (.str Name), .d (.int .i64 Ix), .nil, .d (.int .i64 At_Line), .d (.int .i64 At_Col)], .agg [.d (.int .i64 Kind), .d (.str Name), .d (.int .i64 Ix), .nil, .d (.int .i64 At_Line), .d (.int .i64 At_Col)]] rfl cf.1 bj.1 fM ⟨by decide, Nat.le_of_ble_eq_true rfl⟩ Er (fun _ => rfl) (fun _ => rfl) rfl rfl hH (fun w13474 H' n' hH => ?_)
  refine bl (enc := ac.enc) h rfl cf.1 bj.1 vL (by decide) (fun _ => rfl) hH (j := 11) rfl rfl (aM hH (j := 0) rfl) (fun t33 w13475 H' n' h hH => ?_)
  refine Z ?_
  refine de (enc := (eL ac.enc)) (e := t33) (w13475) rfl Fk.1 kK.1 LZ (by decide) QR (fun _ => rfl) (fun _ => rfl) rfl (FS.own hH (j := 0) rfl (fun _ hH => FS.nil hH)) (fun w13476 H' n' hH => ?_)
  refine bl (enc := (eL ac.enc)) h rfl Fk.1 kK.1 KU (by decide) (fun _ => rfl) hH (j := 5) rfl rfl (aM hH (j := 0) rfl) (fun t41 w13477 H' n' h hH => ?_)
  refine Z ?_
  refine cx w13477 rfl Og.1 hH (i := 4) rfl rfl rfl (hH.okOwn (j := 0) rfl).2 (hH.okOwn (j := 0) rfl).1 (Nat.le_of_ble_eq_true rfl) (fun H' hH => ?_)
  refine Z ?_
  refine kX h rfl cf.1 bj.1 hH (j := 2) rfl rfl (iD) (fun t47 w13478 h hH => ?_)
  refine Z ?_
  refine Pt rfl (Cr ?_)
  obtain rfl := si h
  exact prF (.inl rfl) (aS (w13478) rfl (aJ)) ⟨w13478, w1, w13477, w3, w4, w5, w6, w7, w8, rfl, (hH.sl 14 [0, 5, 6, 1, 7, 8, 9, 10, 11, 12])⟩
theorem AP (tF : aI) (t44F : List ai) (t45F : Int) (st : um) (r : Bool) (h : eQ tF t44F t45F st = some r) : ug tF t44F t45F st r := by
 refine eQ.partial_correctness tF t44F t45F (ug tF t44F t45F) (fun c_Grid_L2_run' ih_ st r h => ?_) st r h
 cases st with
 | c0 a b t46 =>
  intro b0 g H n hH
  refine Po rfl ?_
  refine Z ?_
  refine Wc h rfl rfl ?_ ?_ <;> intro _ h
  refine Z ?_
  refine aA h rfl iS.1 dO.1 (fun _ => rfl) rfl rfl (fun t48 h => ?_)
  refine aR (d := (ai.enc t48)) rfl dO.1 rfl rfl ?_
  refine aQ rfl qa hH (fun b13626 H' n' hH => ?_)
  refine ax (new := (ai.av t48)) rfl dO.1 hH (i := 0) rfl rfl rfl rfl rfl (Nat.le_of_ble_eq_true rfl) (fun H' hH => ?_)
  refine Z ?_
  refine Wc h rfl rfl ?_ ?_ <;> intro _ h
  refine Z ?_
  cases h; exact Pq rfl rfl
  refine Z ?_
  refine Wc h rfl rfl ?_ ?_ <;> intro _ h
  refine Z ?_
  cases h; exact Pq rfl rfl
  refine Z ?_
  refine Wc h rfl rfl ?_ ?_ <;> intro _ h
  refine Z ?_
  cases h; exact Pq rfl rfl
  refine Z ?_
  refine al h rfl kJ (sc rfl (sc rfl (sc rfl (sn)))) (fun y hy => gK _ _ _ y hy) (fun _ => rfl) (fun t71 h => ?_)
  revert h; cases t71 <;> intro h
  replace h := if0 h
  refine ba rfl rfl rfl ?_
  refine Z ?_
  cases h; exact Pq rfl rfl
  replace h := if1 h
  refine ba rfl rfl rfl ?_
  refine Z ?_
  refine al h rfl kJ (sc rfl (sc rfl (sc rfl (sn)))) (fun y hy => gK _ _ _ y hy) (fun _ => rfl) (fun t77 h => ?_)
  revert h; cases t77 <;> intro h
  replace h := if0 h
  refine ba rfl rfl rfl ?_
  refine Z ?_
  cases h; exact Pq rfl rfl
  replace h := if1 h
  refine ba rfl rfl rfl ?_
  refine Z ?_
  refine Wc h rfl rfl ?_ ?_ <;> intro _ h
  refine Z ?_
  cases h; exact Pq rfl rfl
  refine Z ?_
  refine Wc h rfl rfl ?_ ?_ <;> intro _ h
  refine Z ?_
  refine Wc h rfl rfl ?_ ?_ <;> intro _ h
  refine Z ?_
  cases h; exact Pq rfl rfl
  iterate 3 refine Zs ?_
  exact J fun g => ih_ (.c1 _ _) _ h b0 b13626 g _ _ (hH.sl 2 [1, 0])
  iterate 3 refine Zs ?_
  exact J fun g => ih_ (.c1 _ _) _ h b0 b13626 g _ _ (hH.sl 2 [1, 0])
  refine Z ?_
  cases h; exact Pq rfl rfl
 | c1 c t46 =>
  intro b0 b1 g H n hH
  refine cB rfl (by kernel_rfl) ?_
  refine Z ?_
  exact J fun g => ih_ (.c0 _ _ _) _ h b0 g _ _ (hH.sl 2 [0])
theorem D7 (l t71 t72 t73 t r) (h : gb l t71 t72 t73 t = some r) : wm l t71 t72 t73 t r := by
 refine gb.partial_correctness t71 t72 t (fun l t73 r => wm l t71 t72 t73 t r) (fun gb ih_gb l t73 r h w0 be0 L g H n hH => ?_) l t73 r h
 refine Po rfl ?_
 refine Z ?_
 refine Wc h rfl rfl ?_ ?_ <;> intro _ h
 refine Z ?_
 refine aA h rfl dr.1 bK.1 (fun _ => rfl) rfl rfl (fun t75 h => ?_)
 refine aR (d := (ah.enc t75)) rfl bK.1 rfl rfl ?_
 refine aQ rfl kf hH (fun b13664 H' n' hH => ?_)
 refine ax (new := (ah.av t75)) rfl bK.1 hH (i := 0) rfl rfl rfl rfl rfl (Nat.le_of_ble_eq_true rfl) (fun H' hH => ?_)
 refine Z ?_
 refine cN (enc := Dat.str) (xs := [t75.Name]) [.d (.str t75.Name)] rfl bv.1 bM.1 mz ⟨by decide, Nat.le_of_ble_eq_true rfl⟩ zd9 (fun _ => rfl) (fun _ => rfl) rfl rfl hH (fun w13665 H' n' hH => ?_)
 refine bl (enc := Dat.str) h rfl bv.1 bM.1 gV (by decide) (fun _ => rfl) hH (j := 2) rfl rfl (aM hH (j := 0) rfl) (fun t81 w13666 H' n' h hH => ?_)
 refine Z ?_
 exact J fun g => ih_gb _ _ _ h w13666 _ _ g _ _ (hH.sl 4 [0, 3])
 refine Z ?_
 refine Pt rfl (Cr ?_)
 obtain rfl := si h
 exact prF (.inl rfl) (aS (w0) rfl (aJ)) ⟨w0, rfl, hH⟩
theorem D8 (text t19 r) (h : gh text t19 = some r) : wr text t19 r := by
 refine gh.partial_correctness text (fun t19 r => wr text t19 r) (fun gh ih_gh t19 r h g H n => ?_) t19 r h
 refine Po rfl ?_
 refine Z ?_
 refine Wc h rfl rfl ?_ ?_ <;> intro _ h
 refine Z ?_
 refine DJ (enc := Dat.str) h rfl IJ bM.1 rfl rfl rfl (fun t22 h => ?_)
 refine Z ?_
 refine Wc h rfl rfl ?_ ?_ <;> intro _ h
 refine Z ?_
 cases h; exact Pq rfl rfl
 refine Z ?_
 exact J fun g => ih_gh _ _ h g _ _
 refine Z ?_
 cases h; exact Pq rfl rfl
theorem FA (c r) (h : ql c = some r) : aL C 70 [(.int .u8 c)] = some [(.bool r)] := by
 refine aB (bu _ _ rfl) Qb rfl (jmp 0 (.d (.int .u8 c)) rfl ?_)
 refine Z ?_
 refine al h rfl Kp (sc rfl (sn)) (fun y hy => wt _ y hy) (fun _ => rfl) (fun t4 h => ?_)
 revert h; cases t4 <;> intro h
 replace h := if0 h
 refine Z ?_
 refine al h rfl Kx (sc rfl (sn)) (fun y hy => yg _ y hy) (fun _ => rfl) (fun t7 h => ?_)
 revert h; cases t7 <;> intro h
 replace h := if0 h
 refine Z ?_
 refine Wb rfl rfl ?_
 refine Z ?_
 cases h; exact Pq rfl rfl
 replace h := if1 h
 refine Z ?_
 cases h; exact Pq rfl rfl
 replace h := if1 h
 refine Z ?_
 cases h; exact Pq rfl rfl
theorem vT (s_F : ByteArray) (baseF : Int) (st : oe) (r : Int × Bool) (h : aT s_F baseF st = some r) : nX s_F baseF st r := by
 refine aT.partial_correctness s_F baseF (nX s_F baseF) (fun lex_digits_L1_run' ih_ st r h => ?_) st r h
 cases st with
 | c0 under v i =>
  intro g H n
  refine Po rfl ?_
  refine Z ?_
  refine du rfl (dsc ty9) rfl ?_
  refine Wc h rfl rfl ?_ ?_ <;> intro _ h
  refine Z ?_
  refine ir h rfl ty9 rfl rfl (fun t20 h => ?_)
  refine Z ?_
  refine al h rfl Kx (sc rfl (sn)) (fun y hy => yg _ y hy) (fun _ => rfl) (fun t23 h => ?_)
  revert h; cases t23 <;> intro h
  replace h := if0 h
  refine Z ?_
  refine Wc h rfl rfl ?_ ?_ <;> intro _ h
  refine Z ?_
  refine Wc h rfl rfl ?_ ?_ <;> intro _ h
  iterate 3 refine Zs ?_
  exact J fun g => ih_ (.c3 _ _ _ _) _ h g _ _
  iterate 2 refine Zs ?_
  exact J fun g => ih_ (.c1 _ _ _ _ _) _ h g _ _
  iterate 2 refine Zs ?_
  exact J fun g => ih_ (.c1 _ _ _ _ _) _ h g _ _
  replace h := if1 h
  iterate 3 refine Zs ?_
  exact J fun g => ih_ (.c3 _ _ _ _) _ h g _ _
  refine Z ?_
  refine Wb rfl rfl ?_
  refine Z ?_
  cases h; exact Pq rfl rfl
 | c1 under v i d c =>
  intro g H n
  refine Z ?_
  refine Wc h rfl rfl ?_ ?_ <;> intro _ h
  refine Z ?_
  refine Wc h rfl rfl ?_ ?_ <;> intro _ h
  iterate 3 refine Zs ?_
  exact J fun g => ih_ (.c3 _ _ _ _) _ h g _ _
  iterate 2 refine Zs ?_
  exact J fun g => ih_ (.c2 _ _ _ _ _) _ h g _ _
  iterate 2 refine Zs ?_
  exact J fun g => ih_ (.c2 _ _ _ _ _) _ h g _ _
 | c2 under v i d c =>
  intro g H n
  refine Z ?_
  refine Wc h rfl rfl ?_ ?_ <;> intro _ h
  refine Z ?_
  revert h; cases under <;> intro h
  replace h := if0 h
  iterate 3 refine Zs ?_
  exact J fun g => ih_ (.c3 _ _ _ _) _ h g _ _
  replace h := if1 h
  refine Z ?_
  refine Wc h rfl rfl ?_ ?_ <;> intro _ h
  refine Z ?_
  refine du rfl (dsc ty9) rfl ?_
  refine Wc h rfl rfl ?_ ?_ <;> intro _ h
  refine Z ?_
  refine ir h rfl ty9 rfl rfl (fun t70 h => ?_)
  refine Wd h rfl rfl ?_ ?_ <;> intro _ h
  iterate 3 refine Zs ?_
  exact J fun g => ih_ (.c3 _ _ _ _) _ h g _ _
  iterate 3 refine Zs ?_
  exact J fun g => ih_ (.c4 _ _ _) _ h g _ _
  iterate 3 refine Zs ?_
  exact J fun g => ih_ (.c3 _ _ _ _) _ h g _ _
  iterate 3 refine Zs ?_
  exact J fun g => ih_ (.c3 _ _ _ _) _ h g _ _
  iterate 3 refine Zs ?_
  exact J fun g => ih_ (.c3 _ _ _ _) _ h g _ _
 | c3 under v i d =>
  intro g H n
  refine Z ?_
  refine Wc h rfl rfl ?_ ?_ <;> intro _ h
  refine Z ?_
  cases h; exact Pq rfl rfl
  refine Z ?_
  refine Ou rfl rfl rfl ?_
  refine Zs ?_
  exact J fun g => ih_ (.c4 _ _ _) _ h g _ _
 | c4 under v i =>
  intro g H n
  refine Z ?_
  exact J fun g => ih_ (.c0 _ _ _) _ h g _ _
theorem Ch (s_ prefix_ r) (h : sA s_ prefix_ = some r) : aL C 90 [(.str s_), (.str prefix_)] = some [(.str r.1), (.bool r.2)] := by
 refine aB (bu _ _ rfl) Qv rfl (jmp 0 (.d (.str s_)) rfl (jmp 1 (.d (.str prefix_)) rfl ?_))
 refine Z ?_
 refine al h rfl Ob (sc rfl (sc rfl (sn))) (fun y hy => C3 _ _ y hy) (fun _ => rfl) (fun t8 h => ?_)
 revert h; cases t8 <;> intro h
 replace h := if0 h
 refine ba rfl rfl rfl ?_
 refine Z ?_
 cases h; exact Pq rfl rfl
 replace h := if1 h
 refine ba rfl rfl rfl ?_
 refine Z ?_
 refine du rfl (dsc ty9) rfl ?_
 refine uR h rfl ty9 rfl (Eu) (fun t14 h => ?_)
 refine Z ?_
 cases h; exact Pq rfl rfl
theorem Ci (s_ c r) (h : sB s_ c = some r) : aL C 98 [(.str s_), (.int .u8 c)] = some [(.int .i64 r)] := by
 refine aB (bu _ _ rfl) QD rfl (jmp 0 (.d (.str s_)) rfl (jmp 1 (.d (.int .u8 c)) rfl ?_))
 refine Z ?_
 refine yV h rfl LM rfl rfl (fun y hy => uS _ _ y hy) (fun t7 h => ?_)
 refine Z ?_
 cases h; exact Pq rfl rfl
theorem E7 (n_ t34 t35 t36 r) (h : gZ n_ t34 t35 t36 = some r) : yi n_ t34 t35 t36 r := by
 refine gZ.partial_correctness t34 t35 (fun n_ t36 r => yi n_ t34 t35 t36 r) (fun gZ ih_gZ n_ t36 r h g H n => ?_) n_ t36 r h
 refine Po rfl ?_
 refine Z ?_
 refine Wc h rfl rfl ?_ ?_ <;> intro _ h
 refine Z ?_
 refine aA h rfl ek.1 cZ.1 (fun _ => rfl) rfl rfl (fun t38 h => ?_)
 refine aR (d := (aw.enc t38)) rfl cZ.1 rfl rfl ?_
 refine aQ rfl mi (HP.nil _ _) (fun b13683 H' n' hH => ?_)
 refine ax (new := (aw.av t38)) rfl cZ.1 hH (i := 0) rfl rfl rfl rfl rfl (Nat.le_of_ble_eq_true rfl) (fun H' hH => ?_)
 refine Z ?_
 exact J fun g => ih_gZ _ _ _ h g _ _
 refine Z ?_
 cases h; exact Pq rfl rfl
theorem uX (op r) (h : jm op = some r) : aL C 74 [(.int .i64 op)] = some [(.int .i64 r)] := by
 refine aB (bu _ _ rfl) Qf rfl (jmp 0 (.d (.int .i64 op)) rfl ?_)
 refine Z ?_
 refine Wc h rfl rfl ?_ ?_ <;> intro _ h
 refine Z ?_
 refine Wc h rfl rfl ?_ ?_ <;> intro _ h
 refine Z ?_
 cases h; exact Pq rfl rfl
 iterate 2 refine Zs ?_
 exact J fun g => qI _ _ h g _ _
 iterate 2 refine Zs ?_
 exact J fun g => qI _ _ h g _ _
theorem mB (op r) (h : jd op = some r) : aL C 76 [(.int .i64 op)] = some [(.int .i64 r)] := by
 refine aB (bu _ _ rfl) Qh rfl (jmp 0 (.d (.int .i64 op)) rfl ?_)
 refine Z ?_
 refine Wc h rfl rfl ?_ ?_ <;> intro _ h
 refine Z ?_
 cases h; exact Pq rfl rfl
 refine Z ?_
 refine Wc h rfl rfl ?_ ?_ <;> intro _ h
 refine Z ?_
 cases h; exact Pq rfl rfl
 refine Z ?_
 refine Wc h rfl rfl ?_ ?_ <;> intro _ h
 refine Z ?_
 cases h; exact Pq rfl rfl
 refine Z ?_
 refine Wc h rfl rfl ?_ ?_ <;> intro _ h
 refine Z ?_
 refine Wc h rfl rfl ?_ ?_ <;> intro _ h
 refine Z ?_
 cases h; exact Pq rfl rfl
 iterate 2 refine Zs ?_
 exact J fun g => sd _ _ h g _ _
 iterate 2 refine Zs ?_
 exact J fun g => sd _ _ h g _ _
theorem wx (t n_ r) (h : lE t n_ = some r) (b1 be0 L g H n) (hH : HP H n (.box be0 (ab.av t) :: .box b1 (ae.av n_) :: L)) : PAt C (aj Tryz.f62) (.a (.b (.b (.b (.b (.b (.a (.b (.a (.b .o)))))))))) ⟨upd (upd g 0 (.pt be0 0)) 3 (.pt b1 0), H, n⟩ (cb C Tryz.f62 (fun rs H' n' => rs = [.d (.bool r)] ∧ HP H' n' (.box be0 (ab.av t) :: L))) := by
 refine Z ?_
 refine cB rfl (by kernel_rfl) ?_
 refine Z ?_
 refine al h rfl zc (sc rfl (sc rfl (sn))) (fun y hy => ls _ _ y hy) (fun _ => rfl) (fun t25 h => ?_)
 refine Z ?_
 refine Pt rfl (Cr ?_)
 obtain rfl := si h
 exact prF (.inl rfl) (aS (.d (.bool t25)) rfl (aJ)) ⟨rfl, (hH.sl 2 [0])⟩
theorem E8 (op a b r) (h : hG op a b = some r) : aL C 78 [(.int .i64 op), (.int .i64 a), (.int .i64 b)] = some [(.int .i64 r)] := by
 refine aB (bu _ _ rfl) Qj rfl (jmp 0 (.d (.int .i64 op)) rfl (jmp 1 (.d (.int .i64 a)) rfl (jmp 2 (.d (.int .i64 b)) rfl ?_)))
 refine Z ?_
 refine Wc h rfl rfl ?_ ?_ <;> intro _ h
 iterate 4 refine Zs ?_
 exact J fun g => se _ _ h g _ _
 refine Z ?_
 refine Wc h rfl rfl ?_ ?_ <;> intro _ h
 iterate 2 refine Zs ?_
 exact J fun g => se _ _ h g _ _
 refine Z ?_
 refine Wc h rfl rfl ?_ ?_ <;> intro _ h
 refine Z ?_
 refine Wc h rfl rfl ?_ ?_ <;> intro _ h
 refine Z ?_
 cases h; exact Pq rfl rfl
 refine Z ?_
 cases h; exact Pq rfl rfl
 refine Z ?_
 refine Wc h rfl rfl ?_ ?_ <;> intro _ h
 iterate 4 refine Zs ?_
 exact J fun g => sf _ _ _ h g _ _
 refine Z ?_
 refine Wc h rfl rfl ?_ ?_ <;> intro _ h
 iterate 2 refine Zs ?_
 exact J fun g => sf _ _ _ h g _ _
 refine Z ?_
 refine Wc h rfl rfl ?_ ?_ <;> intro _ h
 iterate 4 refine Zs ?_
 exact J fun g => jR _ _ _ h g _ _
 refine Z ?_
 refine Wc h rfl rfl ?_ ?_ <;> intro _ h
 iterate 4 refine Zs ?_
 exact J fun g => jR _ _ _ h g _ _
 refine Z ?_
 refine Wc h rfl rfl ?_ ?_ <;> intro _ h
 iterate 4 refine Zs ?_
 exact J fun g => jR _ _ _ h g _ _
 refine Z ?_
 refine Wc h rfl rfl ?_ ?_ <;> intro _ h
 iterate 2 refine Zs ?_
 exact J fun g => jR _ _ _ h g _ _
 refine Z ?_
 refine Wc h rfl rfl ?_ ?_ <;> intro _ h
 iterate 4 refine Zs ?_
 exact J fun g => sg _ _ _ h g _ _
 refine Z ?_
 refine Wc h rfl rfl ?_ ?_ <;> intro _ h
 iterate 2 refine Zs ?_
 exact J fun g => sg _ _ _ h g _ _
 refine Z ?_
 refine Wc h rfl rfl ?_ ?_ <;> intro _ h
 refine Z ?_
 refine Wc h rfl rfl ?_ ?_ <;> intro _ h
 refine Z ?_
 cases h; exact Pq rfl rfl
 refine Z ?_
 cases h; exact Pq rfl rfl
 refine Z ?_
 cases h; exact Pq rfl rfl
theorem zO (t5F : List ae) (t6F : Int) (st : sF) (r : Bool) (h : eg t5F t6F st = some r) : rN t5F t6F st r := by
 refine eg.partial_correctness t5F t6F (rN t5F t6F) (fun c_below_L1_run' ih_ st r h => ?_) st r h
 cases st with
 | c0 t7 =>
  intro g H n
  refine Po rfl ?_
  refine Z ?_
  refine Wc h rfl rfl ?_ ?_ <;> intro _ h
  refine Z ?_
  refine aA h rfl dQ.1 bm.1 (fun _ => rfl) rfl rfl (fun t9 h => ?_)
  refine aR (d := (ae.enc t9)) rfl bm.1 rfl rfl ?_
  refine aQ rfl dE (HP.nil _ _) (fun b13780 H' n' hH => ?_)
  refine ax (new := (ae.av t9)) rfl bm.1 hH (i := 0) rfl rfl rfl rfl rfl (Nat.le_of_ble_eq_true rfl) (fun H' hH => ?_)
  refine Z ?_
  refine Wc h rfl rfl ?_ ?_ <;> intro _ h
  refine Z ?_
  refine Wc h rfl rfl ?_ ?_ <;> intro _ h
  refine Z ?_
  cases h; exact Pq rfl rfl
  iterate 3 refine Zs ?_
  exact J fun g => ih_ (.c1 _) _ h g _ _
  iterate 3 refine Zs ?_
  exact J fun g => ih_ (.c1 _) _ h g _ _
  refine Z ?_
  cases h; exact Pq rfl rfl
 | c1 t7 =>
  intro g H n
  refine Z ?_
  exact J fun g => ih_ (.c0 _) _ h g _ _
end Go.Proofs.YtkmbagocakiefaaGreatDoor.Wb
