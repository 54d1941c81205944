/- The abstract machine computes these functions. Printed by decomp.py. -/
import Derived.Test.YtkmbagocakiefaaGreatDoorD2
import Derived.Test.YtkmbagocakiefaaGreatDoorW1
import Derived.Test.YtkmbagocakiefaaGreatDoorW2
import Derived.Test.YtkmbagocakiefaaGreatDoorW3
import Derived.Test.YtkmbagocakiefaaGreatDoorW5
import Derived.Test.YtkmbagocakiefaaGreatDoorW6
import Derived.Test.YtkmbagocakiefaaGreatDoorW9
import Derived.Test.YtkmbagocakiefaaGreatDoorW7
import Derived.Test.YtkmbagocakiefaaGreatDoorW8
namespace Go.Proofs.YtkmbagocakiefaaGreatDoor.Wb
open Go Go.Jv
set_option maxHeartbeats 4000000
open Go.Proofs
set_option maxHeartbeats 4000000
attribute [local irreducible] EW EX PAt con
theorem DS (t Name Name1 Decls i r) (h : eW t Name Name1 Decls i = some r) : yD t Name Name1 Decls i r := by
 refine eW.partial_correctness t Name Name1 (fun Decls i r => yD t Name Name1 Decls i r) (fun eW ih_eW Decls i r h b0 b1 b2 w3 g H n hH => ?_) Decls i r h
 refine Po rfl ?_
 refine Z ?_
 refine Wc h rfl rfl ?_ ?_ <;> intro _ h
 refine Z ?_
 refine ct (pz := [(1, 3), (1, 5), (1, 6), (1, 8)]) rfl rfl (by kernel_rfl) (by kernel_rfl) ?_
 refine Z ?_
 refine bQ (fv := fun v => .d (.ptr (Dat.str v).cells)) (az) h rfl (bR bv.1 bM.1 (fun _ => rfl) rfl rfl) ⟨rfl, rfl⟩ (fun t164 h => ?_)
 refine Z ?_
 refine bi (v := .agg [.d (.int .i64 5), .d (.int .i64 0), .d (.int .i64 0), .d (.str t164), .d (.str ⟨#[]⟩), .d (.int .i64 0), .d (.int .i32 0), .d (.int .i32 0), .d (.int .i32 0), .nil, .nil, .nil, .nil, .nil, .nil]) (az) rfl (cy cO eo rfl) ⟨rfl, rfl⟩ ?_
 refine jK (enc := aV.enc) (e := (⟨5, (⟨0, 0⟩ : bd), t164, ⟨#[]⟩, 0, (⟨0, 0, 0⟩ : (A3 Int)), [], (⟨[], [], [], [], []⟩ : bn)⟩ : aV)) (.agg [.d (.int .i64 5), .d (.int .i64 0), .d (.int .i64 0), .d (.str t164), .d (.str ⟨#[]⟩), .d (.int .i64 0), .d (.int .i32 0), .d (.int .i32 0), .d (.int .i32 0), .nil, .nil, .nil, .nil, .nil, .nil]) rfl eZ.1 dC.1 cO (by decide) vO (fun _ => rfl) (fun _ => rfl) rfl (FS.agg (FS.d (FS.d (FS.d (FS.d (FS.d (FS.d (FS.d (FS.d (FS.d (FS.nl (FS.nl (FS.nl (FS.nl (FS.nl (FS.nl (FS.nil hH)))))))))))))))) (fun _ hH => FS.nil hH)) rfl (fun w14342 i13342 H' n13342 hH hoff13342 hn13342 hi13342 => ?_)
 have hof13342_0 := hoff13342.box (k := 0) rfl
 have hof13342_1 := hoff13342.box (k := 1) rfl
 have hof13342_2 := hoff13342.box (k := 2) rfl
 have hof13342_3 := hoff13342.own (k := 3) rfl
 have hof13342 := hoff13342.2
 clear hoff13342
 refine cG (enc := aV.enc) (w14342) h rfl eZ.1 dC.1 lr (by decide) (fun _ => rfl) hH (j := 4) rfl rfl rfl (aM hH (j := 0) rfl) (fun t168 w14343 i13343 H' n13343 h hH hoff13343 hn13343 hi13343 => ?_)
 have hof13343_0 := hoff13343.own (k := 0) rfl
 have hof13343_1 := hoff13343.box (k := 1) rfl
 have hof13343_2 := hoff13343.box (k := 2) rfl
 have hof13343_3 := hoff13343.box (k := 3) rfl
 have hof13343 := hoff13343.2
 clear hoff13343
 refine Z ?_
 refine bX (new := [w14343]) [.d (.str Name1), w14343] rfl rk.1 hH (i := 4) rfl rfl (hH.okOwn (j := 0) rfl).2 rfl (by simp only [List.all_cons, List.all_nil, (hH.okOwn (j := 0) rfl).1]; rfl) (Nat.le_of_ble_eq_true rfl) rfl (fun H' hH => ?_)
 refine xn (pk rfl rfl aG (pk rfl rfl aY (pk rfl rfl aY (pk rfl rfl nco (pkn))))) ?_
 refine Z ?_
 exact J fun g => ih_eW _ _ _ h b0 b1 b2 w14343 g _ _ (hH.sl 5 [2, 3, 4, 0])
 refine Z ?_
 exact J fun g => DR _ _ _ _ _ _ h b0 b1 b2 w3 g _ _ hH
theorem DT (tF seen t10F t11F t12 r) (h : lA tF seen t10F t11F t12 = some r) : rZ tF t10F t11F (.c0 seen t12) r := zy tF t10F t11F (.c0 seen t12) r h
theorem Bz (t i r) (h : oi t i = some r) (be0 H n L) (hH : HP H n (.box be0 (ab.av t) :: L)) : Raw C 33 [.pt be0 0, .d (.int .i64 i)] H n (fun rs H' n' => rs = [.d (.bool r)] ∧ HP H' n' (.box be0 (ab.av t) :: L)) := by
 refine fa Pz rfl (jmp 0 (.pt be0 0) rfl (jmp 1 (.d (.int .i64 i)) rfl ?_))
 refine Z ?_
 refine aA h rfl dr.1 bK.1 (fun _ => rfl) rfl rfl (fun t14 h => ?_)
 refine aR (d := (ah.enc t14)) rfl bK.1 rfl rfl ?_
 refine aQ rfl kf hH (fun b13764 H' n' hH => ?_)
 refine ax (new := (ah.av t14)) rfl bK.1 hH (i := 0) rfl rfl rfl rfl rfl (Nat.le_of_ble_eq_true rfl) (fun H' hH => ?_)
 refine Z ?_
 refine cB rfl (by kernel_rfl) ?_
 refine Z ?_
 refine al h rfl kJ (sc rfl (sc rfl (sc rfl (sn)))) (fun y hy => gK _ _ _ y hy) (fun _ => rfl) (fun t18 h => ?_)
 revert h; cases t18 <;> intro h
 replace h := if0 h
 refine ba rfl rfl rfl ?_
 refine Z ?_
 refine Pt rfl (Cr ?_)
 obtain rfl := si h
 exact prF (.inl rfl) (aS (.d (.bool false)) rfl (aJ)) ⟨rfl, (hH.sl 2 [1])⟩
 replace h := if1 h
 refine ba rfl rfl rfl ?_
 refine Z ?_
 refine Wc h rfl rfl ?_ ?_ <;> intro _ h
 refine Z ?_
 refine aA h rfl dr.1 bK.1 (fun _ => rfl) rfl rfl (fun t32 h => ?_)
 refine Z ?_
 refine Wc h rfl rfl ?_ ?_ <;> intro _ h
 refine Z ?_
 refine Pt rfl (Cr ?_)
 obtain rfl := si h
 exact prF (.inl rfl) (aS (.d (.bool false)) rfl (aJ)) ⟨rfl, (hH.sl 2 [1])⟩
 iterate 3 refine Zs ?_
 exact J fun g => pU _ _ _ _ h b13764 _ _ g _ _ (hH.sl 2 [1, 0])
 iterate 3 refine Zs ?_
 exact J fun g => pU _ _ _ _ h b13764 _ _ g _ _ (hH.sl 2 [1, 0])
theorem ET (t Name Name1 Decls t62 t63 t64 r) (h : gD t Name Name1 Decls t62 t63 t64 = some r) : Ac t Name Name1 Decls t62 t63 t64 r := by
 refine gD.partial_correctness t Name t62 t63 (fun Name1 Decls t64 r => Ac t Name Name1 Decls t62 t63 t64 r) (fun gD ih_gD Name1 Decls t64 r h b0 b1 b2 w3 g H n hH => ?_) Name1 Decls t64 r h
 refine Po rfl ?_
 refine Z ?_
 refine Wc h rfl rfl ?_ ?_ <;> intro _ h
 refine Z ?_
 refine aA h rfl iS.1 dO.1 (fun _ => rfl) rfl rfl (fun t66 h => ?_)
 refine aR (d := (ai.enc t66)) rfl dO.1 rfl rfl ?_
 refine aQ rfl qa hH (fun b13981 H' n' hH => ?_)
 refine ax (new := (ai.av t66)) rfl dO.1 hH (i := 0) rfl rfl rfl rfl rfl (Nat.le_of_ble_eq_true rfl) (fun H' hH => ?_)
 refine Z ?_
 refine ct (pz := [(3, 5), (3, 11), (5, 11), (6, 11), (8, 11), (3, 13), (5, 13), (6, 13), (8, 13), (11, 13), (3, 14), (5, 14), (6, 14), (8, 14), (3, 16), (5, 16), (6, 16), (8, 16), (3, 18), (5, 18), (6, 18), (8, 18), (11, 18), (13, 18), (14, 18), (16, 18), (3, 21), (5, 21), (6, 21), (8, 21), (11, 21), (13, 21), (14, 21), (16, 21), (18, 21)]) rfl rfl (by kernel_rfl) (by kernel_rfl) (bi (v := .fn 17 [.pt b2 0]) (az) rfl (uU) ⟨rfl, rfl⟩ ?_)
 refine Z ?_
 refine bQ (fv := fun v => .d (.ptr (ak.enc v).cells)) (az) h rfl (bR dj.1 cq.1 (fun _ => rfl) rfl rfl) ⟨rfl, rfl⟩ (fun t74 h => ?_)
 refine Z ?_
 refine bQ (fv := fun v => .d (.ptr (ak.enc v).cells)) (az) h rfl (bR dj.1 cq.1 (fun _ => rfl) rfl rfl) ⟨rfl, rfl⟩ (fun t82 h => ?_)
 refine Z ?_
 refine bi (v := .d (.int .i32 (IntKind.i32.wrap t66.AB))) (az) rfl (mm (pK ty3 uf)) ⟨rfl, rfl⟩ ?_
 refine Z ?_
 refine bi (v := .d (.int .i32 (IntKind.i32.wrap t66.BA))) (az) rfl (mm (pK ty3 uf)) ⟨rfl, rfl⟩ (bi (v := .agg [.d (.int .i32 (IntKind.i32.wrap t66.AB)), .d (.int .i32 (IntKind.i32.wrap t66.BA)), .d (.int .i32 0)]) (az) rfl (ny pY tr tu.1 rfl) ⟨rfl, rfl⟩ (bi (v := .agg [.d (.int .i64 3), .d (.int .i64 0), .d (.int .i64 0), .d (.str t74.Name), .d (.str t82.Name), .d (.int .i64 0), .d (.int .i32 (IntKind.i32.wrap t66.AB)), .d (.int .i32 (IntKind.i32.wrap t66.BA)), .d (.int .i32 0), .nil, .nil, .nil, .nil, .nil, .nil]) (az) rfl (cy cO eo rfl) ⟨rfl, rfl⟩ ?_))
 have hHr := ((((((hH.addNil (z := ⟨9, 1⟩)).addNil (z := ⟨105, 6⟩)).addNil (z := ⟨105, 6⟩)).addNil (z := ⟨105, 6⟩)).addNil (z := ⟨118, 4⟩)).selG 10 [4, 3, 2, 1, 0, 8, 9, 5, 6, 7] (by decide) (by decide) (gc rfl (gc rfl (gc rfl (gc rfl (gc rfl (gc rfl (gc rfl (gc rfl (gc rfl (gc rfl (gt rfl))))))))))))
 refine vl (A := [.own .nil ⟨9, 1⟩ [], .own .nil ⟨105, 6⟩ [], .own .nil ⟨105, 6⟩ [], .own .nil ⟨105, 6⟩ [], .own .nil ⟨118, 4⟩ [], .box b2 [.d (.str Name1), w3], dS w3 Decls]) (L := [.box b13981 (ai.av t66), .box b0 (ab.av t), .box b1 [.d (.str Name), .nil]]) (P := fun y rs As => ∃ (w'1 : AV), rs = [] ∧ As = [.box b2 [.d (.str y.1), w'1], dS w'1 y.2]) [.agg [.d (.int .i64 3), .d (.int .i64 0), .d (.int .i64 0), .d (.str t74.Name), .d (.str t82.Name), .d (.int .i64 0), .d (.int .i32 (IntKind.i32.wrap t66.AB)), .d (.int .i32 (IntKind.i32.wrap t66.BA)), .d (.int .i32 0), .nil, .nil, .nil, .nil, .nil, .nil], .pt b2 0] h rfl rfl tt rfl hHr (mcc (.agg (mcc (.d _) (mcc (.d _) (mcc (.d _) (mcc (.d _) (mcc (.d _) (mcc (.d _) (mcc (.d _) (mcc (.d _) (mcc (.d _) (mcc (.nil) (mcc (.nil) (mcc (.nil) (mcc (.nil) (mcc (.nil) (mcc (.nil) (mcn))))))))))))))))) (mcc (.pt (j := 5) rfl) (mcn))) (cbo (cbo (cbo (cbo (cbo (cbb (mcc (.d _) (mcc (.own (j := 6) rfl) (mcn))) (cbo (cbn)))))))) (rcc (uv) (rcc (uv) (rcc (uv) (rcc (uv) (rcc (uv) (rcc (cc 1 rfl (dl)) (rcc (fm 5 hHr rfl (cc 1 rfl (dl)) 1 rfl (dI)) (rcn)))))))) (fun y hy H n L' hH => (gk _ _ _ _ _ _ _ _ _ _ _ _ _ _ _ _ y hy .nil .nil .nil .nil .nil b2 w3 _ _ _ hH).to (fun rs H' n' ⟨w0, e, hp⟩ => ⟨_, ⟨w0, e, rfl⟩, hp⟩)) (fun t93 rs As H' n12982 h hP hH hoff12982 hn12982 => ?_)
 obtain ⟨w12982_1, rfl, rfl⟩ := hP
 clear hHr
 clear hoff12982
 refine xn (pk rfl rfl aG (pk rfl rfl aG (pk rfl rfl aG (pk rfl rfl ao (pk rfl rfl ao (pk rfl rfl aG (pk rfl rfl aG (pk rfl rfl ao (pk rfl rfl ao (pk rfl rfl aG (pk rfl rfl aY (pk rfl rfl aY (pk rfl rfl ao (pk rfl rfl ao (pk rfl rfl aY (pk rfl rfl aY (pk rfl rfl ao (pk rfl rfl ao (pk rfl rfl aG (pk rfl rfl aG (pk rfl rfl ao (pk rfl rfl ao (pk rfl rfl aG (pk rfl rfl aG (pk rfl rfl ao (pk rfl rfl ao (pk rfl rfl aG (pk rfl rfl aG (pk rfl rfl ao (pk rfl rfl ao (pk rfl rfl aG (pk rfl rfl aG (pk rfl rfl ao (pk rfl rfl ao (pk rfl rfl aG (pkn)))))))))))))))))))))))))))))))))))) ?_
 refine Z ?_
 exact J fun g => ih_gD _ _ _ _ h b0 b1 b2 w12982_1 g _ _ (hH.sl 5 [3, 4, 0, 1])
 refine Z ?_
 exact J fun g => EN _ _ _ _ _ _ _ _ h b0 b1 b2 w3 g _ _ hH
theorem wQ (lF : List ByteArray) (st : pA) (r : Bool) (h : dw lF st = some r) : oX lF st r := by
 refine dw.partial_correctness lF (oX lF) (fun r5_unlike_L1_run' ih_ st r h => ?_) st r h
 cases st with
 | c0 i =>
  intro g H n
  refine Po rfl ?_
  refine Z ?_
  refine Wc h rfl rfl ?_ ?_ <;> intro _ h
  refine Z ?_
  refine aA h rfl bv.1 bM.1 (fun _ => rfl) rfl rfl (fun t13 h => ?_)
  refine Z ?_
  refine al h rfl NL (sc rfl (sn)) (fun y hy => EP _ y hy) (fun _ => rfl) (fun t15 h => ?_)
  refine Wd h rfl rfl ?_ ?_ <;> intro _ h
  refine Z ?_
  exact J fun g => ih_ (.c1 _ _) _ h g _ _
  refine Z ?_
  cases h; exact Pq rfl rfl
  refine Z ?_
  cases h; exact Pq rfl rfl
 | c1 i j =>
  intro g H n
  refine Po rfl ?_
  refine Z ?_
  refine Wc h rfl rfl ?_ ?_ <;> intro _ h
  refine Z ?_
  refine cB rfl (by kernel_rfl) ?_
  refine Z ?_
  refine aA h rfl bv.1 bM.1 (fun _ => rfl) rfl rfl (fun t24 h => ?_)
  refine Z ?_
  refine aA h rfl bv.1 bM.1 (fun _ => rfl) rfl rfl (fun t28 h => ?_)
  refine Z ?_
  refine Wc h rfl rfl ?_ ?_ <;> intro _ h
  refine Z ?_
  cases h; exact Pq rfl rfl
  refine Z ?_
  exact J fun g => ih_ (.c1 _ _) _ h g _ _
  refine Z ?_
  exact J fun g => ih_ (.c0 _) _ h g _ _
theorem BB (tF stmts nexts total i r) (h : dA tF stmts nexts total i = some r) : oY tF (.c0 stmts nexts total i) r := wP tF (.c0 stmts nexts total i) r h
theorem zz (tF : ab) (NameF : ByteArray) (Name1F : ByteArray) (st : sQ) (r : aW × Int) (h : ei tF NameF Name1F st = some r) : sq tF NameF Name1F st r := by
 refine ei.partial_correctness tF NameF Name1F (sq tF NameF Name1F) (fun r5_Back_L4_run' ih_ st r h => ?_) st r h
 cases st with
 | c0 Decls i =>
  intro b0 b1 b2 w3 g H n hH
  refine Po rfl ?_
  refine Z ?_
  refine Wc h rfl rfl ?_ ?_ <;> intro _ h
  refine Z ?_
  refine ct (pz := [(1, 7), (3, 7), (5, 7), (1, 9), (3, 9), (5, 9), (1, 11), (3, 11), (5, 11), (1, 14), (3, 14), (5, 14), (7, 14), (9, 14), (11, 14), (1, 16), (3, 16), (5, 16), (7, 16), (9, 16), (11, 16), (1, 18), (3, 18), (5, 18), (7, 18), (9, 18), (11, 18), (1, 22), (3, 22), (5, 22), (7, 22), (9, 22), (11, 22), (14, 22), (16, 22), (18, 22)]) rfl rfl (by kernel_rfl) (by kernel_rfl) ?_
  refine Z ?_
  refine bQ (fv := fun v => .d (.ptr (aE.enc v).cells)) (az) h rfl (bR ej.1 df.1 (fun _ => rfl) rfl rfl) ⟨rfl, rfl⟩ (fun t120 h => ?_)
  refine Z ?_
  refine bQ (fv := fun v => .d (.ptr (aE.enc v).cells)) (az) h rfl (bR ej.1 df.1 (fun _ => rfl) rfl rfl) ⟨rfl, rfl⟩ (fun t126 h => ?_)
  refine Z ?_
  refine bi (v := .d (.int .i32 (IntKind.i32.wrap t126.Delay))) (az) rfl (mm (pK ty3 uf)) ⟨rfl, rfl⟩ ?_
  refine Z ?_
  refine bQ (fv := fun v => .d (.ptr (aE.enc v).cells)) (az) h rfl (bR ej.1 df.1 (fun _ => rfl) rfl rfl) ⟨rfl, rfl⟩ (fun t133 h => ?_)
  refine Z ?_
  refine bi (v := .d (.int .i32 (IntKind.i32.wrap t133.Hold))) (az) rfl (mm (pK ty3 uf)) ⟨rfl, rfl⟩ (bi (v := .agg [.d (.int .i32 (IntKind.i32.wrap t126.Delay)), .d (.int .i32 (IntKind.i32.wrap t133.Hold)), .d (.int .i32 0)]) (az) rfl (ny pY tr tu.1 rfl) ⟨rfl, rfl⟩ (bi (v := .agg [.d (.int .i64 4), .d (.int .i64 0), .d (.int .i64 0), .d (.str t120.Name), .d (.str ⟨#[]⟩), .d (.int .i64 0), .d (.int .i32 (IntKind.i32.wrap t126.Delay)), .d (.int .i32 (IntKind.i32.wrap t133.Hold)), .d (.int .i32 0), .nil, .nil, .nil, .nil, .nil, .nil]) (az) rfl (cy cO eo rfl) ⟨rfl, rfl⟩ ?_))
  refine uZ rfl cO hH (fun b14338 H' n13338 hH hoff13338 hn13338 => ?_)
  have hof13338_0 := hoff13338.box (k := 0) rfl
  have hof13338_1 := hoff13338.box (k := 1) rfl
  have hof13338_2 := hoff13338.box (k := 2) rfl
  have hof13338_3 := hoff13338.own (k := 3) rfl
  have hof13338 := hoff13338.2
  clear hoff13338
  refine bX (new := [.d (.int .i64 4), .d (.int .i64 0), .d (.int .i64 0), .d (.str t120.Name), .d (.str ⟨#[]⟩), .d (.int .i64 0), .d (.int .i32 (IntKind.i32.wrap t126.Delay)), .d (.int .i32 (IntKind.i32.wrap t133.Hold)), .d (.int .i32 0), .nil, .nil, .nil, .nil, .nil, .nil]) [.d (.int .i64 4), .d (.int .i64 0), .d (.int .i64 0), .d (.str t120.Name), .d (.str ⟨#[]⟩), .d (.int .i64 0), .d (.int .i32 (IntKind.i32.wrap t126.Delay)), .d (.int .i32 (IntKind.i32.wrap t133.Hold)), .d (.int .i32 0), .nil, .nil, .nil, .nil, .nil, .nil] rfl dC.1 hH (i := 0) rfl rfl rfl rfl rfl (Nat.le_of_ble_eq_true rfl) rfl (fun H' hH => ?_)
  refine xn (pk rfl rfl aG (pk rfl rfl ao (pk rfl rfl ao (pk rfl rfl aY (pk rfl rfl ao (pk rfl rfl ao (pk rfl rfl aY (pk rfl rfl ao (pk rfl rfl ao (pk rfl rfl aG (pk rfl rfl ao (pk rfl rfl ao (pk rfl rfl aG (pk rfl rfl ao (pk rfl rfl ao (pk rfl rfl aY (pk rfl rfl ao (pk rfl rfl ao (pk rfl rfl aY (pk rfl rfl ao (pk rfl rfl ao (pk rfl rfl aY (pk rfl rfl ao (pk rfl rfl ao (pk rfl rfl aY (pk rfl rfl ao (pk rfl rfl ao (pk rfl rfl nco (pk rfl rfl ao (pk rfl rfl ao (pk rfl rfl nco (pk rfl rfl ao (pk rfl rfl ao (pk rfl rfl nco (pk rfl rfl ao (pk rfl rfl ao (pkn))))))))))))))))))))))))))))))))))))) ?_
  refine Z ?_
  refine aA h rfl ej.1 df.1 (fun _ => rfl) rfl rfl (fun t142 h => ?_)
  refine Z ?_
  refine bA (b := t142.Latch) h rfl (vR lQ.1 rfl rfl) rfl (fun _ => ⟨rfl, rfl⟩) ?_ ?_ <;> intro _ h
  refine Z ?_
  refine iO rfl bZ.1 hH (i := 0) rfl rfl rfl rfl rfl (Nat.le_of_ble_eq_true rfl) (fun H' hH => ?_)
  refine Zs ?_
  exact J fun g => ih_ (.c1 _ _ _ _ _ _ _ _ _ _ _) _ h b0 b1 b2 w3 b14338 g _ _ (hH.sl 5 [1, 2, 3, 4, 0])
  iterate 3 refine Zs ?_
  exact J fun g => ih_ (.c1 _ _ _ _ _ _ _ _ _ _ _) _ h b0 b1 b2 w3 b14338 g _ _ (hH.sl 5 [1, 2, 3, 4, 0])
  refine Z ?_
  exact J fun g => DS _ _ _ _ _ _ h b0 b1 b2 w3 g _ _ hH
 | c1 Decls i Kind At_Line At_Col Name2 With Sort_ N_e0 N_e1 N_e2 =>
  intro b0 b1 b2 w3 b4 g H n hH
  refine Z ?_
  refine aF (v := .agg [.d (.int .i64 Kind), .d (.int .i64 At_Line), .d (.int .i64 At_Col), .d (.str Name2), .d (.str With), .d (.int .i64 Sort_), .d (.int .i32 N_e0), .d (.int .i32 N_e1), .d (.int .i32 N_e2), .nil, .nil, .nil, .nil, .nil, .nil]) rfl dC.1 hH (i := 4) rfl rfl rfl ?_
  refine de (enc := aV.enc) (e := (⟨Kind, (⟨At_Line, At_Col⟩ : bd), Name2, With, Sort_, (⟨N_e0, N_e1, N_e2⟩ : (A3 Int)), [], (⟨[], [], [], [], []⟩ : bn)⟩ : aV)) (.agg [.d (.int .i64 Kind), .d (.int .i64 At_Line), .d (.int .i64 At_Col), .d (.str Name2), .d (.str With), .d (.int .i64 Sort_), .d (.int .i32 N_e0), .d (.int .i32 N_e1), .d (.int .i32 N_e2), .nil, .nil, .nil, .nil, .nil, .nil]) rfl eZ.1 dC.1 cO (by decide) vO (fun _ => rfl) (fun _ => rfl) rfl (FS.agg (FS.d (FS.d (FS.d (FS.d (FS.d (FS.d (FS.d (FS.d (FS.d (FS.nl (FS.nl (FS.nl (FS.nl (FS.nl (FS.nl (FS.nil hH)))))))))))))))) (fun _ hH => FS.nil hH)) (fun w14340 H' n' hH => ?_)
  refine bl (enc := aV.enc) h rfl eZ.1 dC.1 lr (by decide) (fun _ => rfl) hH (j := 4) rfl rfl (aM hH (j := 0) rfl) (fun t150 w14341 H' n' h hH => ?_)
  refine Z ?_
  refine cx w14341 rfl rk.1 hH (i := 4) rfl rfl rfl (hH.okOwn (j := 0) rfl).2 (hH.okOwn (j := 0) rfl).1 (Nat.le_of_ble_eq_true rfl) (fun H' hH => ?_)
  refine Z ?_
  exact J fun g => ih_ (.c0 _ _) _ h b0 b1 b2 w14341 g _ _ (hH.sl 6 [2, 3, 4, 0])
theorem Hf (t r) (h : zn t = some r) (be0 H n L) (hH : HP H n (.box be0 (ab.av t) :: L)) : Raw C 31 [.pt be0 0] H n (fun rs H' n' => rs = [.d (.bool r)] ∧ HP H' n' (.box be0 (ab.av t) :: L)) := by
 refine fa Pw rfl (jmp 0 (.pt be0 0) rfl ?_)
 refine Z ?_
 refine L4 rfl CW hH (fun m13675 H' n' hH => ?_)
 refine Z ?_
 refine fw [.pt be0 0] h rfl rfl NK rfl (fun y hy => G2 _ y hy be0 _ _ (.mp m13675 (eM Dat.str (Dat.int .i64) []) :: L) (hH.sl 2 [1, 0])) (fun t10 rs H' n' h hP => ?_)
 obtain ⟨w12676_0, rfl, hH⟩ := hP
 refine Z ?_
 exact J fun g => DT _ _ _ _ _ _ h m13675 w12676_0 _ _ g _ _ (hH.sl 3 [1, 2, 0])
theorem DU (t stmts nexts total t78 t79 t80 r) (h : dK t stmts nexts total t78 t79 t80 = some r) : xq t stmts nexts total t78 t79 t80 r := by
 refine dK.partial_correctness t t78 t79 (fun stmts nexts total t80 r => xq t stmts nexts total t78 t79 t80 r) (fun dK ih_dK stmts nexts total t80 r h b0 g H n hH => ?_) stmts nexts total t80 r h
 refine Po rfl ?_
 refine Z ?_
 refine Wc h rfl rfl ?_ ?_ <;> intro _ h
 refine Z ?_
 refine aA h rfl dr.1 bK.1 (fun _ => rfl) rfl rfl (fun t83 h => ?_)
 refine aR (d := (ah.enc t83)) rfl bK.1 rfl rfl ?_
 refine aQ rfl kf hH (fun b13777 H' n' hH => ?_)
 refine Z ?_
 refine ax (new := (ah.av t83)) rfl bK.1 hH (i := 0) rfl rfl rfl rfl rfl (Nat.le_of_ble_eq_true rfl) (fun H' hH => ?_)
 refine Z ?_
 refine aF (v := .agg (ah.av t83)) rfl bK.1 hH (i := 0) rfl rfl rfl ?_
 refine al h rfl NF (sc rfl (sn)) (fun y hy => Hk _ y hy) (fun _ => rfl) (fun t105 h => ?_)
 refine Z ?_
 refine Wc h rfl rfl ?_ ?_ <;> intro _ h
 refine Z ?_
 cases h; exact Pq rfl rfl
 refine Z ?_
 refine Wc h rfl rfl ?_ ?_ <;> intro _ h
 refine Z ?_
 cases h; exact Pq rfl rfl
 refine Z ?_
 refine Wc h rfl rfl ?_ ?_ <;> intro _ h
 refine Z ?_
 cases h; exact Pq rfl rfl
 refine Z ?_
 refine fw [.pt b0 0, .d (.int .i64 t80)] h rfl rfl NG rfl (fun y hy => Bz _ _ y hy b0 _ _ ([.box b13777 (ah.av t83)]) (hH.sl 2 [1, 0])) (fun t119 rs H' n' h hP => ?_)
 obtain ⟨rfl, hH⟩ := hP
 refine bA (b := (!t119)) h rfl (kC rfl rfl) rfl (fun _ => ⟨rfl, rfl⟩) ?_ ?_ <;> intro _ h
 refine Z ?_
 cases h; exact Pq rfl rfl
 refine Z ?_
 exact J fun g => ih_dK _ _ _ _ _ h b0 g _ _ (hH.sl 2 [0])
 refine Z ?_
 cases h; exact Pq rfl rfl
theorem EU (t Name Name1 Decls t36 t37 t38 r) (h : gE t Name Name1 Decls t36 t37 t38 = some r) : Ad t Name Name1 Decls t36 t37 t38 r := by
 refine gE.partial_correctness t Name t36 t37 (fun Name1 Decls t38 r => Ad t Name Name1 Decls t36 t37 t38 r) (fun gE ih_gE Name1 Decls t38 r h b0 b1 b2 w3 g H n hH => ?_) Name1 Decls t38 r h
 refine Po rfl ?_
 refine Z ?_
 refine Wc h rfl rfl ?_ ?_ <;> intro _ h
 refine Z ?_
 refine aA h rfl dj.1 cq.1 (fun _ => rfl) rfl rfl (fun t40 h => ?_)
 refine aR (d := (ak.enc t40)) rfl cq.1 rfl rfl ?_
 refine aQ rfl pZ hH (fun b13979 H' n' hH => ?_)
 refine ax (new := (ak.av t40)) rfl cq.1 hH (i := 0) rfl rfl rfl rfl rfl (Nat.le_of_ble_eq_true rfl) (fun H' hH => ?_)
 refine Z ?_
 refine iu (cs := [.d (.int .i32 (IntKind.i32.wrap t40.Min)), .d (.int .i32 (IntKind.i32.wrap t40.Amber)), .d (.int .i32 (IntKind.i32.wrap t40.Lead))]) rfl pY tr tu.1 rfl (cr (cs := [.d (.int .i64 2), .d (.int .i64 0), .d (.int .i64 0), .d (.str t40.Name), .d (.str ⟨#[]⟩), .d (.int .i64 t40.Sort_), .d (.int .i32 (IntKind.i32.wrap t40.Min)), .d (.int .i32 (IntKind.i32.wrap t40.Amber)), .d (.int .i32 (IntKind.i32.wrap t40.Lead)), .nil, .nil, .nil, .nil, .nil, .nil]) rfl cO eo rfl ?_)
 refine fw [.agg [.d (.int .i64 2), .d (.int .i64 0), .d (.int .i64 0), .d (.str t40.Name), .d (.str ⟨#[]⟩), .d (.int .i64 t40.Sort_), .d (.int .i32 (IntKind.i32.wrap t40.Min)), .d (.int .i32 (IntKind.i32.wrap t40.Amber)), .d (.int .i32 (IntKind.i32.wrap t40.Lead)), .nil, .nil, .nil, .nil, .nil, .nil], .pt b2 0] h rfl rfl tt rfl (fun y hy => gk _ _ _ _ _ _ _ _ _ _ _ _ _ _ _ _ y hy .nil .nil .nil .nil .nil b2 w3 _ _ ([.box b13979 (ak.av t40), .box b0 (ab.av t), .box b1 [.d (.str Name), .nil]]) ((((((hH.addNil (z := ⟨9, 1⟩)).addNil (z := ⟨105, 6⟩)).addNil (z := ⟨105, 6⟩)).addNil (z := ⟨105, 6⟩)).addNil (z := ⟨118, 4⟩)).sl 10 [4, 3, 2, 1, 0, 8, 9, 5, 6, 7])) (fun t58 rs H' n' h hP => ?_)
 obtain ⟨w12980_1, rfl, hH⟩ := hP
 refine Z ?_
 exact J fun g => ih_gE _ _ _ _ h b0 b1 b2 w12980_1 g _ _ (hH.sl 5 [3, 4, 0, 1])
 refine Z ?_
 exact J fun g => ET _ _ _ _ _ _ _ _ h b0 b1 b2 w3 g _ _ hH
theorem BC (lF i r) (h : iz lF i = some r) : oX lF (.c0 i) r := wQ lF (.c0 i) r h
theorem EV (t r) (h : qr t = some r) : aL C 41 [(ab.enc t)] = some [(.bool r)] := by
 refine aB (bu _ _ rfl) PH rfl (jmp 0 (.d (ab.enc t)) rfl ?_)
 refine Z ?_
 refine cu (cs := (ab.av t)) rfl bJ.1 rfl rfl rfl (HP.nil _ _) (fun b14138 H' n' hH => ?_)
 refine Z ?_
 exact J fun g => BB _ _ _ _ _ _ h b14138 g _ _ hH
theorem DV (tF NameF Name1F Decls i r) (h : gj tF NameF Name1F Decls i = some r) : sq tF NameF Name1F (.c0 Decls i) r := zz tF NameF Name1F (.c0 Decls i) r h
theorem DW (t t60 t61 t62 r) (h : fz t t60 t61 t62 = some r) : xr t t60 t61 t62 r := by
 refine fz.partial_correctness t t60 t61 (fun t62 r => xr t t60 t61 t62 r) (fun fz ih_fz t62 r h b0 g H n hH => ?_) t62 r h
 refine Po rfl ?_
 refine Z ?_
 refine Wc h rfl rfl ?_ ?_ <;> intro _ h
 refine Z ?_
 refine aA h rfl ej.1 df.1 (fun _ => rfl) rfl rfl (fun t64 h => ?_)
 refine aR (d := (aE.enc t64)) rfl df.1 rfl rfl ?_
 refine aQ rfl uP hH (fun b13776 H' n' hH => ?_)
 refine ax (new := (aE.av t64)) rfl df.1 hH (i := 0) rfl rfl rfl rfl rfl (Nat.le_of_ble_eq_true rfl) (fun H' hH => ?_)
 refine Z ?_
 refine al h rfl kJ (sc rfl (sc rfl (sc rfl (sn)))) (fun y hy => gK _ _ _ y hy) (fun _ => rfl) (fun t68 h => ?_)
 revert h; cases t68 <;> intro h
 replace h := if0 h
 refine ba rfl rfl rfl ?_
 refine Z ?_
 cases h; exact Pq rfl rfl
 replace h := if1 h
 refine ba rfl rfl rfl ?_
 refine Z ?_
 refine al h rfl kJ (sc rfl (sc rfl (sc rfl (sn)))) (fun y hy => gK _ _ _ y hy) (fun _ => rfl) (fun t73 h => ?_)
 revert h; cases t73 <;> intro h
 replace h := if0 h
 refine ba rfl rfl rfl ?_
 refine Z ?_
 cases h; exact Pq rfl rfl
 replace h := if1 h
 refine ba rfl rfl rfl ?_
 refine Z ?_
 exact J fun g => ih_fz _ _ h b0 g _ _ (hH.sl 2 [1])
 refine Z ?_
 exact J fun g => DU _ _ _ _ _ _ _ _ h b0 g _ _ hH
theorem xC (l r) (h : nD l = some r) : aL C 39 [(.lst (l.map Dat.str))] = some [(.bool r)] := by
 refine aB (bu _ _ rfl) PF rfl (jmp 0 (.d (.lst (l.map Dat.str))) rfl ?_)
 refine Z ?_
 exact J fun g => BC _ _ _ h g _ _
theorem DX (t Name Name1 Decls l i r) (h : fK t Name Name1 Decls l i = some r) : yE t Name Name1 Decls l i r := by
 refine fK.partial_correctness t Name Name1 l (fun Decls i r => yE t Name Name1 Decls l i r) (fun fK ih_fK Decls i r h b0 b1 b2 w3 g H n hH => ?_) Decls i r h
 refine Po rfl ?_
 refine Z ?_
 refine Wc h rfl rfl ?_ ?_ <;> intro _ h
 refine Z ?_
 refine aA h rfl iS.1 dO.1 (fun _ => rfl) rfl rfl (fun t83 h => ?_)
 refine aR (d := (ai.enc t83)) rfl dO.1 rfl rfl ?_
 refine aQ rfl qa hH (fun b14334 H' n' hH => ?_)
 refine ax (new := (ai.av t83)) rfl dO.1 hH (i := 0) rfl rfl rfl rfl rfl (Nat.le_of_ble_eq_true rfl) (fun H' hH => ?_)
 refine Z ?_
 refine ct (pz := [(1, 4), (1, 5), (1, 7), (1, 10), (4, 10), (5, 10), (7, 10), (1, 11), (4, 11), (5, 11), (7, 11), (1, 13), (4, 13), (5, 13), (7, 13), (1, 15), (4, 15), (5, 15), (7, 15), (10, 15), (11, 15), (13, 15), (1, 18), (4, 18), (5, 18), (7, 18), (10, 18), (11, 18), (13, 18), (15, 18), (1, 22)]) rfl rfl (by kernel_rfl) (by kernel_rfl) ?_
 refine Z ?_
 refine bQ (fv := fun v => .d (.ptr (ak.enc v).cells)) (az) h rfl (bR dj.1 cq.1 (fun _ => rfl) rfl rfl) ⟨rfl, rfl⟩ (fun t90 h => ?_)
 refine Z ?_
 refine bQ (fv := fun v => .d (.ptr (ak.enc v).cells)) (az) h rfl (bR dj.1 cq.1 (fun _ => rfl) rfl rfl) ⟨rfl, rfl⟩ (fun t96 h => ?_)
 refine Z ?_
 refine bi (v := .d (.int .i32 (IntKind.i32.wrap t83.AB))) (az) rfl (mm (pK ty3 uf)) ⟨rfl, rfl⟩ ?_
 refine Z ?_
 refine bi (v := .d (.int .i32 (IntKind.i32.wrap t83.BA))) (az) rfl (mm (pK ty3 uf)) ⟨rfl, rfl⟩ (bi (v := .agg [.d (.int .i32 (IntKind.i32.wrap t83.AB)), .d (.int .i32 (IntKind.i32.wrap t83.BA)), .d (.int .i32 0)]) (az) rfl (ny pY tr tu.1 rfl) ⟨rfl, rfl⟩ (bi (v := .agg [.d (.int .i64 3), .d (.int .i64 0), .d (.int .i64 0), .d (.str t90.Name), .d (.str t96.Name), .d (.int .i64 0), .d (.int .i32 (IntKind.i32.wrap t83.AB)), .d (.int .i32 (IntKind.i32.wrap t83.BA)), .d (.int .i32 0), .nil, .nil, .nil, .nil, .nil, .nil]) (az) rfl (cy cO eo rfl) ⟨rfl, rfl⟩ ?_))
 refine jK (enc := aV.enc) (e := (⟨3, (⟨0, 0⟩ : bd), t90.Name, t96.Name, 0, (⟨(IntKind.i32.wrap t83.AB), (IntKind.i32.wrap t83.BA), 0⟩ : (A3 Int)), [], (⟨[], [], [], [], []⟩ : bn)⟩ : aV)) (.agg [.d (.int .i64 3), .d (.int .i64 0), .d (.int .i64 0), .d (.str t90.Name), .d (.str t96.Name), .d (.int .i64 0), .d (.int .i32 (IntKind.i32.wrap t83.AB)), .d (.int .i32 (IntKind.i32.wrap t83.BA)), .d (.int .i32 0), .nil, .nil, .nil, .nil, .nil, .nil]) rfl eZ.1 dC.1 cO (by decide) vO (fun _ => rfl) (fun _ => rfl) rfl (FS.agg (FS.d (FS.d (FS.d (FS.d (FS.d (FS.d (FS.d (FS.d (FS.d (FS.nl (FS.nl (FS.nl (FS.nl (FS.nl (FS.nl (FS.nil hH)))))))))))))))) (fun _ hH => FS.nil hH)) rfl (fun w14335 i13335 H' n13335 hH hoff13335 hn13335 hi13335 => ?_)
 have hof13335_0 := hoff13335.box (k := 0) rfl
 have hof13335_1 := hoff13335.box (k := 1) rfl
 have hof13335_2 := hoff13335.box (k := 2) rfl
 have hof13335_3 := hoff13335.box (k := 3) rfl
 have hof13335_4 := hoff13335.own (k := 4) rfl
 have hof13335 := hoff13335.2
 clear hoff13335
 refine cG (enc := aV.enc) (w14335) h rfl eZ.1 dC.1 lr (by decide) (fun _ => rfl) hH (j := 5) rfl rfl rfl (aM hH (j := 0) rfl) (fun t108 w14336 i13336 H' n13336 h hH hoff13336 hn13336 hi13336 => ?_)
 have hof13336_0 := hoff13336.own (k := 0) rfl
 have hof13336_1 := hoff13336.box (k := 1) rfl
 have hof13336_2 := hoff13336.box (k := 2) rfl
 have hof13336_3 := hoff13336.box (k := 3) rfl
 have hof13336_4 := hoff13336.box (k := 4) rfl
 have hof13336 := hoff13336.2
 clear hoff13336
 refine Z ?_
 refine bX (new := [w14336]) [.d (.str Name1), w14336] rfl rk.1 hH (i := 5) rfl rfl (hH.okOwn (j := 0) rfl).2 rfl (by simp only [List.all_cons, List.all_nil, (hH.okOwn (j := 0) rfl).1]; rfl) (Nat.le_of_ble_eq_true rfl) rfl (fun H' hH => ?_)
 refine xn (pk rfl rfl aG (pk rfl rfl aY (pk rfl rfl aY (pk rfl rfl aG (pk rfl rfl aG (pk rfl rfl ao (pk rfl rfl ao (pk rfl rfl aY (pk rfl rfl aY (pk rfl rfl ao (pk rfl rfl ao (pk rfl rfl aY (pk rfl rfl aY (pk rfl rfl ao (pk rfl rfl ao (pk rfl rfl aG (pk rfl rfl aG (pk rfl rfl ao (pk rfl rfl ao (pk rfl rfl aG (pk rfl rfl ao (pk rfl rfl ao (pk rfl rfl aG (pk rfl rfl aG (pk rfl rfl ao (pk rfl rfl ao (pk rfl rfl aG (pk rfl rfl ao (pk rfl rfl ao (pk rfl rfl aG (pk rfl rfl nco (pkn)))))))))))))))))))))))))))))))) ?_
 refine Z ?_
 exact J fun g => ih_fK _ _ _ h b0 b1 b2 w14336 g _ _ (hH.sl 6 [3, 4, 5, 0])
 refine Z ?_
 exact J fun g => DV _ _ _ _ _ _ h b0 b1 b2 w3 g _ _ hH
end Go.Proofs.YtkmbagocakiefaaGreatDoor.Wb
namespace Go.Proofs.YtkmbagocakiefaaGreatDoor.Wb
open Go Go.Jv
set_option maxHeartbeats 4000000
open Go.Proofs
set_option maxHeartbeats 4000000
attribute [local irreducible] EW EX PAt con
theorem Hi (t r) (h : rE t = some r) : aL C 15 [(ab.enc t)] = some [(.bool r)] := by
 refine aB (bu _ _ rfl) P8 rfl (jmp 0 (.d (ab.enc t)) rfl ?_)
 refine Z ?_
 refine cu (cs := (ab.av t)) rfl bJ.1 rfl rfl rfl (HP.nil _ _) (fun b13774 H' n' hH => ?_)
 refine Z ?_
 refine aF (v := .agg (aI.av t.Tables)) rfl my.1 hH (i := 0) rfl rfl rfl ?_
 refine al h rfl ND (sc rfl (sn)) (fun y hy => Iw _ y hy) (fun _ => rfl) (fun t12 h => ?_)
 revert h; cases t12 <;> intro h
 replace h := if0 h
 refine ba rfl rfl rfl ?_
 refine Z ?_
 cases h; exact Pq rfl rfl
 replace h := if1 h
 refine ba rfl rfl rfl ?_
 refine Z ?_
 refine Wc h rfl rfl ?_ ?_ <;> intro _ h
 refine Z ?_
 cases h; exact Pq rfl rfl
 refine Z ?_
 refine Wc h rfl rfl ?_ ?_ <;> intro _ h
 refine Z ?_
 cases h; exact Pq rfl rfl
 refine Z ?_
 refine Wc h rfl rfl ?_ ?_ <;> intro _ h
 refine Z ?_
 cases h; exact Pq rfl rfl
 refine Z ?_
 refine Wc h rfl rfl ?_ ?_ <;> intro _ h
 refine Z ?_
 cases h; exact Pq rfl rfl
 refine Z ?_
 refine al h rfl kJ (sc rfl (sc rfl (sc rfl (sn)))) (fun y hy => gK _ _ _ y hy) (fun _ => rfl) (fun t42 h => ?_)
 revert h; cases t42 <;> intro h
 replace h := if0 h
 refine ba rfl rfl rfl ?_
 refine Z ?_
 cases h; exact Pq rfl rfl
 replace h := if1 h
 refine ba rfl rfl rfl ?_
 refine Z ?_
 refine al h rfl kJ (sc rfl (sc rfl (sc rfl (sn)))) (fun y hy => gK _ _ _ y hy) (fun _ => rfl) (fun t52 h => ?_)
 revert h; cases t52 <;> intro h
 replace h := if0 h
 refine ba rfl rfl rfl ?_
 refine Z ?_
 cases h; exact Pq rfl rfl
 replace h := if1 h
 refine ba rfl rfl rfl ?_
 refine Z ?_
 refine fw [.pt b13774 0] h rfl rfl NE rfl (fun y hy => Hf _ y hy b13774 _ _ ([]) hH) (fun t56 rs H' n' h hP => ?_)
 obtain ⟨rfl, hH⟩ := hP
 refine bA (b := (!t56)) h rfl (kC rfl rfl) rfl (fun _ => ⟨rfl, rfl⟩) ?_ ?_ <;> intro _ h
 refine Z ?_
 cases h; exact Pq rfl rfl
 refine Z ?_
 exact J fun g => DW _ _ _ _ _ h b13774 g _ _ hH
theorem CM (t i r) (h : ie t i = some r) : wj t i r := by
 refine ie.partial_correctness t (fun i r => wj t i r) (fun ie ih_ie i r h b0 g H n hH => ?_) i r h
 refine Po rfl ?_
 refine Z ?_
 refine Wc h rfl rfl ?_ ?_ <;> intro _ h
 refine Z ?_
 refine aA h rfl ej.1 df.1 (fun _ => rfl) rfl rfl (fun t60 h => ?_)
 refine Z ?_
 refine al h rfl pI (sc rfl (sc rfl (sc rfl (sn)))) (fun y hy => eE _ _ _ y hy) (fun _ => rfl) (fun t63 h => ?_)
 revert h; cases t63 <;> intro h
 replace h := if0 h
 refine ba rfl rfl rfl ?_
 refine Z ?_
 cases h; exact Pq rfl rfl
 replace h := if1 h
 refine ba rfl rfl rfl ?_
 refine Z ?_
 refine aA h rfl ej.1 df.1 (fun _ => rfl) rfl rfl (fun t69 h => ?_)
 refine Z ?_
 refine al h rfl pI (sc rfl (sc rfl (sc rfl (sn)))) (fun y hy => eE _ _ _ y hy) (fun _ => rfl) (fun t72 h => ?_)
 revert h; cases t72 <;> intro h
 replace h := if0 h
 refine ba rfl rfl rfl ?_
 refine Z ?_
 cases h; exact Pq rfl rfl
 replace h := if1 h
 refine ba rfl rfl rfl ?_
 refine Z ?_
 exact J fun g => ih_ie _ _ h b0 g _ _ hH
 refine Z ?_
 refine cN (enc := Dat.str) (xs := [t.Name]) [.d (.str t.Name)] rfl bv.1 bM.1 mz ⟨by decide, Nat.le_of_ble_eq_true rfl⟩ zd9 (fun _ => rfl) (fun _ => rfl) rfl rfl hH (fun w14143 H' n' hH => ?_)
 refine al h rfl Kl (sc (so 3 hH (j := 0) rfl) (sn)) (fun y hy => xC _ y hy) (fun _ => rfl) (fun t78 h => ?_)
 revert h; cases t78 <;> intro h
 replace h := if0 h
 refine Z ?_
 cases h; exact Pq rfl rfl
 replace h := if1 h
 refine Z ?_
 refine aF (v := .agg (ab.av t)) rfl bJ.1 hH (i := 1) rfl rfl rfl ?_
 refine yV (xs := [(ab.enc t)]) h rfl NI rfl rfl (fun y hy => FO _ y hy) (fun t81 h => ?_)
 refine al h rfl Kl (sc rfl (sn)) (fun y hy => xC _ y hy) (fun _ => rfl) (fun t82 h => ?_)
 revert h; cases t82 <;> intro h
 replace h := if0 h
 refine Z ?_
 cases h; exact Pq rfl rfl
 replace h := if1 h
 refine Z ?_
 refine aF (v := .agg (ab.av t)) rfl bJ.1 hH (i := 1) rfl rfl rfl ?_
 refine al h rfl NJ (sc rfl (sn)) (fun y hy => EV _ y hy) (fun _ => rfl) (fun t86 h => ?_)
 refine Z ?_
 cases h; exact Pq rfl rfl
theorem DY (t Name Name1 Decls l i r) (h : fL t Name Name1 Decls l i = some r) : yF t Name Name1 Decls l i r := by
 refine fL.partial_correctness t Name Name1 l (fun Decls i r => yF t Name Name1 Decls l i r) (fun fL ih_fL Decls i r h b0 b1 b2 w3 g H n hH => ?_) Decls i r h
 refine Po rfl ?_
 refine Z ?_
 refine Wc h rfl rfl ?_ ?_ <;> intro _ h
 refine Z ?_
 refine ct (pz := [(1, 4), (1, 6), (1, 9), (4, 9), (6, 9), (1, 11), (4, 11), (6, 11), (1, 14), (4, 14), (6, 14), (9, 14), (11, 14), (1, 16), (4, 16), (6, 16), (9, 16), (11, 16), (1, 20), (4, 20), (6, 20), (9, 20), (11, 20), (14, 20), (16, 20), (1, 22), (4, 22), (6, 22), (9, 22), (11, 22), (14, 22), (16, 22), (1, 26), (4, 26), (6, 26), (9, 26), (11, 26), (14, 26), (16, 26), (20, 26), (22, 26), (1, 28), (4, 28), (6, 28), (9, 28), (11, 28), (14, 28), (16, 28), (20, 28), (22, 28), (1, 32)]) rfl rfl (by kernel_rfl) (by kernel_rfl) ?_
 refine Z ?_
 refine bQ (fv := fun v => .d (.ptr (ak.enc v).cells)) (az) h rfl (bR dj.1 cq.1 (fun _ => rfl) rfl rfl) ⟨rfl, rfl⟩ (fun t40 h => ?_)
 refine Z ?_
 refine bQ (fv := fun v => .d (.ptr (ak.enc v).cells)) (az) h rfl (bR dj.1 cq.1 (fun _ => rfl) rfl rfl) ⟨rfl, rfl⟩ (fun t45 h => ?_)
 refine Z ?_
 refine bQ (fv := fun v => .d (.ptr (ak.enc v).cells)) (az) h rfl (bR dj.1 cq.1 (fun _ => rfl) rfl rfl) ⟨rfl, rfl⟩ (fun t50 h => ?_)
 refine Z ?_
 refine bi (v := .d (.int .i32 (IntKind.i32.wrap t50.Min))) (az) rfl (mm (pK ty3 uf)) ⟨rfl, rfl⟩ ?_
 refine Z ?_
 refine bQ (fv := fun v => .d (.ptr (ak.enc v).cells)) (az) h rfl (bR dj.1 cq.1 (fun _ => rfl) rfl rfl) ⟨rfl, rfl⟩ (fun t56 h => ?_)
 refine Z ?_
 refine bi (v := .d (.int .i32 (IntKind.i32.wrap t56.Amber))) (az) rfl (mm (pK ty3 uf)) ⟨rfl, rfl⟩ ?_
 refine Z ?_
 refine bQ (fv := fun v => .d (.ptr (ak.enc v).cells)) (az) h rfl (bR dj.1 cq.1 (fun _ => rfl) rfl rfl) ⟨rfl, rfl⟩ (fun t62 h => ?_)
 refine Z ?_
 refine bi (v := .d (.int .i32 (IntKind.i32.wrap t62.Lead))) (az) rfl (mm (pK ty3 uf)) ⟨rfl, rfl⟩ (bi (v := .agg [.d (.int .i32 (IntKind.i32.wrap t50.Min)), .d (.int .i32 (IntKind.i32.wrap t56.Amber)), .d (.int .i32 (IntKind.i32.wrap t62.Lead))]) (az) rfl (ny pY tr tu.1 rfl) ⟨rfl, rfl⟩ (bi (v := .agg [.d (.int .i64 2), .d (.int .i64 0), .d (.int .i64 0), .d (.str t40.Name), .d (.str ⟨#[]⟩), .d (.int .i64 t45.Sort_), .d (.int .i32 (IntKind.i32.wrap t50.Min)), .d (.int .i32 (IntKind.i32.wrap t56.Amber)), .d (.int .i32 (IntKind.i32.wrap t62.Lead)), .nil, .nil, .nil, .nil, .nil, .nil]) (az) rfl (cy cO eo rfl) ⟨rfl, rfl⟩ ?_))
 refine jK (enc := aV.enc) (e := (⟨2, (⟨0, 0⟩ : bd), t40.Name, ⟨#[]⟩, t45.Sort_, (⟨(IntKind.i32.wrap t50.Min), (IntKind.i32.wrap t56.Amber), (IntKind.i32.wrap t62.Lead)⟩ : (A3 Int)), [], (⟨[], [], [], [], []⟩ : bn)⟩ : aV)) (.agg [.d (.int .i64 2), .d (.int .i64 0), .d (.int .i64 0), .d (.str t40.Name), .d (.str ⟨#[]⟩), .d (.int .i64 t45.Sort_), .d (.int .i32 (IntKind.i32.wrap t50.Min)), .d (.int .i32 (IntKind.i32.wrap t56.Amber)), .d (.int .i32 (IntKind.i32.wrap t62.Lead)), .nil, .nil, .nil, .nil, .nil, .nil]) rfl eZ.1 dC.1 cO (by decide) vO (fun _ => rfl) (fun _ => rfl) rfl (FS.agg (FS.d (FS.d (FS.d (FS.d (FS.d (FS.d (FS.d (FS.d (FS.d (FS.nl (FS.nl (FS.nl (FS.nl (FS.nl (FS.nl (FS.nil hH)))))))))))))))) (fun _ hH => FS.nil hH)) rfl (fun w14331 i13331 H' n13331 hH hoff13331 hn13331 hi13331 => ?_)
 have hof13331_0 := hoff13331.box (k := 0) rfl
 have hof13331_1 := hoff13331.box (k := 1) rfl
 have hof13331_2 := hoff13331.box (k := 2) rfl
 have hof13331_3 := hoff13331.own (k := 3) rfl
 have hof13331 := hoff13331.2
 clear hoff13331
 refine cG (enc := aV.enc) (w14331) h rfl eZ.1 dC.1 lr (by decide) (fun _ => rfl) hH (j := 4) rfl rfl rfl (aM hH (j := 0) rfl) (fun t69 w14332 i13332 H' n13332 h hH hoff13332 hn13332 hi13332 => ?_)
 have hof13332_0 := hoff13332.own (k := 0) rfl
 have hof13332_1 := hoff13332.box (k := 1) rfl
 have hof13332_2 := hoff13332.box (k := 2) rfl
 have hof13332_3 := hoff13332.box (k := 3) rfl
 have hof13332 := hoff13332.2
 clear hoff13332
 refine Z ?_
 refine bX (new := [w14332]) [.d (.str Name1), w14332] rfl rk.1 hH (i := 4) rfl rfl (hH.okOwn (j := 0) rfl).2 rfl (by simp only [List.all_cons, List.all_nil, (hH.okOwn (j := 0) rfl).1]; rfl) (Nat.le_of_ble_eq_true rfl) rfl (fun H' hH => ?_)
 refine xn (pk rfl rfl aY (pk rfl rfl aY (pk rfl rfl aY (pk rfl rfl ao (pk rfl rfl ao (pk rfl rfl aY (pk rfl rfl ao (pk rfl rfl ao (pk rfl rfl aY (pk rfl rfl ao (pk rfl rfl ao (pk rfl rfl ao (pk rfl rfl ao (pk rfl rfl aY (pk rfl rfl ao (pk rfl rfl ao (pk rfl rfl ao (pk rfl rfl ao (pk rfl rfl aY (pk rfl rfl ao (pk rfl rfl ao (pk rfl rfl ao (pk rfl rfl ao (pk rfl rfl ao (pk rfl rfl ao (pk rfl rfl aY (pk rfl rfl ao (pk rfl rfl ao (pk rfl rfl ao (pk rfl rfl ao (pk rfl rfl ao (pk rfl rfl ao (pk rfl rfl aY (pk rfl rfl ao (pk rfl rfl ao (pk rfl rfl ao (pk rfl rfl ao (pk rfl rfl ao (pk rfl rfl ao (pk rfl rfl ao (pk rfl rfl ao (pk rfl rfl aY (pk rfl rfl ao (pk rfl rfl ao (pk rfl rfl ao (pk rfl rfl ao (pk rfl rfl ao (pk rfl rfl ao (pk rfl rfl ao (pk rfl rfl ao (pk rfl rfl nco (pkn)))))))))))))))))))))))))))))))))))))))))))))))))))) ?_
 refine Z ?_
 exact J fun g => ih_fL _ _ _ h b0 b1 b2 w14332 g _ _ (hH.sl 5 [2, 3, 4, 0])
 refine Z ?_
 exact J fun g => DX _ _ _ _ _ _ _ h b0 b1 b2 w3 g _ _ hH
theorem Io (t r) (h : Cq t = some r) : aL C 5 [(ab.enc t)] = some [(aW.enc r.1), (.int .i64 r.2)] := by
 refine aB (bu _ _ rfl) fn5 rfl (jmp 0 (.d (ab.enc t)) rfl ?_)
 refine Z ?_
 refine cu (cs := (ab.av t)) rfl bJ.1 rfl rfl rfl (HP.nil _ _) (fun b13976 H' n' hH => ?_)
 refine aQ rfl mh hH (fun b13977 H' n' hH => ?_)
 refine Z ?_
 refine aF (v := .agg (ab.av t)) rfl bJ.1 hH (i := 1) rfl rfl rfl ?_
 refine al h rfl Nq (sc rfl (sn)) (fun y hy => Hi _ y hy) (fun _ => rfl) (fun t22 h => ?_)
 revert h; cases t22 <;> intro h
 replace h := if0 h
 refine ba rfl rfl rfl ?_
 iterate 2 refine Zs ?_
 exact J fun g => xt _ _ h b13977 g _ _ (hH.sl 2 [0])
 replace h := if1 h
 refine ba rfl rfl rfl ?_
 refine Z ?_
 refine aF (v := .agg (ab.av t)) rfl bJ.1 hH (i := 1) rfl rfl rfl ?_
 refine al h rfl Nr (sc rfl (sn)) (fun y hy => E5 _ y hy) (fun _ => rfl) (fun t26 h => ?_)
 revert h; cases t26 <;> intro h
 replace h := if0 h
 refine ba rfl rfl rfl ?_
 iterate 2 refine Zs ?_
 exact J fun g => xt _ _ h b13977 g _ _ (hH.sl 2 [0])
 replace h := if1 h
 refine ba rfl rfl rfl ?_
 refine Z ?_
 refine cr (cs := [.d (.str t.Name), .nil]) rfl mh vN rfl ?_
 refine aQ rfl mh hH (fun b13978 H' n' hH => ?_)
 refine ax (new := [.d (.str t.Name), .nil]) rfl iB.1 hH (i := 0) rfl rfl rfl rfl rfl (Nat.le_of_ble_eq_true rfl) (fun H' hH => ?_)
 refine Z ?_
 refine cm (v := .fn 17 [.pt b13978 0]) rfl Mf (fun _ => ⟨rfl, rfl⟩) ?_
 refine Z ?_
 exact J fun g => EU _ _ _ _ _ _ _ _ h b13976 b13977 b13978 .nil g _ _ ((hH.addNil (z := ⟨85, 15⟩)).sl 4 [3, 2, 1, 0])
theorem G9 (t r) (h : vZ t = some r) : aL C 19 [(ab.enc t)] = some [(.bool r)] := by
 refine aB (bu _ _ rfl) Pd rfl (jmp 0 (.d (ab.enc t)) rfl ?_)
 refine Z ?_
 refine cu (cs := (ab.av t)) rfl bJ.1 rfl rfl rfl (HP.nil _ _) (fun b14142 H' n' hH => ?_)
 refine Z ?_
 refine aF (v := .agg (aI.av t.Tables)) rfl my.1 hH (i := 0) rfl rfl rfl ?_
 refine al h rfl NH (sc rfl (sn)) (fun y hy => H7 _ y hy) (fun _ => rfl) (fun t6 h => ?_)
 revert h; cases t6 <;> intro h
 replace h := if0 h
 refine ba rfl rfl rfl ?_
 refine Z ?_
 cases h; exact Pq rfl rfl
 replace h := if1 h
 refine ba rfl rfl rfl ?_
 refine Z ?_
 refine Wc h rfl rfl ?_ ?_ <;> intro _ h
 refine Z ?_
 cases h; exact Pq rfl rfl
 refine Z ?_
 refine Wc h rfl rfl ?_ ?_ <;> intro _ h
 refine Z ?_
 cases h; exact Pq rfl rfl
 refine Z ?_
 refine Wc h rfl rfl ?_ ?_ <;> intro _ h
 refine Z ?_
 cases h; exact Pq rfl rfl
 refine Z ?_
 refine Wc h rfl rfl ?_ ?_ <;> intro _ h
 refine Z ?_
 cases h; exact Pq rfl rfl
 refine Z ?_
 refine al h rfl pI (sc rfl (sc rfl (sc rfl (sn)))) (fun y hy => eE _ _ _ y hy) (fun _ => rfl) (fun t35 h => ?_)
 revert h; cases t35 <;> intro h
 replace h := if0 h
 refine ba rfl rfl rfl ?_
 refine Z ?_
 cases h; exact Pq rfl rfl
 replace h := if1 h
 refine ba rfl rfl rfl ?_
 refine Z ?_
 refine Wc h rfl rfl ?_ ?_ <;> intro _ h
 refine Z ?_
 cases h; exact Pq rfl rfl
 refine Z ?_
 refine Wc h rfl rfl ?_ ?_ <;> intro _ h
 refine Z ?_
 cases h; exact Pq rfl rfl
 refine Z ?_
 exact J fun g => CM _ _ _ h b14142 g _ _ hH
theorem Hj (t r) (h : zt t = some r) : aL C 6 [(ab.enc t)] = some [(aW.enc r.1), (.int .i64 r.2)] := by
 refine aB (bu _ _ rfl) fn6 rfl (jmp 0 (.d (ab.enc t)) rfl ?_)
 refine Z ?_
 refine cu (cs := (ab.av t)) rfl bJ.1 rfl rfl rfl (HP.nil _ _) (fun b14328 H' n' hH => ?_)
 refine aQ rfl mh hH (fun b14329 H' n' hH => ?_)
 refine Z ?_
 refine aF (v := .agg (ab.av t)) rfl bJ.1 hH (i := 1) rfl rfl rfl ?_
 refine al h rfl Nu (sc rfl (sn)) (fun y hy => G9 _ y hy) (fun _ => rfl) (fun t16 h => ?_)
 revert h; cases t16 <;> intro h
 replace h := if0 h
 refine ba rfl rfl rfl ?_
 iterate 2 refine Zs ?_
 exact J fun g => wz _ _ h b14329 g _ _ (hH.sl 2 [0])
 replace h := if1 h
 refine ba rfl rfl rfl ?_
 refine Z ?_
 refine aF (v := .agg (ab.av t)) rfl bJ.1 hH (i := 1) rfl rfl rfl ?_
 refine al h rfl Nv (sc rfl (sn)) (fun y hy => Db _ y hy) (fun _ => rfl) (fun t20 h => ?_)
 revert h; cases t20 <;> intro h
 replace h := if0 h
 refine ba rfl rfl rfl ?_
 iterate 2 refine Zs ?_
 exact J fun g => wz _ _ h b14329 g _ _ (hH.sl 2 [0])
 replace h := if1 h
 refine ba rfl rfl rfl ?_
 refine Z ?_
 refine cr (cs := [.d (.str t.Name), .nil]) rfl mh vN rfl ?_
 refine aQ rfl mh hH (fun b14330 H' n' hH => ?_)
 refine ax (new := [.d (.str t.Name), .nil]) rfl iB.1 hH (i := 0) rfl rfl rfl rfl rfl (Nat.le_of_ble_eq_true rfl) (fun H' hH => ?_)
 refine Z ?_
 exact J fun g => DY _ _ _ _ _ _ _ h b14328 b14329 b14330 .nil g _ _ ((hH.addNil (z := ⟨85, 15⟩)).sl 4 [3, 2, 1, 0])
theorem AE (t r) (h : mP t = some r) : aL C 3 [(ab.enc t)] = some [(.bool r)] := by
 refine aB (bu _ _ rfl) fn3 rfl (jmp 0 (.d (ab.enc t)) rfl ?_)
 refine Z ?_
 refine cu (cs := (ab.av t)) rfl bJ.1 rfl rfl rfl (HP.nil _ _) (fun b14425 H' n' hH => ?_)
 refine Z ?_
 refine cr (cs := [.nil, .nil, .nil, .nil, .nil, .nil, .nil, .nil, .nil, .nil, .nil, .nil, .nil, .nil, .nil, .nil, .nil]) rfl LY JL rfl ?_
 refine cu (cs := [.nil, .nil, .nil, .nil, .nil, .nil, .nil, .nil, .nil, .nil, .nil, .nil, .nil, .nil, .nil, .nil, .nil]) rfl Oo.1 rfl rfl rfl hH (fun b14426 H' n' hH => ?_)
 refine Z ?_
 refine aF (v := .agg (ab.av t)) rfl bJ.1 hH (i := 1) rfl rfl rfl ?_
 refine fw [.pt b14426 0, .agg (ab.av t)] h rfl rfl QE rfl (fun y hy => AJ _ y hy b14426 _ _ ([.box b14425 (ab.av t)]) hH) (fun t13 rs H' n' h hP => ?_)
 obtain ⟨w13427_0, w13427_1, w13427_2, w13427_3, w13427_4, w13427_5, w13427_6, w13427_8, w13427_9, w13427_10, w13427_11, w13427_12, w13427_13, w13427_14, w13427_15, w13427_16, rfl, hH⟩ := hP
 refine aQ rfl C0 hH (fun b14428 H' n' hH => ?_)
 refine ax (new := [.d (.str t13.1), w13427_0, w13427_1, w13427_2, w13427_3, w13427_4, w13427_5, w13427_6, .d (.int .i64 t13.2.2.2.2.2.2.2.2.1)]) rfl bJ.1 hH (i := 0) rfl rfl rfl rfl (by simp only [List.all_cons, List.all_nil, (hH.okImm (j := 1) rfl).1, (hH.okImm (j := 2) rfl).1, (hH.okImm (j := 3) rfl).1, (hH.okImm (j := 4) rfl).1, (hH.okImm (j := 5) rfl).1, (hH.okImm (j := 6) rfl).1, (hH.okImm (j := 7) rfl).1]; rfl) (Nat.le_of_ble_eq_true rfl) (fun H' hH => ?_)
 refine Z ?_
 refine aF (v := .agg [.d (.str t13.1), w13427_0, w13427_1, w13427_2, w13427_3, w13427_4, w13427_5, w13427_6, .d (.int .i64 t13.2.2.2.2.2.2.2.2.1)]) rfl bJ.1 hH (i := 0) rfl rfl rfl ?_
 refine Mg (E := (fun y => [(aW.enc y.1), (.int .i64 y.2)])) (xs := [(ab.enc (⟨t13.1, (⟨t13.2.1, t13.2.2.1⟩ : aI), t13.2.2.2.1, t13.2.2.2.2.1, t13.2.2.2.2.2.1, t13.2.2.2.2.2.2.1, t13.2.2.2.2.2.2.2.1, t13.2.2.2.2.2.2.2.2.1⟩ : ab))]) h rfl QF (FS.agg (FS.d (FS.imm hH (j := 1) rfl (FS.imm hH (j := 2) rfl (FS.imm hH (j := 3) rfl (FS.imm hH (j := 4) rfl (FS.imm hH (j := 5) rfl (FS.imm hH (j := 6) rfl (FS.imm hH (j := 7) rfl (FS.d (FS.nil hH)))))))))) (fun _ hH => FS.nil hH)) (fun y hy => Io _ y hy) (fun t16 H' h hH => ?_)
 refine Z ?_
 refine aQ rfl mh hH (fun b14429 H' n' hH => ?_)
 refine ax (new := (aW.av t16.1)) rfl iB.1 hH (i := 0) rfl rfl rfl rfl rfl (Nat.le_of_ble_eq_true rfl) (fun H' hH => ?_)
 refine Z ?_
 refine aF (v := .agg (ab.av t)) rfl bJ.1 hH (i := 19) rfl rfl rfl ?_
 refine yV (xs := [(ab.enc t)]) h rfl QG rfl rfl (fun y hy => Hj _ y hy) (fun t21 h => ?_)
 refine Z ?_
 refine aQ rfl mh hH (fun b14430 H' n' hH => ?_)
 refine ax (new := (aW.av t21.1)) rfl iB.1 hH (i := 0) rfl rfl rfl rfl rfl (Nat.le_of_ble_eq_true rfl) (fun H' hH => ?_)
 refine Z ?_
 refine Wc h rfl rfl ?_ ?_ <;> intro _ h
 refine Z ?_
 refine aF (v := .agg (aW.av t16.1)) rfl iB.1 hH (i := 1) rfl rfl rfl (aF (v := .agg (aW.av t21.1)) rfl iB.1 hH (i := 0) rfl rfl rfl ?_)
 refine al h rfl QH (sc rfl (sc rfl (sn))) (fun y hy => Da _ _ y hy) (fun _ => rfl) (fun t30 h => ?_)
 revert h; cases t30 <;> intro h
 replace h := if0 h
 refine Z ?_
 cases h; exact Pq rfl rfl
 replace h := if1 h
 refine Z ?_
 refine aF (v := .agg [.d (.str t13.1), w13427_0, w13427_1, w13427_2, w13427_3, w13427_4, w13427_5, w13427_6, .d (.int .i64 t13.2.2.2.2.2.2.2.2.1)]) rfl bJ.1 hH (i := 2) rfl rfl rfl (aF (v := .agg (ab.av t)) rfl bJ.1 hH (i := 20) rfl rfl rfl ?_)
 refine al h rfl QI (sc (Me (sc rfl (sc (sk 2 hH (j := 3) rfl) (sc (sk 2 hH (j := 4) rfl) (sc (sk 2 hH (j := 5) rfl) (sc (sk 2 hH (j := 6) rfl) (sc (sk 2 hH (j := 7) rfl) (sc (sk 2 hH (j := 8) rfl) (sc (sk 2 hH (j := 9) rfl) (sc rfl (sn))))))))))) (sc rfl (sn))) (fun y hy => Ck _ _ y hy) (fun _ => rfl) (fun t35 h => ?_)
 revert h; cases t35 <;> intro h
 replace h := if0 h
 refine Z ?_
 cases h; exact Pq rfl rfl
 replace h := if1 h
 refine Z ?_
 refine fw [.pt b14426 0] h rfl rfl QJ rfl (fun y hy => Az _ _ _ _ _ _ _ _ _ y hy b14426 w13427_8 w13427_9 w13427_10 w13427_11 w13427_12 w13427_13 w13427_14 w13427_15 w13427_16 _ _ ([.box b14430 (aW.av t21.1), .box b14429 (aW.av t16.1), .box b14428 [.d (.str t13.1), w13427_0, w13427_1, w13427_2, w13427_3, w13427_4, w13427_5, w13427_6, .d (.int .i64 t13.2.2.2.2.2.2.2.2.1)], .imm w13427_0 ⟨88, 5⟩ (t13.2.1.map ak.enc), .imm w13427_1 ⟨90, 4⟩ (t13.2.2.1.map ai.enc), .imm w13427_2 ⟨92, 4⟩ (t13.2.2.2.1.map aE.enc), .imm w13427_3 ⟨9, 1⟩ (t13.2.2.2.2.1.map Dat.str), .imm w13427_4 ⟨9, 1⟩ (t13.2.2.2.2.2.1.map Dat.str), .imm w13427_5 ⟨67, 2⟩ (t13.2.2.2.2.2.2.1.map aN.enc), .imm w13427_6 ⟨72, 7⟩ (t13.2.2.2.2.2.2.2.1.map ah.enc), .box b14425 (ab.av t)]) (hH.sl 21 [10, 11, 12, 13, 14, 15, 16, 17, 18, 19, 0, 1, 2, 3, 4, 5, 6, 7, 8, 9, 20])) (fun t39 rs H' n' h hP => ?_)
 obtain ⟨w13431_1, w13431_2, w13431_3, w13431_4, w13431_5, w13431_6, w13431_7, w13431_8, w13431_9, rfl, hH⟩ := hP
 refine Z ?_
 cases h; exact Pq rfl rfl
 refine Z ?_
 cases h; exact Pq rfl rfl
end Go.Proofs.YtkmbagocakiefaaGreatDoor.Wb
