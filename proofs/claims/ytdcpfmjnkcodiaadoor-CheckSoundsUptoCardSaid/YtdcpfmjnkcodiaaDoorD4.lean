/- The abstract machine computes these functions. Printed by decomp.py. -/
import Derived.Test.YtdcpfmjnkcodiaaDoorC2
import Derived.Test.YtdcpfmjnkcodiaaDoorD2
import Derived.Test.YtdcpfmjnkcodiaaDoorD3
namespace Go.Proofs.YtdcpfmjnkcodiaaDoor.We
open Go Go.Jv
set_option maxHeartbeats 4000000
open Go.Proofs
set_option maxHeartbeats 4000000
theorem c_soundList_L1_run_ok (t9F : List StmtT) (t10F : Int) (st : c_soundList_L1_S) (r : Bool × TypedT) (h : c_soundList_L1_run t9F t10F st = some r) : c_soundList_L1_m t9F t10F st r := by
 refine c_soundList_L1_run.partial_correctness t9F t10F (c_soundList_L1_m t9F t10F) (fun c_soundList_L1_run' ih_ st r h => ?_) st r h
 cases st with
 | c0 t open_ t11 =>
  intro w1 be0 L g H n hH
  refine Po (Ps (Pr rfl ?_))
  refine Wc h rfl ?_ ?_ <;> intro _ h
  refine Wn (Ns (Ps (Ct (Pk (Nc (Ns (Ps (Pb (Ps ?_)))))))))
  refine Pr rfl ?_
  refine w_idx h rfl elem58 szg140 (fun _ => rfl) rfl rfl (fun t13 h => ?_)
  refine w_load_d (d := (StmtT.enc t13)) szg140 rfl rfl ?_
  refine alloc_z rfl zero140 hH (fun b7767 H' n' hH => ?_)
  refine w_store_b (new := (StmtT.av t13)) rfl szg140 hH (i := 0) rfl rfl rfl rfl rfl (Nat.le_of_ble_eq_true rfl) (fun H' hH => ?_)
  refine Wn (Ns (Ps (Ps (Pr rfl (w_move_v (.pt be0 0) rfl rfl (w_load_b (v := .agg (StmtT.av t13)) rfl szg140 hH (i := 0) rfl rfl rfl ?_))))))
  refine w_raw [.pt be0 0, .agg (StmtT.av t13)] h rfl rfl sig227 rfl (fun y hy => c_soundStmt_ok _ _ y hy be0 _ _ (.box b7767 (StmtT.av t13) :: o4_1 w1 open_ :: L) (hH.selG 3 [1, 0, 2] (by decide) (by decide) (gc rfl (gc rfl (gc rfl (gt rfl)))))) (fun t17 rs H' n' h hP => ?_)
  obtain ⟨rfl, hH⟩ := hP
  refine w_split (b := (!t17.1)) h rfl (o_un rfl rfl) rfl (fun _ => ⟨rfl, rfl⟩) (fun _ h => ?_) (fun _ h => ?_)
  refine Wn (Ns (Ct (Ps (Pr rfl (Wa rfl (Wn (Ns ?_)))))))
  refine Pt (Cr ?_)
  cases h
  exact prF (.inl rfl) (ra_tmp (.d (.bool false)) rfl (ra_nil)) ⟨rfl, (hH.selG 3 [0] (by decide) (by decide) (gc rfl (gt rfl)))⟩
  refine Wn (Ns (Cf (Pk (Nb (Nb (Ns (Ps (Pr rfl (w_move_v (w1) rfl rfl ?_)))))))))
  refine w_len_own rfl elem239 hH (j := 2) rfl rfl (Wa rfl (Wn (Ns (Ps (Pr rfl (Fb fo140_0 (by decide) rfl 0 rfl (Lb szg3 hH (i := 1) rfl rfl rfl (Wn (Ns ?_)))))))))
  refine Pb (Ps (Pr rfl ?_))
  refine Wc h rfl ?_ ?_ <;> intro _ h
  refine Wa rfl (Wn (Ns (Ct (Ps (Ps (Pr rfl (Wm rfl ?_)))))))
  refine Wc h rfl ?_ ?_ <;> intro _ h
  refine Wn (Ns (Ct (Ps (Pr rfl (Wa rfl (Wn (Ns ?_)))))))
  refine Pt (Cr ?_)
  cases h
  exact prF (.inl rfl) (ra_tmp (.d (.bool false)) rfl (ra_nil)) ⟨rfl, (hH.selG 3 [0] (by decide) (by decide) (gc rfl (gt rfl)))⟩
  refine Wn (Ns (Cf (Pk (Nb (Nb (Ns (Pr rfl (w_move_v (w1) rfl rfl ?_))))))))
  refine w_bslice (enc := Dat.bool) (xs := [false]) [.d (.bool false)] rfl elem239 szg4 zero4 ⟨by decide, Nat.le_of_ble_eq_true rfl⟩ zd4 (fun _ => rfl) (fun _ => rfl) rfl rfl hH (fun w7769 H' n' hH => ?_)
  refine w_append (enc := Dat.bool) h rfl elem239 szg4 bytes4 (by decide) (fun _ => rfl) hH (j := 3) rfl rfl (shows_own hH (j := 0) rfl) (fun t29 w7770 H' n' h hH => ?_)
  refine w_assign_v (w7770) rfl rfl (Wn (Nb (Nc (Nb (Nk (Nb (Nb (Nb (Nb ?_)))))))))
  refine Nk (Ns ?_)
  exact jm 0 (jm 5 (jm 9 (jm 10 (jm 11 (ih_ (.c1 _ _ _) _ h w7770 _ _ _ _ _ (hH.selG 4 [2, 0] (by decide) (by decide) (gc rfl (gc rfl (gt rfl)))))))))
  refine Wa rfl (Wn (Ns (Cf (Ps (Pr rfl ?_)))))
  refine Wc h rfl ?_ ?_ <;> intro _ h
  refine Wa rfl (Wn (Ns (Ct (Ps (Ps (Pr rfl (Wm rfl ?_)))))))
  refine Wc h rfl ?_ ?_ <;> intro _ h
  refine Wm rfl (Wk (Wk (Wk (Wk (Wk (Wt rfl rfl (Wn (Ns (Ct ?_)))))))))
  refine Ps (Pr rfl (Wa rfl (Wn (Ns ?_))))
  refine Pt (Cr ?_)
  cases h
  exact prF (.inl rfl) (ra_tmp (.d (.bool false)) rfl (ra_nil)) ⟨rfl, (hH.selG 3 [0] (by decide) (by decide) (gc rfl (gt rfl)))⟩
  refine Wm rfl (w_move_v (w1) rfl rfl (Wm rfl (Wb rfl ?_)))
  refine w_idx_own h rfl elem239 szg4 hH (j := 2) rfl rfl rfl (fun i6771 t38 h hl6771 hv6771 => ?_)
  refine w_split (b := t38) h rfl (o_load_e szg4 hH (j := 2) rfl hl6771 rfl hv6771 rfl) rfl (fun _ => ⟨rfl, rfl⟩) (fun _ h => ?_) (fun _ h => ?_)
  refine Wf rfl rfl (Wn (Ns (Ct (Ps (Pr rfl (Wa rfl (Wn (Ns ?_))))))))
  refine Pt (Cr ?_)
  cases h
  exact prF (.inl rfl) (ra_tmp (.d (.bool false)) rfl (ra_nil)) ⟨rfl, (hH.selG 3 [0] (by decide) (by decide) (gc rfl (gt rfl)))⟩
  refine Wf rfl rfl (Wn (Ns (Cf (Pk (Nb (Nb (Ns (Pr rfl (w_move_v (w1) rfl rfl ?_)))))))))
  refine Wm rfl (Wb rfl ?_)
  refine w_idx_own h rfl elem239 szg4 hH (j := 2) rfl rfl rfl (fun i6772 t44 h hl6772 hv6772 => ?_)
  replace h := (some_bind_ _ _).symm.trans h
  refine w_store_e (e' := true) (d := (.bool true)) rfl szg4 hH (j := 2) rfl hl6772 rfl hv6772 rfl rfl rfl (Nat.le_of_ble_eq_true rfl) rfl (fun l6773 H' hq hl6773 hv6773 hH => ?_)
  rw [← hq] at h
  refine Wn (Nb (Nc (Nb (Nb (Nb (Nk (Nb (Nb (Nb ?_)))))))))
  refine Nb (Nk (Ns ?_))
  exact jm 0 (jm 5 (jm 9 (jm 10 (jm 11 (ih_ (.c1 _ _ _) _ h w1 _ _ _ _ _ (hH.selG 3 [0, 2] (by decide) (by decide) (gc rfl (gc rfl (gt rfl)))))))))
  refine Wa rfl (Wn (Ns (Cf (Ps (Pr rfl ?_)))))
  refine Wc h rfl ?_ ?_ <;> intro _ h
  refine Wa rfl (Wn (Ns (Ct (Ps (Ps (Pr rfl (Wm rfl ?_)))))))
  refine Wc h rfl ?_ ?_ <;> intro _ h
  refine Wn (Ns (Ct (Ps (Pr rfl (Wa rfl (Wn (Ns ?_)))))))
  refine Pt (Cr ?_)
  cases h
  exact prF (.inl rfl) (ra_tmp (.d (.bool false)) rfl (ra_nil)) ⟨rfl, (hH.selG 3 [0] (by decide) (by decide) (gc rfl (gt rfl)))⟩
  refine Wn (Ns (Cf (Pk (Nb (Nb (Ns (Pr rfl (w_move_v (w1) rfl rfl (Wm rfl ?_)))))))))
  refine Wb rfl ?_
  refine w_cut_own h rfl elem239 szg4 hH (j := 2) rfl rfl lh_nh (fun t52 w7774 H' n' h hH => ?_)
  refine w_assign_v (w7774) rfl rfl (Wn (Nb (Nc (Nb (Nb (Nb (Nb (Nb (Nk ?_)))))))))
  refine Nb (Nb (Nb (Nb (Nk (Ns ?_)))))
  exact jm 0 (jm 5 (jm 9 (jm 10 (jm 11 (ih_ (.c1 _ _ _) _ h w7774 _ _ _ _ _ (hH.selG 3 [0, 2] (by decide) (by decide) (gc rfl (gc rfl (gt rfl)))))))))
  refine Wa rfl (Wn (Ns (Cf (Pk (Nb (Nb (Nb (Nb (Nb ?_)))))))))
  refine Nb (Nk (Nb (Nb (Nb (Nb (Nk (Ns ?_)))))))
  exact jm 0 (jm 5 (jm 9 (jm 10 (jm 11 (ih_ (.c1 _ _ _) _ h w1 _ _ _ _ _ (hH.selG 3 [0, 2] (by decide) (by decide) (gc rfl (gc rfl (gt rfl)))))))))
  refine Wn (Ns (Ps (Cf (Px rfl (Nb (Xs (Nb (Xl (Xb ?_)))))))))
  refine Nb (Ns (Ps (Pr rfl (w_move_v (w1) rfl rfl (w_len_own rfl elem239 hH (j := 1) rfl rfl (Wb rfl (Wa rfl (Wn (Ns ?_)))))))))
  refine Pt (Cr ?_)
  cases h
  exact prF (.inl rfl) (ra_tmp (.d (.bool (decide ((open_.length : Int) = 0)))) rfl (ra_nil)) ⟨rfl, (hH.selG 2 [0] (by decide) (by decide) (gc rfl (gt rfl)))⟩
 | c1 t open_ t11 =>
  intro w1 be0 L g H n hH
  refine Pr rfl (Wb rfl (Wm rfl (Wn (Nb (Nb (Nb (Nl ?_)))))))
  exact jm 0 (jm 5 (jm 9 (jm 10 (jm 11 (ih_ (.c0 _ _ _) _ h w1 _ _ _ _ _ hH)))))
theorem c_soundList_L1_ok (t : TypedT) (open_ : List Bool) (t9F : List StmtT) (t10F : Int) (t11 : Int) (r : Bool × TypedT) (h : c_soundList_L1 t open_ t9F t10F t11 = some r) : c_soundList_L1_m t9F t10F (.c0 t open_ t11) r := c_soundList_L1_run_ok t9F t10F (.c0 t open_ t11) r h
theorem c_soundList_ok (t : TypedT) (l : List StmtT) (r : Bool × TypedT) (h : c_soundList t l = some r) (be0 : Nat) (H : Hs) (n : Nat) (L : List Jv.Item) (hH : HP H n (.box be0 (TypedT.av t) :: L)) : Raw C 176 [.pt be0 0, .d (.lst (l.map StmtT.enc))] H n (fun rs H' n' => rs = [.d (.bool r.1)] ∧ HP H' n' (.box be0 (TypedT.av r.2) :: L)) := by
 refine raw_at fn176 rfl (jmp 0 (.pt be0 0) rfl (jmp 1 (.d (.lst (l.map StmtT.enc))) rfl (Ps (Pr rfl (Wa rfl (Wn (Ns (Ps (Pr rfl ?_)))))))))
 refine w_assign_v (.nil) rfl rfl (Wn (Ns (Ps (Ps (Pr rfl (Wm rfl (w_len_d elem58 rfl (Wm rfl (Wn ?_)))))))))
 refine Ns (Pb ?_)
 exact jm 0 (jm 5 (jm 9 (jm 10 (jm 11 (c_soundList_L1_ok _ _ _ _ _ _ h .nil _ _ _ _ _ ((hH.addNil (z := ⟨4, 1⟩)).selG 2 [1, 0] (by decide) (by decide) (gc rfl (gc rfl (gt rfl)))))))))
def c_soundStage_L3_M (t : TypedT) (i : Int) (t73 : List TNextT) (t74 : Int) (t75 : Int) (r : Bool × TypedT) : Prop := ∀ (be0 L g H n) (hH : HP H n (.box be0 (TypedT.av t) :: L)), PAt C (bodyOf Tryd.f117) (.a (.b (.a (.b (.b (.b (.b (.b .o)))))))) ⟨upd (upd (upd (upd (upd g 0 (.pt be0 0)) 1 (.d (.int .i64 i))) 73 (.d (.lst (t73.map TNextT.enc)))) 74 (.d (.int .i64 t74))) 75 (.d (.int .i64 t75)), H, n⟩ (PostR C Tryd.f117 (fun rs H' n' => rs = [.d (.bool r.1)] ∧ HP H' n' (.box be0 (TypedT.av r.2) :: L)))
theorem c_soundStage_L3_ok (t : TypedT) (i : Int) (t73 : List TNextT) (t74 : Int) (t75 : Int) (r : Bool × TypedT) (h : c_soundStage_L3 t i t73 t74 t75 = some r) : c_soundStage_L3_M t i t73 t74 t75 r := by
 refine c_soundStage_L3.partial_correctness t i t73 t74 (fun t75 r => c_soundStage_L3_M t i t73 t74 t75 r) (fun c_soundStage_L3 ih_c_soundStage_L3 t75 r h be0 L g H n hH => ?_) t75 r h
 refine Po (Ps (Pr rfl ?_))
 refine Wc h rfl ?_ ?_ <;> intro _ h
 refine Wn (Ns (Ps (Ct (Pk (Nc (Ns (Ps (Pb (Ps ?_)))))))))
 refine Pr rfl ?_
 refine w_idx h rfl elem194 szg198 (fun _ => rfl) rfl rfl (fun t77 h => ?_)
 refine w_load_d (d := (TNextT.enc t77)) szg198 rfl rfl ?_
 refine alloc_z rfl zero198 hH (fun b7783 H' n' hH => ?_)
 refine w_store_b (new := (TNextT.av t77)) rfl szg198 hH (i := 0) rfl rfl rfl rfl rfl (Nat.le_of_ble_eq_true rfl) (fun H' hH => ?_)
 refine Wn (Ns (Ps (p_calm rfl (by kernel_rfl) (Fb fo198_0 (by decide) rfl 0 rfl (Lb szg3 hH (i := 0) rfl rfl rfl (w_move_v (.pt be0 0) rfl rfl (Wq rfl (Fb fo95_6 (by decide) rfl 7 rfl (Lb szg93 hH (i := 1) rfl rfl rfl ?_)))))))))
 refine w_len_d elem93 rfl (Wb rfl ?_)
 refine w_scal (E := eB) h rfl sig113 (sc rfl (sc rfl (sc rfl (sn)))) (fun y hy => c_in_ok _ _ _ y hy) (fun _ => rfl) (fun t87 h => ?_)
 revert h; cases t87 <;> intro h
 replace h := if0 h
 refine w_un rfl rfl (Wm rfl (Wk (Wk (Wk (Wk (Wt rfl rfl (Wm rfl (Wk (Wk ?_)))))))))
 refine Wk (Wk (Wk (Wk (Wk (Wt rfl rfl (Wn (Ns (Ct (Ps ?_)))))))))
 refine Pr rfl (Wa rfl (Wn (Ns ?_)))
 refine Pt (Cr ?_)
 cases h
 exact prF (.inl rfl) (ra_tmp (.d (.bool false)) rfl (ra_nil)) ⟨rfl, (hH.selG 2 [1] (by decide) (by decide) (gc rfl (gt rfl)))⟩
 replace h := if1 h
 refine w_un rfl rfl (Wm rfl (Fb fo198_0 (by decide) rfl 0 rfl (Lb szg3 hH (i := 0) rfl rfl rfl (Wm rfl ?_))))
 refine Wc h rfl ?_ ?_ <;> intro _ h
 refine Wf rfl rfl (Wm rfl (Wk (Wk (Wk (Wk (Wk (Wk (Wk (Wt rfl rfl ?_)))))))))
 refine Wn (Ns (Ct (Ps (Pr rfl (Wa rfl (Wn (Ns ?_)))))))
 refine Pt (Cr ?_)
 cases h
 exact prF (.inl rfl) (ra_tmp (.d (.bool false)) rfl (ra_nil)) ⟨rfl, (hH.selG 2 [1] (by decide) (by decide) (gc rfl (gt rfl)))⟩
 refine Wf rfl rfl (Wm rfl (w_move_v (.pt be0 0) rfl rfl (Wq rfl (w_load_b (v := .agg (TypedT.av t)) rfl szg95 hH (i := 1) rfl rfl rfl (Fb fo198_1 (by decide) rfl 1 rfl (Lb szg22 hH (i := 0) rfl rfl rfl ?_))))))
 refine w_scal (E := eB) h rfl sig51 (sc rfl (sc rfl (sc rfl (sn)))) (fun y hy => c_SoundExpr_ok _ _ _ y hy) (fun _ => rfl) (fun t101 h => ?_)
 revert h; cases t101 <;> intro h
 replace h := if0 h
 refine w_un rfl rfl (Wf rfl rfl (Wn (Ns (Ct (Ps (Pr rfl (Wa rfl (Wn (Ns ?_)))))))))
 refine Pt (Cr ?_)
 cases h
 exact prF (.inl rfl) (ra_tmp (.d (.bool false)) rfl (ra_nil)) ⟨rfl, (hH.selG 2 [1] (by decide) (by decide) (gc rfl (gt rfl)))⟩
 replace h := if1 h
 refine w_un rfl rfl (Wf rfl rfl (Wn (Ns (Cf (Pk (Nb (Nb (Nb (Nk ?_)))))))))
 refine Ns (Pr rfl (Wb rfl (Wm rfl (Wn (Nb (Nb (Nb (Nl ?_))))))))
 exact jm 0 (jm 1 (jm 73 (jm 74 (jm 75 (ih_c_soundStage_L3 _ _ h _ _ _ _ _ (hH.selG 2 [1] (by decide) (by decide) (gc rfl (gt rfl))))))))
 refine Wn (Ns (Ps (Cf (Px rfl (Nb (Xs (Nb (Xl (Xb ?_)))))))))
 refine Nb (Ns (Ps (Pr rfl (Wa rfl (Wn (Ns ?_))))))
 refine Pt (Cr ?_)
 cases h
 exact prF (.inl rfl) (ra_tmp (.d (.bool true)) rfl (ra_nil)) ⟨rfl, hH⟩
theorem c_soundStage_k2_ok (t : TypedT) (i : Int) (s_ : TStageT) (r : Bool × TypedT) (h : c_soundStage_k2 t i s_ = some r) (b1 be0 L g H n) (hH : HP H n (.box be0 (TypedT.av t) :: .box b1 (TStageT.av s_) :: L)) : PAt C (bodyOf Tryd.f117) (.b (.b (.b (.b .o)))) ⟨upd (upd (upd g 0 (.pt be0 0)) 1 (.d (.int .i64 i))) 5 (.pt b1 0), H, n⟩ (PostR C Tryd.f117 (fun rs H' n' => rs = [.d (.bool r.1)] ∧ HP H' n' (.box be0 (TypedT.av r.2) :: L))) := by
 refine Ps (Ps (Pr rfl (w_move_v (.pt be0 0) rfl rfl (Fb fo196_3 (by decide) rfl 3 rfl (Lb szg58 hH (i := 1) rfl rfl rfl ?_)))))
 refine w_raw [.pt be0 0, .d (.lst (s_.Enter.map StmtT.enc))] h rfl rfl sig176 rfl (fun y hy => c_soundList_ok _ _ y hy be0 _ _ (.box b1 (TStageT.av s_) :: L) hH) (fun t56 rs H' n' h hP => ?_)
 obtain ⟨rfl, hH⟩ := hP
 refine w_split (b := (!t56.1)) h rfl (o_un rfl rfl) rfl (fun _ => ⟨rfl, rfl⟩) (fun _ h => ?_) (fun _ h => ?_)
 refine Wm rfl (Wk (Wk (Wk (Wk (Wk (Wt rfl rfl (Wm rfl (Wk (Wk ?_)))))))))
 refine Wk (Wk (Wk (Wt rfl rfl (Wn (Ns (Ct (Ps (Pr rfl (Wa rfl ?_)))))))))
 refine Wn (Ns ?_)
 refine Pt (Cr ?_)
 cases h
 exact prF (.inl rfl) (ra_tmp (.d (.bool false)) rfl (ra_nil)) ⟨rfl, (hH.selG 2 [0] (by decide) (by decide) (gc rfl (gt rfl)))⟩
 refine Wm rfl (w_move_v (.pt be0 0) rfl rfl (Fb fo196_4 (by decide) rfl 4 rfl (Lb szg58 hH (i := 1) rfl rfl rfl ?_)))
 refine w_raw [.pt be0 0, .d (.lst (s_.During.map StmtT.enc))] h rfl rfl sig176 rfl (fun y hy => c_soundList_ok _ _ y hy be0 _ _ (.box b1 (TStageT.av s_) :: L) hH) (fun t62 rs H' n' h hP => ?_)
 obtain ⟨rfl, hH⟩ := hP
 refine w_split (b := (!t62.1)) h rfl (o_un rfl rfl) rfl (fun _ => ⟨rfl, rfl⟩) (fun _ h => ?_) (fun _ h => ?_)
 refine Wf rfl rfl (Wm rfl (Wk (Wk (Wk (Wk (Wk (Wt rfl rfl (Wn (Ns ?_)))))))))
 refine Ct (Ps (Pr rfl (Wa rfl (Wn (Ns ?_)))))
 refine Pt (Cr ?_)
 cases h
 exact prF (.inl rfl) (ra_tmp (.d (.bool false)) rfl (ra_nil)) ⟨rfl, (hH.selG 2 [0] (by decide) (by decide) (gc rfl (gt rfl)))⟩
 refine Wf rfl rfl (Wm rfl (w_move_v (.pt be0 0) rfl rfl (Fb fo196_5 (by decide) rfl 5 rfl (Lb szg58 hH (i := 1) rfl rfl rfl ?_))))
 refine w_raw [.pt be0 0, .d (.lst (s_.Leave.map StmtT.enc))] h rfl rfl sig176 rfl (fun y hy => c_soundList_ok _ _ y hy be0 _ _ (.box b1 (TStageT.av s_) :: L) hH) (fun t69 rs H' n' h hP => ?_)
 obtain ⟨rfl, hH⟩ := hP
 refine w_split (b := (!t69.1)) h rfl (o_un rfl rfl) rfl (fun _ => ⟨rfl, rfl⟩) (fun _ h => ?_) (fun _ h => ?_)
 refine Wf rfl rfl (Wn (Ns (Ct (Ps (Pr rfl (Wa rfl (Wn (Ns ?_))))))))
 refine Pt (Cr ?_)
 cases h
 exact prF (.inl rfl) (ra_tmp (.d (.bool false)) rfl (ra_nil)) ⟨rfl, (hH.selG 2 [0] (by decide) (by decide) (gc rfl (gt rfl)))⟩
 refine Wf rfl rfl (Wn (Ns (Cf (Pk (Nb (Nb (Ns (Ps (Ps ?_)))))))))
 refine Pr rfl (Fb fo196_6 (by decide) rfl 6 rfl (Lb szg194 hH (i := 1) rfl rfl rfl (w_len_d elem194 rfl (Wm rfl (Wn (Ns (Pb ?_)))))))
 exact jm 0 (jm 1 (jm 73 (jm 74 (jm 75 (c_soundStage_L3_ok _ _ _ _ _ _ h _ _ _ _ _ (hH.selG 2 [0] (by decide) (by decide) (gc rfl (gt rfl))))))))
theorem c_soundStage_k1_ok (t : TypedT) (i : Int) (s_ : TStageT) (r : Bool × TypedT) (h : c_soundStage_k1 t i s_ = some r) (b1 be0 L g H n) (hH : HP H n (.box be0 (TypedT.av t) :: .box b1 (TStageT.av s_) :: L)) : PAt C (bodyOf Tryd.f117) (.b (.b (.b .o))) ⟨upd (upd (upd g 0 (.pt be0 0)) 1 (.d (.int .i64 i))) 5 (.pt b1 0), H, n⟩ (PostR C Tryd.f117 (fun rs H' n' => rs = [.d (.bool r.1)] ∧ HP H' n' (.box be0 (TypedT.av r.2) :: L))) := by
 refine Ps (Ps (Pr rfl (w_move_v (.pt be0 0) rfl rfl (Wq rfl (Fb fo95_1 (by decide) rfl 1 rfl (Fb fo89_0 (by decide) rfl 1 rfl (Lb szg86 hH (i := 0) rfl rfl rfl (w_len_d elem86 rfl (Wa rfl ?_)))))))))
 refine Wn (Ns (Ps (Pr rfl (Wm rfl ?_))))
 refine Wc h rfl ?_ ?_ <;> intro _ h
 refine Wm rfl (Fb fo196_2 (by decide) rfl 2 rfl (Lb szg138 hH (i := 1) rfl rfl rfl (Wm rfl ?_)))
 refine w_shr h rfl rfl rfl (fun t50 h => ?_)
 refine Wd h rfl ?_ ?_ <;> intro _ h
 refine Wt rfl rfl (Wn (Ns (Cf (Pk (Nb (Nb (Nb (Ns ?_))))))))
 exact jm 0 (jm 1 (jm 5 (c_soundStage_k2_ok _ _ _ _ h b1 _ _ _ _ _ hH)))
 refine Wt rfl rfl (Wn (Ns (Ct (Ps (Pr rfl (Wa rfl (Wn (Ns ?_))))))))
 refine Pt (Cr ?_)
 cases h
 exact prF (.inl rfl) (ra_tmp (.d (.bool false)) rfl (ra_nil)) ⟨rfl, (hH.selG 2 [0] (by decide) (by decide) (gc rfl (gt rfl)))⟩
 refine Wm rfl (Wk (Wk (Wk (Wk (Wk (Wf rfl rfl (Wn (Ns (Cf ?_)))))))))
 refine Pk (Nb (Nb (Nb (Ns ?_))))
 exact jm 0 (jm 1 (jm 5 (c_soundStage_k2_ok _ _ _ _ h b1 _ _ _ _ _ hH)))
theorem c_soundStage_ok (t : TypedT) (i : Int) (r : Bool × TypedT) (h : c_soundStage t i = some r) (be0 : Nat) (H : Hs) (n : Nat) (L : List Jv.Item) (hH : HP H n (.box be0 (TypedT.av t) :: L)) : Raw C 117 [.pt be0 0, .d (.int .i64 i)] H n (fun rs H' n' => rs = [.d (.bool r.1)] ∧ HP H' n' (.box be0 (TypedT.av r.2) :: L)) := by
 refine raw_at fn117 rfl (jmp 0 (.pt be0 0) rfl (jmp 1 (.d (.int .i64 i)) rfl (Ps (Pr rfl (Wa rfl (Wn (Ns (Ps (Pr rfl ?_)))))))))
 refine w_move_v (.pt be0 0) rfl rfl (Wq rfl (Fb fo95_6 (by decide) rfl 7 rfl (Lb szg93 hH (i := 0) rfl rfl rfl (Wm rfl ?_))))
 refine w_idx h rfl elem93 szg196 (fun _ => rfl) rfl rfl (fun t14 h => ?_)
 refine w_load_d (d := (TStageT.enc t14)) szg196 rfl rfl ?_
 refine alloc_z rfl zero196 hH (fun b7779 H' n' hH => ?_)
 refine w_store_b (new := (TStageT.av t14)) rfl szg196 hH (i := 0) rfl rfl rfl rfl rfl (Nat.le_of_ble_eq_true rfl) (fun H' hH => ?_)
 refine Wn (Ns (Ps (Ps (p_calm rfl (by kernel_rfl) (Fb fo196_1 (by decide) rfl 1 rfl (Lb szg3 hH (i := 0) rfl rfl rfl ?_))))))
 refine w_scal (E := eB) h rfl sig113 (sc rfl (sc rfl (sc rfl (sn)))) (fun y hy => c_in_ok _ _ _ y hy) (fun _ => rfl) (fun t18 h => ?_)
 revert h; cases t18 <;> intro h
 replace h := if0 h
 refine w_un rfl rfl (Wm rfl (Wk (Wk (Wk (Wk (Wk (Wk (Wk (Wk ?_)))))))))
 refine Wk (Wk (Wk (Wk (Wk (Wk (Wk (Wk (Wt rfl rfl (Wn ?_)))))))))
 refine Ns (Ct (Ps (Pr rfl (Wa rfl (Wn (Ns ?_))))))
 refine Pt (Cr ?_)
 cases h
 exact prF (.inl rfl) (ra_tmp (.d (.bool false)) rfl (ra_nil)) ⟨rfl, (hH.selG 2 [1] (by decide) (by decide) (gc rfl (gt rfl)))⟩
 replace h := if1 h
 refine w_un rfl rfl (Wm rfl (Wm rfl ?_))
 refine Wc h rfl ?_ ?_ <;> intro _ h
 refine Wm rfl (Fb fo196_1 (by decide) rfl 1 rfl (Lb szg3 hH (i := 0) rfl rfl rfl (w_move_v (.pt be0 0) rfl rfl (Wq rfl (Fb fo95_6 (by decide) rfl 7 rfl (Lb szg93 hH (i := 1) rfl rfl rfl (Wm rfl (Wb rfl ?_))))))))
 refine w_idx h rfl elem93 szg196 (fun _ => rfl) rfl rfl (fun t32 h => ?_)
 refine w_faddr_d rfl fo196_1 (by decide) rfl (w_load_d szg3 rfl rfl ?_)
 refine Wc h rfl ?_ ?_ <;> intro _ h
 refine Wt rfl rfl (Wf rfl rfl (Wn (Ns (Ct (Ps (Pr rfl (Wa rfl (Wn (Ns ?_)))))))))
 refine Pt (Cr ?_)
 cases h
 exact prF (.inl rfl) (ra_tmp (.d (.bool false)) rfl (ra_nil)) ⟨rfl, (hH.selG 2 [1] (by decide) (by decide) (gc rfl (gt rfl)))⟩
 refine Wt rfl rfl (Wf rfl rfl (Wn (Ns (Cf (Pk (Nb (Nb (Ns ?_))))))))
 exact jm 0 (jm 1 (jm 5 (c_soundStage_k1_ok _ _ _ _ h b7779 _ _ _ _ _ (hH.selG 2 [1, 0] (by decide) (by decide) (gc rfl (gc rfl (gt rfl)))))))
 refine Wm rfl (Wk (Wk (Wk (Wk (Wk (Wk (Wk (Wk (Wk ?_)))))))))
 refine Wk (Wk (Wk (Wf rfl rfl (Wf rfl rfl (Wn (Ns (Cf (Pk (Nb ?_)))))))))
 refine Nb (Ns ?_)
 exact jm 0 (jm 1 (jm 5 (c_soundStage_k1_ok _ _ _ _ h b7779 _ _ _ _ _ (hH.selG 2 [1, 0] (by decide) (by decide) (gc rfl (gc rfl (gt rfl)))))))
def c_Sound_L2_M (t : TypedT) (stmts : Int) (nexts : Int) (total : Int) (t78 : List TStageT) (t79 : Int) (t80 : Int) (r : Bool) : Prop := ∀ (b0 g H n) (hH : HP H n [.box b0 (TypedT.av t)]), PAt C (bodyOf Tryd.f49) (.a (.b (.a (.b (.b (.b (.b .o))))))) ⟨upd (upd (upd (upd (upd (upd (upd g 1 (.pt b0 0)) 5 (.d (.int .i64 stmts))) 6 (.d (.int .i64 nexts))) 7 (.d (.int .i64 total))) 78 (.d (.lst (t78.map TStageT.enc)))) 79 (.d (.int .i64 t79))) 80 (.d (.int .i64 t80)), H, n⟩ (PostD C Tryd.f49 [(.bool r)])
theorem c_Sound_L2_ok (t : TypedT) (stmts : Int) (nexts : Int) (total : Int) (t78 : List TStageT) (t79 : Int) (t80 : Int) (r : Bool) (h : c_Sound_L2 t stmts nexts total t78 t79 t80 = some r) : c_Sound_L2_M t stmts nexts total t78 t79 t80 r := by
 refine c_Sound_L2.partial_correctness t78 t79 (fun t stmts nexts total t80 r => c_Sound_L2_M t stmts nexts total t78 t79 t80 r) (fun c_Sound_L2 ih_c_Sound_L2 t stmts nexts total t80 r h b0 g H n hH => ?_) t stmts nexts total t80 r h
 refine Po (Ps (Pr rfl ?_))
 refine Wc h rfl ?_ ?_ <;> intro _ h
 refine Wn (Ns (Ps (Ct (Pk (Nc (Ns (Ps (Pb (Ps ?_)))))))))
 refine Pr rfl (Wm rfl ?_)
 refine w_idx h rfl elem93 szg196 (fun _ => rfl) rfl rfl (fun t83 h => ?_)
 refine w_load_d (d := (TStageT.enc t83)) szg196 rfl rfl ?_
 refine alloc_z rfl zero196 hH (fun b7792 H' n' hH => ?_)
 refine Wa rfl ?_
 refine w_store_b (new := (TStageT.av t83)) rfl szg196 hH (i := 0) rfl rfl rfl rfl rfl (Nat.le_of_ble_eq_true rfl) (fun H' hH => ?_)
 refine Wn (Ns (Ps (Pr rfl (Wm rfl (Fb fo196_3 (by decide) rfl 3 rfl (Lb szg58 hH (i := 0) rfl rfl rfl (w_len_d elem58 rfl (Fb fo196_4 (by decide) rfl 4 rfl (Lb szg58 hH (i := 0) rfl rfl rfl ?_)))))))))
 refine w_len_d elem58 rfl (Wb rfl (Fb fo196_5 (by decide) rfl 5 rfl (Lb szg58 hH (i := 0) rfl rfl rfl (w_len_d elem58 rfl (Wb rfl (Wb rfl (Wa rfl (Wn (Ns ?_)))))))))
 refine Ps (Pr rfl (Wm rfl (Fb fo196_6 (by decide) rfl 6 rfl (Lb szg194 hH (i := 0) rfl rfl rfl (w_len_d elem194 rfl (Wb rfl (Wa rfl (Wn (Ns ?_)))))))))
 refine Ps (Pr rfl (Wm rfl (w_load_b (v := .agg (TStageT.av t83)) rfl szg196 hH (i := 0) rfl rfl rfl ?_)))
 refine w_scal (E := eI) h rfl sig116 (sc rfl (sn)) (fun y hy => c_nodes_ok _ y hy) (fun _ => rfl) (fun t105 h => ?_)
 refine Wb rfl (Wa rfl (Wn (Ns (Ps (Pr rfl (Wm rfl ?_))))))
 refine Wc h rfl ?_ ?_ <;> intro _ h
 refine Wm rfl (Wk (Wk (Wt rfl rfl (Wm rfl (Wk (Wk (Wt rfl rfl (Wm rfl (Wk ?_)))))))))
 refine Wk (Wk (Wt rfl rfl (Wn (Ns (Ct (Ps (Pr rfl (Wa rfl (Wn ?_)))))))))
 refine Ns ?_
 cases h; exact Pq rfl rfl
 refine Wm rfl (Wm rfl ?_)
 refine Wc h rfl ?_ ?_ <;> intro _ h
 refine Wf rfl rfl (Wm rfl (Wk (Wk (Wt rfl rfl (Wm rfl (Wk (Wk (Wk (Wt rfl rfl ?_)))))))))
 refine Wn (Ns (Ct (Ps (Pr rfl (Wa rfl (Wn (Ns ?_)))))))
 cases h; exact Pq rfl rfl
 refine Wf rfl rfl (Wm rfl (Wm rfl ?_))
 refine Wc h rfl ?_ ?_ <;> intro _ h
 refine Wf rfl rfl (Wm rfl (Wk (Wk (Wk (Wt rfl rfl (Wn (Ns (Ct (Ps ?_)))))))))
 refine Pr rfl (Wa rfl (Wn (Ns ?_)))
 cases h; exact Pq rfl rfl
 refine Wf rfl rfl (Wm rfl (Wm rfl ?_))
 refine w_raw [.pt b0 0, .d (.int .i64 t80)] h rfl rfl sig117 rfl (fun y hy => c_soundStage_ok _ _ y hy b0 _ _ ([.box b7792 (TStageT.av t83)]) (hH.selG 2 [1, 0] (by decide) (by decide) (gc rfl (gc rfl (gt rfl))))) (fun t119 rs H' n' h hP => ?_)
 obtain ⟨rfl, hH⟩ := hP
 refine w_split (b := (!t119.1)) h rfl (o_un rfl rfl) rfl (fun _ => ⟨rfl, rfl⟩) (fun _ h => ?_) (fun _ h => ?_)
 refine Wf rfl rfl (Wn (Ns (Ct (Ps (Pr rfl (Wa rfl (Wn (Ns ?_))))))))
 cases h; exact Pq rfl rfl
 refine Wf rfl rfl (Wn (Ns (Cf (Pk (Nb (Nb (Nb (Nb (Nb ?_)))))))))
 refine Nb (Nk (Ns (Pr rfl (Wb rfl (Wm rfl (Wn (Nb (Nb (Nb ?_)))))))))
 refine Nl ?_
 exact jm 1 (jm 5 (jm 6 (jm 7 (jm 78 (jm 79 (jm 80 (ih_c_Sound_L2 _ _ _ _ _ _ h b0 _ _ _ (hH.selG 2 [0] (by decide) (by decide) (gc rfl (gt rfl))))))))))
 refine Wn (Ns (Ps (Cf (Px rfl (Nb (Xs (Nb (Xl (Xb ?_)))))))))
 refine Nb (Ns (Ps (Pr rfl (Wa rfl (Wn (Ns ?_))))))
 cases h; exact Pq rfl rfl
def c_Sound_L1_M (t : TypedT) (t60 : List DetT) (t61 : Int) (t62 : Int) (r : Bool) : Prop := ∀ (b0 g H n) (hH : HP H n [.box b0 (TypedT.av t)]), PAt C (bodyOf Tryd.f49) (.a (.b (.a (.b (.b .o))))) ⟨upd (upd (upd (upd g 1 (.pt b0 0)) 60 (.d (.lst (t60.map DetT.enc)))) 61 (.d (.int .i64 t61))) 62 (.d (.int .i64 t62)), H, n⟩ (PostD C Tryd.f49 [(.bool r)])
theorem c_Sound_L1_ok (t : TypedT) (t60 : List DetT) (t61 : Int) (t62 : Int) (r : Bool) (h : c_Sound_L1 t t60 t61 t62 = some r) : c_Sound_L1_M t t60 t61 t62 r := by
 refine c_Sound_L1.partial_correctness t t60 t61 (fun t62 r => c_Sound_L1_M t t60 t61 t62 r) (fun c_Sound_L1 ih_c_Sound_L1 t62 r h b0 g H n hH => ?_) t62 r h
 refine Po (Ps (Pr rfl ?_))
 refine Wc h rfl ?_ ?_ <;> intro _ h
 refine Wn (Ns (Ps (Ct (Pk (Nc (Ns (Ps (Pb (Ps ?_)))))))))
 refine Pr rfl ?_
 refine w_idx h rfl elem90 szg207 (fun _ => rfl) rfl rfl (fun t64 h => ?_)
 refine w_load_d (d := (DetT.enc t64)) szg207 rfl rfl ?_
 refine alloc_z rfl zero207 hH (fun b7791 H' n' hH => ?_)
 refine w_store_b (new := (DetT.av t64)) rfl szg207 hH (i := 0) rfl rfl rfl rfl rfl (Nat.le_of_ble_eq_true rfl) (fun H' hH => ?_)
 refine Wn (Ns (Ps (Pr rfl (Fb fo207_2 (by decide) rfl 2 rfl (Lb szg3 hH (i := 0) rfl rfl rfl ?_)))))
 refine w_scal (E := eB) h rfl sig113 (sc rfl (sc rfl (sc rfl (sn)))) (fun y hy => c_in_ok _ _ _ y hy) (fun _ => rfl) (fun t68 h => ?_)
 revert h; cases t68 <;> intro h
 replace h := if0 h
 refine w_un rfl rfl (Wm rfl (Wk (Wk (Wk (Wk (Wt rfl rfl (Wn (Ns (Ct ?_)))))))))
 refine Ps (Pr rfl (Wa rfl (Wn (Ns ?_))))
 cases h; exact Pq rfl rfl
 replace h := if1 h
 refine w_un rfl rfl (Wm rfl (Fb fo207_3 (by decide) rfl 3 rfl (Lb szg3 hH (i := 0) rfl rfl rfl ?_)))
 refine w_scal (E := eB) h rfl sig113 (sc rfl (sc rfl (sc rfl (sn)))) (fun y hy => c_in_ok _ _ _ y hy) (fun _ => rfl) (fun t73 h => ?_)
 revert h; cases t73 <;> intro h
 replace h := if0 h
 refine w_un rfl rfl (Wf rfl rfl (Wn (Ns (Ct (Ps (Pr rfl (Wa rfl (Wn (Ns ?_)))))))))
 cases h; exact Pq rfl rfl
 replace h := if1 h
 refine w_un rfl rfl (Wf rfl rfl (Wn (Ns (Cf (Pk (Nb (Nb (Nb (Nk ?_)))))))))
 refine Ns (Pr rfl (Wb rfl (Wm rfl (Wn (Nb (Nb (Nb (Nl ?_))))))))
 exact jm 1 (jm 60 (jm 61 (jm 62 (ih_c_Sound_L1 _ _ h b0 _ _ _ (hH.selG 2 [1] (by decide) (by decide) (gc rfl (gt rfl)))))))
 refine Wn (Ns (Ps (Cf (Px rfl (Nb (Xs (Nb (Xl (Xb ?_)))))))))
 refine Nb (Ns (Ps (Pr rfl (Wa rfl (Wa rfl (Wa rfl (Wn (Ns (Ps ?_)))))))))
 refine Ps (Pr rfl (Fb fo95_6 (by decide) rfl 7 rfl (Lb szg93 hH (i := 0) rfl rfl rfl (w_len_d elem93 rfl (Wm rfl (Wn (Ns (Pb ?_))))))))
 exact jm 1 (jm 5 (jm 6 (jm 7 (jm 78 (jm 79 (jm 80 (c_Sound_L2_ok _ _ _ _ _ _ _ _ h b0 _ _ _ hH)))))))
theorem c_Sound_ok (t : TypedT) (r : Bool) (h : c_Sound t = some r) : callD C 49 [(TypedT.enc t)] = some [(.bool r)] := by
 refine callD_at (ext0 _ _ rfl) fn49 rfl (jmp 0 (.d (TypedT.enc t)) rfl (Ps (Pr rfl ?_)))
 refine w_box (cs := (TypedT.av t)) rfl szg95 rfl rfl rfl (HP.nil _ _) (fun b7789 H' n' hH => ?_)
 refine Wa rfl (Wn (Ns (Ps (Ps (Pr rfl (Fb fo95_1 (by decide) rfl 1 rfl (w_load_b (v := .agg (TablesT.av t.Tables)) rfl szg89 hH (i := 0) rfl rfl rfl ?_)))))))
 refine w_scal (E := eB) h rfl sig47 (sc rfl (sn)) (fun y hy => c_Grid_ok _ y hy) (fun _ => rfl) (fun t12 h => ?_)
 revert h; cases t12 <;> intro h
 replace h := if0 h
 refine w_un rfl rfl (Wm rfl (Wk (Wk (Wk (Wk (Wt rfl rfl (Wm rfl (Wk (Wk ?_)))))))))
 refine Wk (Wk (Wt rfl rfl (Wm rfl (Wk (Wk (Wk (Wk (Wt rfl rfl (Wm rfl ?_)))))))))
 refine Wk (Wk (Wk (Wk (Wt rfl rfl (Wm rfl (Wk (Wk (Wk (Wk ?_)))))))))
 refine Wk (Wt rfl rfl (Wm rfl (Wk (Wk (Wk (Wk (Wk (Wk (Wk ?_)))))))))
 refine Wk (Wt rfl rfl (Wm rfl (Wk (Wk (Wt rfl rfl (Wn (Ns (Ct (Ps ?_)))))))))
 refine Pr rfl (Wa rfl (Wn (Ns ?_)))
 cases h; exact Pq rfl rfl
 replace h := if1 h
 refine w_un rfl rfl (Wm rfl (Fb fo95_2 (by decide) rfl 3 rfl (Lb szg90 hH (i := 0) rfl rfl rfl (w_len_d elem90 rfl ?_))))
 refine Wc h rfl ?_ ?_ <;> intro _ h
 refine Wf rfl rfl (Wm rfl (Wk (Wk (Wk (Wk (Wt rfl rfl (Wm rfl (Wk (Wk ?_)))))))))
 refine Wk (Wk (Wt rfl rfl (Wm rfl (Wk (Wk (Wk (Wk (Wt rfl rfl (Wm rfl ?_)))))))))
 refine Wk (Wk (Wk (Wk (Wk (Wt rfl rfl (Wm rfl (Wk (Wk (Wk ?_)))))))))
 refine Wk (Wk (Wk (Wk (Wk (Wt rfl rfl (Wm rfl (Wk (Wk (Wt rfl rfl ?_)))))))))
 refine Wn (Ns (Ct (Ps (Pr rfl (Wa rfl (Wn (Ns ?_)))))))
 cases h; exact Pq rfl rfl
 refine Wf rfl rfl (Wm rfl (Fb fo95_3 (by decide) rfl 4 rfl (Lb szg91 hH (i := 0) rfl rfl rfl (w_len_d elem91 rfl ?_))))
 refine Wc h rfl ?_ ?_ <;> intro _ h
 refine Wf rfl rfl (Wm rfl (Wk (Wk (Wk (Wk (Wt rfl rfl (Wm rfl (Wk (Wk ?_)))))))))
 refine Wk (Wk (Wt rfl rfl (Wm rfl (Wk (Wk (Wk (Wk (Wk (Wt rfl rfl ?_)))))))))
 refine Wm rfl (Wk (Wk (Wk (Wk (Wk (Wk (Wk (Wk (Wt rfl rfl ?_)))))))))
 refine Wm rfl (Wk (Wk (Wt rfl rfl (Wn (Ns (Ct (Ps (Pr rfl (Wa rfl ?_)))))))))
 refine Wn (Ns ?_)
 cases h; exact Pq rfl rfl
 refine Wf rfl rfl (Wm rfl (Fb fo95_4 (by decide) rfl 5 rfl (Lb szg91 hH (i := 0) rfl rfl rfl (w_len_d elem91 rfl ?_))))
 refine Wc h rfl ?_ ?_ <;> intro _ h
 refine Wf rfl rfl (Wm rfl (Wk (Wk (Wk (Wk (Wt rfl rfl (Wm rfl (Wk (Wk ?_)))))))))
 refine Wk (Wk (Wk (Wt rfl rfl (Wm rfl (Wk (Wk (Wk (Wk (Wk ?_)))))))))
 refine Wk (Wk (Wk (Wt rfl rfl (Wm rfl (Wk (Wk (Wt rfl rfl (Wn (Ns ?_)))))))))
 refine Ct (Ps (Pr rfl (Wa rfl (Wn (Ns ?_)))))
 cases h; exact Pq rfl rfl
 refine Wf rfl rfl (Wm rfl (Fb fo95_5 (by decide) rfl 6 rfl (Lb szg92 hH (i := 0) rfl rfl rfl (w_len_d elem92 rfl ?_))))
 refine Wc h rfl ?_ ?_ <;> intro _ h
 refine Wf rfl rfl (Wm rfl (Wk (Wk (Wk (Wk (Wk (Wt rfl rfl (Wm rfl (Wk ?_)))))))))
 refine Wk (Wk (Wk (Wk (Wk (Wk (Wk (Wt rfl rfl (Wm rfl (Wk ?_)))))))))
 refine Wk (Wt rfl rfl (Wn (Ns (Ct (Ps (Pr rfl (Wa rfl (Wn (Ns ?_)))))))))
 cases h; exact Pq rfl rfl
 refine Wf rfl rfl (Wm rfl (Fb fo95_6 (by decide) rfl 7 rfl (Lb szg93 hH (i := 0) rfl rfl rfl (w_len_d elem93 rfl ?_))))
 refine w_scal (E := eB) h rfl sig113 (sc rfl (sc rfl (sc rfl (sn)))) (fun y hy => c_in_ok _ _ _ y hy) (fun _ => rfl) (fun t42 h => ?_)
 revert h; cases t42 <;> intro h
 replace h := if0 h
 refine w_un rfl rfl (Wf rfl rfl (Wm rfl (Wk (Wk (Wk (Wk (Wk (Wk (Wk ?_)))))))))
 refine Wk (Wt rfl rfl (Wm rfl (Wk (Wk (Wt rfl rfl (Wn (Ns (Ct (Ps ?_)))))))))
 refine Pr rfl (Wa rfl (Wn (Ns ?_)))
 cases h; exact Pq rfl rfl
 replace h := if1 h
 refine w_un rfl rfl (Wf rfl rfl (Wm rfl (Fb fo95_7 (by decide) rfl 8 rfl (Lb szg3 hH (i := 0) rfl rfl rfl (Fb fo95_6 (by decide) rfl 7 rfl (Lb szg93 hH (i := 0) rfl rfl rfl (w_len_d elem93 rfl (Wb rfl ?_))))))))
 refine w_scal (E := eB) h rfl sig113 (sc rfl (sc rfl (sc rfl (sn)))) (fun y hy => c_in_ok _ _ _ y hy) (fun _ => rfl) (fun t52 h => ?_)
 revert h; cases t52 <;> intro h
 replace h := if0 h
 refine w_un rfl rfl (Wf rfl rfl (Wm rfl (Wk (Wk (Wt rfl rfl (Wn (Ns (Ct (Ps ?_)))))))))
 refine Pr rfl (Wa rfl (Wn (Ns ?_)))
 cases h; exact Pq rfl rfl
 replace h := if1 h
 refine w_un rfl rfl (Wf rfl rfl (Wm rfl ?_))
 refine w_raw [.pt b7789 0] h rfl rfl sig115 rfl (fun y hy => c_named_ok _ y hy b7789 _ _ ([]) hH) (fun t56 rs H' n' h hP => ?_)
 obtain ⟨rfl, hH⟩ := hP
 refine w_split (b := (!t56.1)) h rfl (o_un rfl rfl) rfl (fun _ => ⟨rfl, rfl⟩) (fun _ h => ?_) (fun _ h => ?_)
 refine Wf rfl rfl (Wn (Ns (Ct (Ps (Pr rfl (Wa rfl (Wn (Ns ?_))))))))
 cases h; exact Pq rfl rfl
 refine Wf rfl rfl (Wn (Ns (Cf (Pk (Nb (Nb (Ns (Ps (Ps ?_)))))))))
 refine Pr rfl (Fb fo95_2 (by decide) rfl 3 rfl (Lb szg90 hH (i := 0) rfl rfl rfl (w_len_d elem90 rfl (Wm rfl (Wn (Ns (Pb ?_)))))))
 exact jm 1 (jm 60 (jm 61 (jm 62 (c_Sound_L1_ok _ _ _ _ _ h b7789 _ _ _ hH))))
theorem r2_letter_ok (c : Int) (r : Bool) (h : r2_letter c = some r) : callD C 199 [(.int .u8 c)] = some [(.bool r)] := by
 refine callD_at (ext0 _ _ rfl) fn199 rfl (jmp 0 (.d (.int .u8 c)) rfl (Ps (Pr rfl (Wa rfl (Wn (Ns (Ps (Pr rfl (Wm rfl ?_)))))))))
 refine Wc h rfl ?_ ?_ <;> intro _ h
 refine Wm rfl (Wm rfl ?_)
 refine Wc h rfl ?_ ?_ <;> intro _ h
 refine Wt rfl rfl (Wm rfl (Wk (Wk (Wk (Wk (Wk (Wk (Wt rfl rfl (Wa rfl ?_)))))))))
 refine Wn (Ns ?_)
 cases h; exact Pq rfl rfl
 refine Wt rfl rfl (Wm rfl (Wm rfl ?_))
 refine Wc h rfl ?_ ?_ <;> intro _ h
 refine Wm rfl (Wm rfl (Wb rfl (Wt rfl rfl (Wf rfl rfl (Wa rfl (Wn (Ns ?_)))))))
 cases h; exact Pq rfl rfl
 refine Wm rfl (Wk (Wk (Wf rfl rfl (Wf rfl rfl (Wa rfl (Wn (Ns ?_)))))))
 cases h; exact Pq rfl rfl
 refine Wm rfl (Wk (Wk (Wf rfl rfl (Wm rfl (Wm rfl ?_)))))
 refine Wc h rfl ?_ ?_ <;> intro _ h
 refine Wm rfl (Wm rfl (Wb rfl (Wt rfl rfl (Wf rfl rfl (Wa rfl (Wn (Ns ?_)))))))
 cases h; exact Pq rfl rfl
 refine Wm rfl (Wk (Wk (Wf rfl rfl (Wf rfl rfl (Wa rfl (Wn (Ns ?_)))))))
 cases h; exact Pq rfl rfl
theorem r2_digit_ok (c : Int) (r : Bool) (h : r2_digit c = some r) : callD C 246 [(.int .u8 c)] = some [(.bool r)] := by
 refine callD_at (ext0 _ _ rfl) fn246 rfl (jmp 0 (.d (.int .u8 c)) rfl (Ps (Pr rfl (Wa rfl (Wn (Ns (Ps (Pr rfl (Wm rfl ?_)))))))))
 refine Wc h rfl ?_ ?_ <;> intro _ h
 refine Wm rfl (Wm rfl (Wb rfl (Wt rfl rfl (Wa rfl (Wn (Ns ?_))))))
 cases h; exact Pq rfl rfl
 refine Wm rfl (Wk (Wk (Wf rfl rfl (Wa rfl (Wn (Ns ?_))))))
 cases h; exact Pq rfl rfl
theorem r2_inRun_ok (c : Int) (r : Bool) (h : r2_inRun c = some r) : callD C 236 [(.int .u8 c)] = some [(.bool r)] := by
 refine callD_at (ext0 _ _ rfl) fn236 rfl (jmp 0 (.d (.int .u8 c)) rfl (Ps (Pr rfl (Wa rfl (Wn (Ns (Ps (Pr rfl (Wm rfl ?_)))))))))
 refine w_scal (E := eB) h rfl sig199 (sc rfl (sn)) (fun y hy => r2_letter_ok _ y hy) (fun _ => rfl) (fun t4 h => ?_)
 revert h; cases t4 <;> intro h
 replace h := if0 h
 refine Wm rfl (Wm rfl ?_)
 refine w_scal (E := eB) h rfl sig246 (sc rfl (sn)) (fun y hy => r2_digit_ok _ y hy) (fun _ => rfl) (fun t7 h => ?_)
 revert h; cases t7 <;> intro h
 replace h := if0 h
 refine Wf rfl rfl (Wm rfl (Wm rfl (Wb rfl (Wf rfl rfl (Wa rfl (Wn (Ns ?_)))))))
 cases h; exact Pq rfl rfl
 replace h := if1 h
 refine Wf rfl rfl (Wm rfl (Wk (Wk (Wt rfl rfl (Wa rfl (Wn (Ns ?_)))))))
 cases h; exact Pq rfl rfl
 replace h := if1 h
 refine Wm rfl (Wk (Wk (Wt rfl rfl (Wm rfl (Wk (Wk (Wt rfl rfl (Wa rfl (Wn ?_)))))))))
 refine Ns ?_
 cases h; exact Pq rfl rfl
def r2_runEnd_L1_M (s_ : ByteArray) (i : Int) (r : Int) : Prop := ∀ (g : Nat → AV) (H : Hs) (n : Nat), PAt C (bodyOf Tryd.f198) (.a (.a (.b .o))) ⟨upd (upd g 0 (.d (.str s_))) 1 (.d (.int .i64 i)), H, n⟩ (PostD C Tryd.f198 [(.int .i64 r)])
theorem r2_runEnd_L1_ok (s_ : ByteArray) (i : Int) (r : Int) (h : r2_runEnd_L1 s_ i = some r) : r2_runEnd_L1_M s_ i r := by
 refine r2_runEnd_L1.partial_correctness s_ (fun i r => r2_runEnd_L1_M s_ i r) (fun r2_runEnd_L1 ih_r2_runEnd_L1 i r h g H n => ?_) i r h
 refine Po (Ps (Ps (Pr rfl (Wm rfl (Wm rfl (w_len_s rfl (dsc ty9) rfl ?_))))))
 refine Wc h rfl ?_ ?_ <;> intro _ h
 refine Wm rfl (Wm rfl (Wm rfl ?_))
 refine w_sidx h rfl ty9 rfl rfl (fun t12 h => ?_)
 refine w_scal (E := eB) h rfl sig236 (sc rfl (sn)) (fun y hy => r2_inRun_ok _ y hy) (fun _ => rfl) (fun t13 h => ?_)
 revert h; cases t13 <;> intro h
 replace h := if0 h
 refine Wt rfl rfl (Wn (Ns (Cf (Px rfl (Nb (Nb (Xs (Xl (Xb ?_)))))))))
 refine Ns (Ps (Pr rfl (Wm rfl (Wa rfl (Wn (Ns ?_))))))
 cases h; exact Pq rfl rfl
 replace h := if1 h
 refine Wt rfl rfl (Wn (Ns (Ct (Pk (Nc (Nb (Ns (Pb (Pr rfl ?_)))))))))
 refine Wm rfl (Wb rfl (Wa rfl (Wn (Nk (Nb (Nl ?_))))))
 exact jm 0 (jm 1 (ih_r2_runEnd_L1 _ _ h _ _ _))
 refine Wm rfl (Wk (Wk (Wk (Wk (Wf rfl rfl (Wn (Ns (Cf (Px rfl ?_)))))))))
 refine Nb (Nb (Xs (Xl (Xb (Ns (Ps (Pr rfl (Wm rfl (Wa rfl ?_)))))))))
 refine Wn (Ns ?_)
 cases h; exact Pq rfl rfl
theorem r2_runEnd_ok (s_ : ByteArray) (i : Int) (r : Int) (h : r2_runEnd s_ i = some r) : callD C 198 [(.str s_), (.int .i64 i)] = some [(.int .i64 r)] := by
 refine callD_at (ext0 _ _ rfl) fn198 rfl (jmp 0 (.d (.str s_)) rfl (jmp 1 (.d (.int .i64 i)) rfl (Ps (Pr rfl (Wa rfl (Wn (Ns (Ps (Pb ?_)))))))))
 exact jm 0 (jm 1 (r2_runEnd_L1_ok _ _ _ h _ _ _))
theorem r2_value_k1_ok (c : Int) (base : Int) (r : Int) (h : r2_value_k1 c base = some r) (g : Nat → AV) (H : Hs) (n : Nat) : PAt C (bodyOf Tryd.f254) (.b (.b (.b .o))) ⟨upd (upd g 0 (.d (.int .u8 c))) 1 (.d (.int .i64 base)), H, n⟩ (PostD C Tryd.f254 [(.int .i64 r)]) := by
 refine Ps (Ps (Pr rfl (Wm rfl ?_)))
 refine Wc h rfl ?_ ?_ <;> intro _ h
 refine Wm rfl (Wm rfl ?_)
 refine Wc h rfl ?_ ?_ <;> intro _ h
 refine Wt rfl rfl (Wm rfl (Wm rfl ?_))
 refine Wc h rfl ?_ ?_ <;> intro _ h
 refine Wt rfl rfl (Wn (Ns (Ct (Ps (Pr rfl (Wm rfl (Wb rfl (w_conv rfl (c_int ty5 ty2) (Wb rfl ?_)))))))))
 refine Wa rfl (Wn (Ns ?_))
 cases h; exact Pq rfl rfl
 refine Wt rfl rfl (Wn (Ns (Cf (Pk (Nb (Nb (Ns (Ps (Pr rfl ?_)))))))))
 refine Wa rfl (Wn (Ns ?_))
 cases h; exact Pq rfl rfl
 refine Wt rfl rfl (Wm rfl (Wk (Wk (Wf rfl rfl (Wn (Ns (Cf (Pk (Nb ?_)))))))))
 refine Nb (Ns (Ps (Pr rfl (Wa rfl (Wn (Ns ?_))))))
 cases h; exact Pq rfl rfl
 refine Wm rfl (Wk (Wk (Wf rfl rfl (Wm rfl (Wk (Wk (Wf rfl rfl (Wn (Ns ?_)))))))))
 refine Cf (Pk (Nb (Nb (Ns (Ps (Pr rfl (Wa rfl (Wn (Ns ?_)))))))))
 cases h; exact Pq rfl rfl
theorem r2_value_ok (c : Int) (base : Int) (r : Int) (h : r2_value c base = some r) : callD C 254 [(.int .u8 c), (.int .i64 base)] = some [(.int .i64 r)] := by
 refine callD_at (ext0 _ _ rfl) fn254 rfl (jmp 0 (.d (.int .u8 c)) rfl (jmp 1 (.d (.int .i64 base)) rfl (Ps (Pr rfl (Wa rfl (Wn (Ns (Ps (Ps ?_)))))))))
 refine Pr rfl (Wm rfl ?_)
 refine w_scal (E := eB) h rfl sig246 (sc rfl (sn)) (fun y hy => r2_digit_ok _ y hy) (fun _ => rfl) (fun t6 h => ?_)
 revert h; cases t6 <;> intro h
 replace h := if0 h
 refine Wn (Ns (Cf (Pk (Nb (Nb (Ns (Ps (Ps (Pr rfl ?_)))))))))
 refine Wm rfl ?_
 refine Wc h rfl ?_ ?_ <;> intro _ h
 refine Wm rfl (Wm rfl ?_)
 refine Wc h rfl ?_ ?_ <;> intro _ h
 refine Wt rfl rfl (Wm rfl (Wm rfl ?_))
 refine Wc h rfl ?_ ?_ <;> intro _ h
 refine Wt rfl rfl (Wn (Ns (Ct (Ps (Pr rfl (Wm rfl (Wb rfl (w_conv rfl (c_int ty5 ty2) (Wb rfl ?_)))))))))
 refine Wa rfl (Wn (Ns ?_))
 cases h; exact Pq rfl rfl
 refine Wt rfl rfl (Wn (Ns (Cf (Pk (Nb (Nb (Ns ?_)))))))
 exact jm 0 (jm 1 (r2_value_k1_ok _ _ _ h _ _ _))
 refine Wt rfl rfl (Wm rfl (Wk (Wk (Wf rfl rfl (Wn (Ns (Cf (Pk (Nb ?_)))))))))
 refine Nb (Ns ?_)
 exact jm 0 (jm 1 (r2_value_k1_ok _ _ _ h _ _ _))
 refine Wm rfl (Wk (Wk (Wf rfl rfl (Wm rfl (Wk (Wk (Wf rfl rfl (Wn (Ns ?_)))))))))
 refine Cf (Pk (Nb (Nb (Ns ?_))))
 exact jm 0 (jm 1 (r2_value_k1_ok _ _ _ h _ _ _))
 replace h := if1 h
 refine Wn (Ns (Ct (Ps (Pr rfl (Wm rfl (Wb rfl (w_conv rfl (c_int ty5 ty2) (Wa rfl (Wn ?_)))))))))
 refine Ns ?_
 cases h; exact Pq rfl rfl
end Go.Proofs.YtdcpfmjnkcodiaaDoor.We
namespace Go.Proofs.YtdcpfmjnkcodiaaDoor.We
open Go Go.Jv
set_option maxHeartbeats 4000000
open Go.Proofs
set_option maxHeartbeats 4000000
def r2_digits_L1_m (wF : ByteArray) (baseF : Int) (gapsF : Bool) : r2_digits_L1_S → (Int × Bool) → Prop := fun st r => match st with
  | .c0 n_ i => ∀ (g : Nat → AV) (H : Hs) (n : Nat), PAt C (bodyOf Tryd.f237) (.a (.b (.a (.b (.b .o))))) ⟨upd (upd (upd (upd (upd g 0 (.d (.str wF))) 1 (.d (.int .i64 baseF))) 2 (.d (.bool gapsF))) 8 (.d (.int .i64 n_))) 9 (.d (.int .i64 i)), H, n⟩ (PostD C Tryd.f237 [(.int .i64 r.1), (.bool r.2)])
  | .c1 n_ i => ∀ (g : Nat → AV) (H : Hs) (n : Nat), PAt C (bodyOf Tryd.f237) (.b (.b (.a (.a (.b (.a (.b (.b .o)))))))) ⟨upd (upd (upd (upd (upd g 0 (.d (.str wF))) 1 (.d (.int .i64 baseF))) 2 (.d (.bool gapsF))) 8 (.d (.int .i64 n_))) 9 (.d (.int .i64 i)), H, n⟩ (PostD C Tryd.f237 [(.int .i64 r.1), (.bool r.2)])
theorem r2_digits_L1_run_ok (wF : ByteArray) (baseF : Int) (gapsF : Bool) (st : r2_digits_L1_S) (r : Int × Bool) (h : r2_digits_L1_run wF baseF gapsF st = some r) : r2_digits_L1_m wF baseF gapsF st r := by
 refine r2_digits_L1_run.partial_correctness wF baseF gapsF (r2_digits_L1_m wF baseF gapsF) (fun r2_digits_L1_run' ih_ st r h => ?_) st r h
 cases st with
 | c0 n_ i =>
  intro g H n
  refine Po (Ps (Ps (Pr rfl (Wm rfl (Wm rfl (w_len_s rfl (dsc ty9) rfl ?_))))))
  refine Wc h rfl ?_ ?_ <;> intro _ h
  refine Wn (Ns (Ct (Pk (Nc (Nb (Ns (Ps (Pb (Ps ?_)))))))))
  refine Ps (Pr rfl (Wm rfl (Wm rfl ?_)))
  refine w_sidx h rfl ty9 rfl rfl (fun t19 h => ?_)
  refine Wc h rfl ?_ ?_ <;> intro _ h
  refine Wn (Ns (Ct (Ps (Ps (Pr rfl (Wm rfl ?_))))))
  refine w_split (b := (!gapsF)) h rfl (o_un rfl rfl) rfl (fun _ => ⟨rfl, rfl⟩) (fun _ h => ?_) (fun _ h => ?_)
  refine Wm rfl (Wk (Wk (Wt rfl rfl (Wm rfl (Wk (Wk (Wk (Wk (Wk ?_)))))))))
  refine Wt rfl rfl (Wm rfl (Wk (Wk (Wk (Wk (Wk (Wt rfl rfl (Wn (Ns ?_)))))))))
  refine Ct (Ps (Pr rfl (Wa rfl (Wa rfl (Wn (Ns ?_))))))
  cases h; exact Pq rfl rfl
  refine Wm rfl (Wm rfl ?_)
  refine Wc h rfl ?_ ?_ <;> intro _ h
  refine Wf rfl rfl (Wm rfl (Wk (Wk (Wk (Wk (Wk (Wt rfl rfl (Wm rfl (Wk ?_)))))))))
  refine Wk (Wk (Wk (Wk (Wt rfl rfl (Wn (Ns (Ct (Ps (Pr rfl ?_)))))))))
  refine Wa rfl (Wa rfl (Wn (Ns ?_)))
  cases h; exact Pq rfl rfl
  refine Wf rfl rfl (Wm rfl (Wm rfl (Wm rfl (w_len_s rfl (dsc ty9) rfl (Wb rfl ?_)))))
  refine Wc h rfl ?_ ?_ <;> intro _ h
  refine Wf rfl rfl (Wm rfl (Wk (Wk (Wk (Wk (Wk (Wt rfl rfl (Wn (Ns ?_)))))))))
  refine Ct (Ps (Pr rfl (Wa rfl (Wa rfl (Wn (Ns ?_))))))
  cases h; exact Pq rfl rfl
  refine Wf rfl rfl (Wm rfl (Wm rfl (Wm rfl (Wb rfl ?_))))
  refine w_sidx h rfl ty9 rfl rfl (fun t38 h => ?_)
  refine Wc h rfl ?_ ?_ <;> intro _ h
  refine Wf rfl rfl (Wn (Ns (Ct (Ps (Pr rfl (Wa rfl (Wa rfl (Wn (Ns ?_)))))))))
  cases h; exact Pq rfl rfl
  refine Wf rfl rfl (Wn (Ns (Cf (Pk (Nb (Nb (Ns (Px rfl (Nb ?_)))))))))
  refine Nc (Nb (Xs (Xb (Ns ?_))))
  exact jm 0 (jm 1 (jm 2 (jm 8 (jm 9 (ih_ (.c1 _ _) _ h _ _ _)))))
  refine Wn (Ns (Cf (Pk (Nb (Nb (Ns (Ps (Pr rfl (Wm rfl ?_)))))))))
  refine Wm rfl ?_
  refine w_sidx h rfl ty9 rfl rfl (fun t43 h => ?_)
  refine Wm rfl ?_
  refine w_scal (E := eI) h rfl sig254 (sc rfl (sc rfl (sn))) (fun y hy => r2_value_ok _ _ y hy) (fun _ => rfl) (fun t45 h => ?_)
  refine Wa rfl (Wn (Ns (Ps (Ps (Pr rfl (Wm rfl ?_))))))
  refine Wc h rfl ?_ ?_ <;> intro _ h
  refine Wn (Ns (Ct (Ps (Pr rfl (Wa rfl (Wa rfl (Wn (Ns ?_))))))))
  cases h; exact Pq rfl rfl
  refine Wn (Ns (Cf (Pk (Nb (Nb (Ns (Ps (Pr rfl (Wm rfl ?_)))))))))
  refine Wm rfl (Wb rfl (Wm rfl (Wb rfl (Wa rfl (Wn (Ns (Ps (Pr rfl (Wm rfl ?_)))))))))
  refine Wc h rfl ?_ ?_ <;> intro _ h
  refine Wn (Ns (Ct (Pr rfl (Wa rfl (Wn (Nc (Nb (Nb (Nb ?_)))))))))
  refine Nb (Nb (Nk (Ns ?_)))
  exact jm 0 (jm 1 (jm 2 (jm 8 (jm 9 (ih_ (.c1 _ _) _ h _ _ _)))))
  refine Wn (Ns (Cf (Pk (Nb (Nb (Nb (Nb (Nb (Nb ?_)))))))))
  refine Nk (Ns ?_)
  exact jm 0 (jm 1 (jm 2 (jm 8 (jm 9 (ih_ (.c1 _ _) _ h _ _ _)))))
  refine Wn (Ns (Cf (Px rfl (Nb (Nb (Xs (Xl (Xb (Nb ?_)))))))))
  refine Ns (Ps (Pr rfl (Wm rfl (Wm rfl (w_len_s rfl (dsc ty9) rfl (Wb rfl (Wa rfl (Wa rfl (Wn ?_)))))))))
  refine Ns ?_
  cases h; exact Pq rfl rfl
 | c1 n_ i =>
  intro g H n
  refine Pr rfl (Wm rfl (Wb rfl (Wa rfl (Wn (Nb (Nb (Nl ?_)))))))
  exact jm 0 (jm 1 (jm 2 (jm 8 (jm 9 (ih_ (.c0 _ _) _ h _ _ _)))))
theorem r2_digits_L1_ok (wF : ByteArray) (baseF : Int) (gapsF : Bool) (n_ : Int) (i : Int) (r : Int × Bool) (h : r2_digits_L1 wF baseF gapsF n_ i = some r) : r2_digits_L1_m wF baseF gapsF (.c0 n_ i) r := r2_digits_L1_run_ok wF baseF gapsF (.c0 n_ i) r h
theorem r2_digits_ok (w : ByteArray) (base : Int) (gaps : Bool) (r : Int × Bool) (h : r2_digits w base gaps = some r) : callD C 237 [(.str w), (.int .i64 base), (.bool gaps)] = some [(.int .i64 r.1), (.bool r.2)] := by
 refine callD_at (ext0 _ _ rfl) fn237 rfl (jmp 0 (.d (.str w)) rfl (jmp 1 (.d (.int .i64 base)) rfl (jmp 2 (.d (.bool gaps)) rfl (Ps (Pr rfl (Wa rfl (Wa rfl (Wn (Ns ?_)))))))))
 refine Ps (Pr rfl (Wa rfl (Wn (Ns (Ps (Ps (Pr rfl (Wa rfl (Wn ?_)))))))))
 refine Ns (Pb ?_)
 exact jm 0 (jm 1 (jm 2 (jm 8 (jm 9 (r2_digits_L1_ok _ _ _ _ _ _ h _ _ _)))))
def r2_duration_L1_m (wF : ByteArray) (unitsF : ByteArray) (worthF : A3 Int) : r2_duration_L1_S → (Int × Bool) → Prop := fun st r => match st with
  | .c0 n_ i k => ∀ (b0 g H n) (hH : HP H n [.box b0 [.d (.int .i64 worthF.e0), .d (.int .i64 worthF.e1), .d (.int .i64 worthF.e2)]]), PAt C (bodyOf Tryd.f238) (.a (.b (.a (.b (.b (.b (.b (.b .o)))))))) ⟨upd (upd (upd (upd (upd (upd g 0 (.d (.str wF))) 4 (.d (.str unitsF))) 5 (.pt b0 0)) 6 (.d (.int .i64 n_))) 7 (.d (.int .i64 i))) 8 (.d (.int .i64 k)), H, n⟩ (PostD C Tryd.f238 [(.int .i64 r.1), (.bool r.2)])
  | .c1 n_ i k j => ∀ (b0 g H n) (hH : HP H n [.box b0 [.d (.int .i64 worthF.e0), .d (.int .i64 worthF.e1), .d (.int .i64 worthF.e2)]]), PAt C (bodyOf Tryd.f238) (.a (.a (.b (.a (.a (.b (.a (.a (.b (.a (.b (.b (.b (.b (.b .o))))))))))))))) ⟨upd (upd (upd (upd (upd (upd (upd g 0 (.d (.str wF))) 4 (.d (.str unitsF))) 5 (.pt b0 0)) 6 (.d (.int .i64 n_))) 7 (.d (.int .i64 i))) 8 (.d (.int .i64 k))) 9 (.d (.int .i64 j)), H, n⟩ (PostD C Tryd.f238 [(.int .i64 r.1), (.bool r.2)])
  | .c2 n_ i k j => ∀ (b0 g H n) (hH : HP H n [.box b0 [.d (.int .i64 worthF.e0), .d (.int .i64 worthF.e1), .d (.int .i64 worthF.e2)]]), PAt C (bodyOf Tryd.f238) (.b (.b (.a (.a (.b (.a (.a (.b (.a (.b (.b (.b (.b (.b .o)))))))))))))) ⟨upd (upd (upd (upd (upd (upd (upd g 0 (.d (.str wF))) 4 (.d (.str unitsF))) 5 (.pt b0 0)) 6 (.d (.int .i64 n_))) 7 (.d (.int .i64 i))) 8 (.d (.int .i64 k))) 9 (.d (.int .i64 j)), H, n⟩ (PostD C Tryd.f238 [(.int .i64 r.1), (.bool r.2)])
  | .c3 n_ k j => ∀ (b0 g H n) (hH : HP H n [.box b0 [.d (.int .i64 worthF.e0), .d (.int .i64 worthF.e1), .d (.int .i64 worthF.e2)]]), PAt C (bodyOf Tryd.f238) (.b (.b (.b (.a (.b (.b (.b (.a (.a (.b (.a (.a (.b (.a (.b (.b (.b (.b (.b .o))))))))))))))))))) ⟨upd (upd (upd (upd (upd (upd g 0 (.d (.str wF))) 4 (.d (.str unitsF))) 5 (.pt b0 0)) 6 (.d (.int .i64 n_))) 8 (.d (.int .i64 k))) 9 (.d (.int .i64 j)), H, n⟩ (PostD C Tryd.f238 [(.int .i64 r.1), (.bool r.2)])
  | .c4 n_ i k => ∀ (b0 g H n) (hH : HP H n [.box b0 [.d (.int .i64 worthF.e0), .d (.int .i64 worthF.e1), .d (.int .i64 worthF.e2)]]), PAt C (bodyOf Tryd.f238) (.b (.b (.a (.a (.b (.a (.b (.b (.b (.b (.b .o))))))))))) ⟨upd (upd (upd (upd (upd (upd g 0 (.d (.str wF))) 4 (.d (.str unitsF))) 5 (.pt b0 0)) 6 (.d (.int .i64 n_))) 7 (.d (.int .i64 i))) 8 (.d (.int .i64 k)), H, n⟩ (PostD C Tryd.f238 [(.int .i64 r.1), (.bool r.2)])
theorem r2_duration_L1_run_ok (wF : ByteArray) (unitsF : ByteArray) (worthF : A3 Int) (st : r2_duration_L1_S) (r : Int × Bool) (h : r2_duration_L1_run wF unitsF worthF st = some r) : r2_duration_L1_m wF unitsF worthF st r := by
 refine r2_duration_L1_run.partial_correctness wF unitsF worthF (r2_duration_L1_m wF unitsF worthF) (fun r2_duration_L1_run' ih_ st r h => ?_) st r h
 cases st with
 | c0 n_ i k =>
  intro b0 g H n hH
  refine Po (Ps (Ps (Pr rfl (Wm rfl ?_))))
  refine Wc h rfl ?_ ?_ <;> intro _ h
  refine Wn (Ns (Ct (Pk (Nc (Nb (Ns (Ps (Pb (Ps ?_)))))))))
  refine Pr rfl (Wm rfl (Wa rfl (Wn (Ns (Ps (Pb ?_))))))
  exact jm 0 (jm 4 (jm 5 (jm 6 (jm 7 (jm 8 (jm 9 (ih_ (.c1 _ _ _ _) _ h b0 _ _ _ hH)))))))
  refine Wn (Ns (Cf (Px rfl (Nb (Nb (Xs (Xl (Xb (Nb ?_)))))))))
  refine Ns (Ps (Pr rfl (Wm rfl (Wm rfl ?_))))
  refine Wc h rfl ?_ ?_ <;> intro _ h
  refine Wm rfl (Wm rfl (Wm rfl (w_len_s rfl (dsc ty9) rfl (Wb rfl (Wt rfl rfl (Wa rfl (Wa rfl (Wn (Ns ?_)))))))))
  cases h; exact Pq rfl rfl
  refine Wm rfl (Wk (Wk (Wk (Wk (Wf rfl rfl (Wa rfl (Wa rfl (Wn (Ns ?_)))))))))
  cases h; exact Pq rfl rfl
 | c1 n_ i k j =>
  intro b0 g H n hH
  refine Po (Ps (Ps (Pr rfl (Wm rfl (Wm rfl (w_len_s rfl (dsc ty9) rfl ?_))))))
  refine Wc h rfl ?_ ?_ <;> intro _ h
  refine Wm rfl (Wm rfl (Wm rfl ?_))
  refine w_sidx h rfl ty9 rfl rfl (fun t25 h => ?_)
  refine w_scal (E := eB) h rfl sig246 (sc rfl (sn)) (fun y hy => r2_digit_ok _ y hy) (fun _ => rfl) (fun t26 h => ?_)
  revert h; cases t26 <;> intro h
  replace h := if0 h
  refine Wt rfl rfl (Wn (Ns (Cf (Px rfl (Nb (Nb (Xs (Xl (Xb ?_)))))))))
  refine Ns ?_
  exact jm 0 (jm 4 (jm 5 (jm 6 (jm 7 (jm 8 (jm 9 (ih_ (.c2 _ _ _ _) _ h b0 _ _ _ hH)))))))
  replace h := if1 h
  refine Wt rfl rfl (Wn (Ns (Ct (Pk (Nc (Nb (Ns (Pb (Pr rfl ?_)))))))))
  refine Wm rfl (Wb rfl (Wa rfl (Wn (Nk (Nb (Nl ?_))))))
  exact jm 0 (jm 4 (jm 5 (jm 6 (jm 7 (jm 8 (jm 9 (ih_ (.c1 _ _ _ _) _ h b0 _ _ _ hH)))))))
  refine Wm rfl (Wk (Wk (Wk (Wk (Wf rfl rfl (Wn (Ns (Cf (Px rfl ?_)))))))))
  refine Nb (Nb (Xs (Xl (Xb (Ns ?_)))))
  exact jm 0 (jm 4 (jm 5 (jm 6 (jm 7 (jm 8 (jm 9 (ih_ (.c2 _ _ _ _) _ h b0 _ _ _ hH)))))))
 | c2 n_ i k j =>
  intro b0 g H n hH
  refine Ps (p_calm rfl (by kernel_rfl) (Wm rfl (Wm rfl ?_)))
  refine Wc h rfl ?_ ?_ <;> intro _ h
  refine Wm rfl (Wm rfl (Wm rfl (w_len_s rfl (dsc ty9) rfl ?_)))
  refine Wc h rfl ?_ ?_ <;> intro _ h
  refine Wt rfl rfl (Wm rfl (Wm rfl (Wm rfl ?_)))
  refine w_sidx h rfl ty9 rfl rfl (fun t42 h => ?_)
  refine Wm rfl (Wm rfl ?_)
  refine w_sidx h rfl ty9 rfl rfl (fun t45 h => ?_)
  refine Wc h rfl ?_ ?_ <;> intro _ h
  refine Wt rfl rfl (Wn (Ns (Ct (Ps (Pr rfl (Wm rfl (Wm rfl (Wm rfl ?_))))))))
  refine w_scut h rfl ty9 rfl (lh_lh) (fun t52 h => ?_)
  refine w_scal (E := (fun y => [(.int .i64 y.1), (.bool y.2)])) h rfl sig237 (sc rfl (sc rfl (sc rfl (sn)))) (fun y hy => r2_digits_ok _ _ _ y hy) (fun _ => rfl) (fun t53 h => ?_)
  refine w_move_v (.tup [.d (.int .i64 t53.1), .d (.bool t53.2)]) rfl rfl (w_extract_d rfl rfl rfl (w_extract_d rfl rfl rfl (Wa rfl (Wa rfl (Wn (Ns (Ps (Pr rfl (Wm rfl ?_)))))))))
  refine Wm rfl (Wm rfl ?_)
  refine w_iaddr_b3 (f := (Dat.int .i64)) (cs := [.d (.int .i64 worthF.e0), .d (.int .i64 worthF.e1), .d (.int .i64 worthF.e2)]) h rfl arr333 nel333 szg2 rfl rfl rfl (fun t59 o6799 h hx6799 => ?_)
  refine w_load_x rfl szg2 hH (i := 0) rfl rfl hx6799 (Wb rfl (Wb rfl (Wa rfl (Wn (Ns (Ps (Ps (Pr rfl (Wm rfl ?_)))))))))
  refine Wc h rfl ?_ ?_ <;> intro _ h
  refine Wn (Ns (Ct (Pr rfl (Wa rfl (Wn (Nc (Nb (Ns ?_))))))))
  exact jm 0 (jm 4 (jm 5 (jm 6 (jm 8 (jm 9 (ih_ (.c3 _ _ _) _ h b0 _ _ _ hH))))))
  refine Wn (Ns (Cf (Pk (Nb (Nb (Ns ?_))))))
  exact jm 0 (jm 4 (jm 5 (jm 6 (jm 8 (jm 9 (ih_ (.c3 _ _ _) _ h b0 _ _ _ hH))))))
  refine Wt rfl rfl (Wn (Ns (Cf (Pk (Nb (Nb (Nb (Nb (Nk ?_)))))))))
  refine Ns ?_
  exact jm 0 (jm 4 (jm 5 (jm 6 (jm 7 (jm 8 (ih_ (.c4 _ _ _) _ h b0 _ _ _ hH))))))
  refine Wt rfl rfl (Wm rfl (Wk (Wk (Wk (Wk (Wk (Wk (Wk (Wf rfl rfl ?_)))))))))
  refine Wn (Ns (Cf (Pk (Nb (Nb (Nb (Nb (Nk (Ns ?_)))))))))
  exact jm 0 (jm 4 (jm 5 (jm 6 (jm 7 (jm 8 (ih_ (.c4 _ _ _) _ h b0 _ _ _ hH))))))
  refine Wm rfl (Wk (Wk (Wk (Wk (Wf rfl rfl (Wm rfl (Wk (Wk (Wk ?_)))))))))
  refine Wk (Wk (Wk (Wk (Wf rfl rfl (Wn (Ns (Cf (Pk (Nb ?_)))))))))
  refine Nb (Nb (Nb (Nk (Ns ?_))))
  exact jm 0 (jm 4 (jm 5 (jm 6 (jm 7 (jm 8 (ih_ (.c4 _ _ _) _ h b0 _ _ _ hH))))))
 | c3 n_ k j =>
  intro b0 g H n hH
  refine Pr rfl (Wm rfl (Wb rfl (Wa rfl (Wn (Nb (Nb (Nb (Nc (Nb ?_)))))))))
  refine Nb (Nb (Nk (Ns ?_)))
  exact jm 0 (jm 4 (jm 5 (jm 6 (jm 7 (jm 8 (ih_ (.c4 _ _ _) _ h b0 _ _ _ hH))))))
 | c4 n_ i k =>
  intro b0 g H n hH
  refine Pr rfl (Wm rfl (Wb rfl (Wa rfl (Wn (Nb (Nb (Nl ?_)))))))
  exact jm 0 (jm 4 (jm 5 (jm 6 (jm 7 (jm 8 (ih_ (.c0 _ _ _) _ h b0 _ _ _ hH))))))
theorem r2_duration_L1_ok (wF : ByteArray) (unitsF : ByteArray) (worthF : A3 Int) (n_ : Int) (i : Int) (k : Int) (r : Int × Bool) (h : r2_duration_L1 wF unitsF worthF n_ i k = some r) : r2_duration_L1_m wF unitsF worthF (.c0 n_ i k) r := r2_duration_L1_run_ok wF unitsF worthF (.c0 n_ i k) r h
theorem r2_duration_ok (w : ByteArray) (r : Int × Bool) (h : r2_duration w = some r) : callD C 238 [(.str w)] = some [(.int .i64 r.1), (.bool r.2)] := by
 refine callD_at (ext0 _ _ rfl) fn238 rfl (jmp 0 (.d (.str w)) rfl (Ps (Pr rfl (Wa rfl (Wa rfl (Wn (Ns (Ps (Pr rfl ?_)))))))))
 refine Wa rfl (Wn (Ns (Ps (Pr rfl (w_buildA (cs := [.d (.int .i64 3600), .d (.int .i64 60), .d (.int .i64 1)]) rfl zero333 arr333 szg2 rfl ?_)))))
 refine alloc_z rfl zero333 (HP.nil _ _) (fun b7798 H' n' hH => ?_)
 refine w_store_b (new := [.d (.int .i64 3600), .d (.int .i64 60), .d (.int .i64 1)]) rfl szg333 hH (i := 0) rfl rfl rfl rfl rfl (Nat.le_of_ble_eq_true rfl) (fun H' hH => ?_)
 refine Wn (Ns (Ps (Pr rfl (Wa rfl (Wn (Ns (Ps (Pr rfl (Wa rfl ?_)))))))))
 refine Wn (Ns (Ps (Ps (Pr rfl (Wa rfl (Wn (Ns (Pb ?_))))))))
 exact jm 0 (jm 4 (jm 5 (jm 6 (jm 7 (jm 8 (r2_duration_L1_ok _ _ _ _ _ _ _ h b7798 _ _ _ hH))))))
theorem r2_Number_k3_ok (n_ : Int) (ok : Bool) (r : Int × Int) (h : r2_Number_k3 n_ ok = some r) (g : Nat → AV) (H : Hs) (n : Nat) : PAt C (bodyOf Tryd.f200) (.b (.b (.b (.b .o)))) ⟨upd (upd g 4 (.d (.int .i64 n_))) 5 (.d (.bool ok)), H, n⟩ (PostD C Tryd.f200 [(.int .i32 r.1), (.int .i64 r.2)]) := by
 refine Ps (Ps (Pr rfl (Wm rfl ?_)))
 refine w_split (b := (!ok)) h rfl (o_un rfl rfl) rfl (fun _ => ⟨rfl, rfl⟩) (fun _ h => ?_) (fun _ h => ?_)
 refine Wn (Ns (Ct (Ps (Pr rfl (Wa rfl (Wa rfl (Wn (Ns ?_))))))))
 cases h; exact Pq rfl rfl
 refine Wn (Ns (Cf (Pk (Nb (Nb (Ns (Ps (Ps (Pr rfl ?_)))))))))
 refine Wm rfl ?_
 refine Wc h rfl ?_ ?_ <;> intro _ h
 refine Wn (Ns (Ct (Ps (Pr rfl (Wa rfl (Wa rfl (Wn (Ns ?_))))))))
 cases h; exact Pq rfl rfl
 refine Wn (Ns (Cf (Pk (Nb (Nb (Ns (Ps (Pr rfl (Wm rfl ?_)))))))))
 refine w_conv rfl (c_int ty2 ty21) (Wa rfl (Wa rfl (Wn (Ns ?_))))
 cases h; exact Pq rfl rfl
theorem r2_Number_k2_ok (w : ByteArray) (n_ : Int) (ok : Bool) (r : Int × Int) (h : r2_Number_k2 w n_ ok = some r) (g : Nat → AV) (H : Hs) (n : Nat) : PAt C (bodyOf Tryd.f200) (.b (.b (.b .o))) ⟨upd (upd (upd g 0 (.d (.str w))) 4 (.d (.int .i64 n_))) 5 (.d (.bool ok)), H, n⟩ (PostD C Tryd.f200 [(.int .i32 r.1), (.int .i64 r.2)]) := by
 refine Ps (Ps (Pr rfl (Wm rfl ?_)))
 refine w_split (b := (!ok)) h rfl (o_un rfl rfl) rfl (fun _ => ⟨rfl, rfl⟩) (fun _ h => ?_) (fun _ h => ?_)
 refine Wn (Ns (Ct (Pr rfl (Wm rfl ?_))))
 refine w_scal (E := (fun y => [(.int .i64 y.1), (.bool y.2)])) h rfl sig238 (sc rfl (sn)) (fun y hy => r2_duration_ok _ y hy) (fun _ => rfl) (fun t38 h => ?_)
 refine w_move_v (.tup [.d (.int .i64 t38.1), .d (.bool t38.2)]) rfl rfl (w_extract_d rfl rfl rfl ?_)
 refine w_split (b := t38.2) h rfl (o_extract rfl rfl) rfl (fun _ => ⟨rfl, rfl⟩) (fun _ h => ?_) (fun _ h => ?_)
 refine Wa rfl (Wa rfl (Wn (Nc (Nb (Ns ?_)))))
 exact jm 4 (jm 5 (r2_Number_k3_ok _ _ _ h _ _ _))
 refine Wa rfl (Wa rfl (Wn (Nc (Nb (Ns ?_)))))
 exact jm 4 (jm 5 (r2_Number_k3_ok _ _ _ h _ _ _))
 refine Wn (Ns (Cf (Pk (Nb (Nb (Ns ?_))))))
 exact jm 4 (jm 5 (r2_Number_k3_ok _ _ _ h _ _ _))
theorem r2_Number_k1_ok (w : ByteArray) (n_ : Int) (ok : Bool) (r : Int × Int) (h : r2_Number_k1 w n_ ok = some r) (g : Nat → AV) (H : Hs) (n : Nat) : PAt C (bodyOf Tryd.f200) (.b (.b .o)) ⟨upd (upd (upd g 0 (.d (.str w))) 4 (.d (.int .i64 n_))) 5 (.d (.bool ok)), H, n⟩ (PostD C Tryd.f200 [(.int .i32 r.1), (.int .i64 r.2)]) := by
 refine Ps (Ps (Pr rfl (Wm rfl ?_)))
 refine w_split (b := (!ok)) h rfl (o_un rfl rfl) rfl (fun _ => ⟨rfl, rfl⟩) (fun _ h => ?_) (fun _ h => ?_)
 refine Wm rfl (Wm rfl (w_len_s rfl (dsc ty9) rfl ?_))
 refine Wc h rfl ?_ ?_ <;> intro _ h
 refine Wt rfl rfl (Wm rfl (Wm rfl ?_))
 refine w_sidx h rfl ty9 rfl rfl (fun t20 h => ?_)
 refine Wc h rfl ?_ ?_ <;> intro _ h
 refine Wt rfl rfl (Wm rfl (Wm rfl ?_))
 refine w_sidx h rfl ty9 rfl rfl (fun t25 h => ?_)
 refine Wc h rfl ?_ ?_ <;> intro _ h
 refine Wt rfl rfl (Wn (Ns (Ct (Pr rfl (Wm rfl ?_)))))
 refine w_scut h rfl ty9 rfl (lh_ln) (fun t30 h => ?_)
 refine w_scal (E := (fun y => [(.int .i64 y.1), (.bool y.2)])) h rfl sig237 (sc rfl (sc rfl (sc rfl (sn)))) (fun y hy => r2_digits_ok _ _ _ y hy) (fun _ => rfl) (fun t31 h => ?_)
 refine w_move_v (.tup [.d (.int .i64 t31.1), .d (.bool t31.2)]) rfl rfl (w_extract_d rfl rfl rfl ?_)
 refine w_split (b := t31.2) h rfl (o_extract rfl rfl) rfl (fun _ => ⟨rfl, rfl⟩) (fun _ h => ?_) (fun _ h => ?_)
 refine Wa rfl (Wa rfl (Wn (Nc (Nb (Ns ?_)))))
 exact jm 0 (jm 4 (jm 5 (r2_Number_k2_ok _ _ _ _ h _ _ _)))
 refine Wa rfl (Wa rfl (Wn (Nc (Nb (Ns ?_)))))
 exact jm 0 (jm 4 (jm 5 (r2_Number_k2_ok _ _ _ _ h _ _ _)))
 refine Wt rfl rfl (Wn (Ns (Cf (Pk (Nb (Nb (Ns ?_)))))))
 exact jm 0 (jm 4 (jm 5 (r2_Number_k2_ok _ _ _ _ h _ _ _)))
 refine Wt rfl rfl (Wm rfl (Wk (Wk (Wk (Wf rfl rfl (Wn (Ns (Cf (Pk ?_)))))))))
 refine Nb (Nb (Ns ?_))
 exact jm 0 (jm 4 (jm 5 (r2_Number_k2_ok _ _ _ _ h _ _ _)))
 refine Wt rfl rfl (Wm rfl (Wk (Wk (Wk (Wf rfl rfl (Wm rfl (Wk (Wk (Wk ?_)))))))))
 refine Wf rfl rfl (Wn (Ns (Cf (Pk (Nb (Nb (Ns ?_)))))))
 exact jm 0 (jm 4 (jm 5 (r2_Number_k2_ok _ _ _ _ h _ _ _)))
 refine Wm rfl (Wk (Wk (Wk (Wf rfl rfl (Wm rfl (Wk (Wk (Wk (Wf rfl rfl ?_)))))))))
 refine Wm rfl (Wk (Wk (Wk (Wf rfl rfl (Wn (Ns (Cf (Pk (Nb ?_)))))))))
 refine Nb (Ns ?_)
 exact jm 0 (jm 4 (jm 5 (r2_Number_k2_ok _ _ _ _ h _ _ _)))
theorem r2_Number_ok (w : ByteArray) (r : Int × Int) (h : r2_Number w = some r) : callD C 200 [(.str w)] = some [(.int .i32 r.1), (.int .i64 r.2)] := by
 refine callD_at (ext0 _ _ rfl) fn200 rfl (jmp 0 (.d (.str w)) rfl (Ps (Pr rfl (Wa rfl (Wa rfl (Wn (Ns (Ps (Pr rfl ?_)))))))))
 refine Wm rfl ?_
 refine w_scal (E := (fun y => [(.int .i64 y.1), (.bool y.2)])) h rfl sig237 (sc rfl (sc rfl (sc rfl (sn)))) (fun y hy => r2_digits_ok _ _ _ y hy) (fun _ => rfl) (fun t8 h => ?_)
 refine w_move_v (.tup [.d (.int .i64 t8.1), .d (.bool t8.2)]) rfl rfl (w_extract_d rfl rfl rfl ?_)
 refine w_split (b := t8.2) h rfl (o_extract rfl rfl) rfl (fun _ => ⟨rfl, rfl⟩) (fun _ h => ?_) (fun _ h => ?_)
 refine Wa rfl (Wa rfl (Wn (Ns ?_)))
 exact jm 0 (jm 4 (jm 5 (r2_Number_k1_ok _ _ _ _ h _ _ _)))
 refine Wa rfl (Wa rfl (Wn (Ns ?_)))
 exact jm 0 (jm 4 (jm 5 (r2_Number_k1_ok _ _ _ _ h _ _ _)))
def r2_KindOf_L2_M (w : ByteArray) (i : Int) (r : Int) : Prop := ∀ (g : Nat → AV) (H : Hs) (n : Nat), PAt C (bodyOf Tryd.f149) (.a (.b (.a (.b (.b .o))))) ⟨upd (upd g 0 (.d (.str w))) 4 (.d (.int .i64 i)), H, n⟩ (PostD C Tryd.f149 [(.int .i64 r)])
theorem r2_KindOf_L2_ok (w : ByteArray) (i : Int) (r : Int) (h : r2_KindOf_L2 w i = some r) : r2_KindOf_L2_M w i r := by
 refine r2_KindOf_L2.partial_correctness w (fun i r => r2_KindOf_L2_M w i r) (fun r2_KindOf_L2 ih_r2_KindOf_L2 i r h g H n => ?_) i r h
 refine Po (Ps (Ps (Pr rfl (Wm rfl ?_))))
 refine Wc h rfl ?_ ?_ <;> intro _ h
 refine Wn (Ns (Ct (Pk (Nc (Nb (Ns (Ps (Pb (Ps ?_)))))))))
 refine Pr rfl (Wm rfl ?_)
 refine w_idx_g h rfl arr290 szg9 glob6 rfl rfl nel290 (fun t23 h _ _ => ?_)
 refine w_load_d szg9 rfl rfl (Wm rfl ?_)
 refine Wc h rfl ?_ ?_ <;> intro _ h
 refine Wn (Ns (Ct (Ps (Pr rfl (Wm rfl (Wb rfl (Wa rfl (Wn (Ns ?_)))))))))
 cases h; exact Pq rfl rfl
 refine Wn (Ns (Cf (Pk (Nb (Nb (Nk (Ns (Pr rfl (Wm rfl ?_)))))))))
 refine Wb rfl (Wa rfl (Wn (Nb (Nb (Nl ?_)))))
 exact jm 0 (jm 4 (ih_r2_KindOf_L2 _ _ h _ _ _))
 refine Wn (Ns (Cf (Px rfl (Nb (Nb (Xs (Xl (Xb (Nb ?_)))))))))
 refine Ns (Ps (Ps (Pr rfl (Wm rfl ?_))))
 refine Wc h rfl ?_ ?_ <;> intro _ h
 refine Wm rfl (Wk (Wk (Wk (Wk (Wk (Wt rfl rfl (Wn (Ns (Ct ?_)))))))))
 refine Ps (Pr rfl (Wa rfl (Wn (Ns ?_))))
 cases h; exact Pq rfl rfl
 refine Wm rfl (Wm rfl ?_)
 refine w_scal (E := eI) h rfl sig198 (sc rfl (sc rfl (sn))) (fun y hy => r2_runEnd_ok _ _ y hy) (fun _ => rfl) (fun t33 h => ?_)
 refine Wm rfl (w_len_s rfl (dsc ty9) rfl ?_)
 refine Wd h rfl ?_ ?_ <;> intro _ h
 refine Wf rfl rfl (Wn (Ns (Cf (Pk (Nb (Nb (Ns (Ps (Ps ?_)))))))))
 refine Pr rfl (Wm rfl ?_)
 refine w_sidx h rfl ty9 rfl rfl (fun t39 h => ?_)
 refine w_scal (E := eB) h rfl sig199 (sc rfl (sn)) (fun y hy => r2_letter_ok _ y hy) (fun _ => rfl) (fun t40 h => ?_)
 revert h; cases t40 <;> intro h
 replace h := if0 h
 refine Wn (Ns (Cf (Pk (Nb (Nb (Ns (Ps (Pr rfl (Wm rfl ?_)))))))))
 refine w_scal (E := (fun y => [(.int .i32 y.1), (.int .i64 y.2)])) h rfl sig200 (sc rfl (sn)) (fun y hy => r2_Number_ok _ y hy) (fun _ => rfl) (fun t46 h => ?_)
 refine w_move_v (.tup [.d (.int .i32 t46.1), .d (.int .i64 t46.2)]) rfl rfl (w_extract_d rfl rfl rfl (w_extract_d rfl rfl rfl (Wa rfl (Wa rfl (Wn (Ns (Ps (Ps (Pr rfl ?_)))))))))
 refine Wm rfl ?_
 refine Wd h rfl ?_ ?_ <;> intro _ h
 refine Wn (Ns (Cf (Pk (Nb (Nb (Ns (Ps (Pr rfl (Wa rfl ?_)))))))))
 refine Wn (Ns ?_)
 cases h; exact Pq rfl rfl
 refine Wn (Ns (Ct (Ps (Pr rfl (Wa rfl (Wn (Ns ?_)))))))
 cases h; exact Pq rfl rfl
 replace h := if1 h
 refine Wn (Ns (Ct (Ps (Ps (Pr rfl (Wm rfl (w_len_s rfl (dsc ty9) rfl ?_)))))))
 refine Wc h rfl ?_ ?_ <;> intro _ h
 refine Wn (Ns (Ct (Ps (Pr rfl (Wa rfl (Wn (Ns ?_)))))))
 cases h; exact Pq rfl rfl
 refine Wn (Ns (Cf (Pk (Nb (Nb (Ns (Ps (Pr rfl (Wa rfl ?_)))))))))
 refine Wn (Ns ?_)
 cases h; exact Pq rfl rfl
 refine Wf rfl rfl (Wn (Ns (Ct (Ps (Pr rfl (Wa rfl (Wn (Ns ?_))))))))
 cases h; exact Pq rfl rfl
def r2_KindOf_L1_M (w : ByteArray) (i : Int) (r : Int) : Prop := ∀ (g : Nat → AV) (H : Hs) (n : Nat), PAt C (bodyOf Tryd.f149) (.a (.b (.a (.b .o)))) ⟨upd (upd g 0 (.d (.str w))) 3 (.d (.int .i64 i)), H, n⟩ (PostD C Tryd.f149 [(.int .i64 r)])
theorem r2_KindOf_L1_ok (w : ByteArray) (i : Int) (r : Int) (h : r2_KindOf_L1 w i = some r) : r2_KindOf_L1_M w i r := by
 refine r2_KindOf_L1.partial_correctness w (fun i r => r2_KindOf_L1_M w i r) (fun r2_KindOf_L1 ih_r2_KindOf_L1 i r h g H n => ?_) i r h
 refine Po (Ps (Ps (Pr rfl (Wm rfl ?_))))
 refine Wc h rfl ?_ ?_ <;> intro _ h
 refine Wn (Ns (Ct (Pk (Nc (Nb (Ns (Ps (Pb (Ps ?_)))))))))
 refine Pr rfl (Wm rfl ?_)
 refine w_idx_g h rfl arr289 szg9 glob5 rfl rfl nel289 (fun t12 h _ _ => ?_)
 refine w_load_d szg9 rfl rfl (Wm rfl ?_)
 refine Wc h rfl ?_ ?_ <;> intro _ h
 refine Wn (Ns (Ct (Ps (Pr rfl (Wm rfl (Wb rfl (Wa rfl (Wn (Ns ?_)))))))))
 cases h; exact Pq rfl rfl
 refine Wn (Ns (Cf (Pk (Nb (Nb (Nk (Ns (Pr rfl (Wm rfl ?_)))))))))
 refine Wb rfl (Wa rfl (Wn (Nb (Nb (Nl ?_)))))
 exact jm 0 (jm 3 (ih_r2_KindOf_L1 _ _ h _ _ _))
 refine Wn (Ns (Cf (Px rfl (Nb (Nb (Xs (Xl (Xb (Nb ?_)))))))))
 refine Ns (Ps (Ps (Pr rfl (Wa rfl (Wn (Ns (Pb ?_)))))))
 exact jm 0 (jm 4 (r2_KindOf_L2_ok _ _ _ h _ _ _))
theorem r2_KindOf_ok (w : ByteArray) (r : Int) (h : r2_KindOf w = some r) : callD C 149 [(.str w)] = some [(.int .i64 r)] := by
 refine callD_at (ext0 _ _ rfl) fn149 rfl (jmp 0 (.d (.str w)) rfl (Ps (Pr rfl (Wa rfl (Wn (Ns (Ps (Ps (Pr rfl ?_)))))))))
 refine Wa rfl (Wn (Ns (Pb ?_)))
 exact jm 0 (jm 3 (r2_KindOf_L1_ok _ _ _ h _ _ _))
def r5_unlike_L1_m (lF : List ByteArray) : r5_unlike_L1_S → Bool → Prop := fun st r => match st with
  | .c0 i => ∀ (g : Nat → AV) (H : Hs) (n : Nat), PAt C (bodyOf Tryd.f118) (.a (.b (.a (.b .o)))) ⟨upd (upd g 0 (.d (.lst (lF.map Dat.str)))) 3 (.d (.int .i64 i)), H, n⟩ (PostD C Tryd.f118 [(.bool r)])
  | .c1 i j => ∀ (g : Nat → AV) (H : Hs) (n : Nat), PAt C (bodyOf Tryd.f118) (.a (.b (.b (.a (.a (.b (.a (.a (.b (.a (.b .o))))))))))) ⟨upd (upd (upd g 0 (.d (.lst (lF.map Dat.str)))) 3 (.d (.int .i64 i))) 4 (.d (.int .i64 j)), H, n⟩ (PostD C Tryd.f118 [(.bool r)])
theorem r5_unlike_L1_run_ok (lF : List ByteArray) (st : r5_unlike_L1_S) (r : Bool) (h : r5_unlike_L1_run lF st = some r) : r5_unlike_L1_m lF st r := by
 refine r5_unlike_L1_run.partial_correctness lF (r5_unlike_L1_m lF) (fun r5_unlike_L1_run' ih_ st r h => ?_) st r h
 cases st with
 | c0 i =>
  intro g H n
  refine Po (Ps (Ps (Pr rfl (Wm rfl (Wm rfl (w_len_d elem91 rfl ?_))))))
  refine Wc h rfl ?_ ?_ <;> intro _ h
  refine Wn (Ns (Ct (Pk (Nc (Nb (Ns (Ps (Pb (Ps ?_)))))))))
  refine Ps (Pr rfl (Wm rfl (Wm rfl ?_)))
  refine w_idx h rfl elem91 szg9 (fun _ => rfl) rfl rfl (fun t13 h => ?_)
  refine w_load_d szg9 rfl rfl ?_
  refine w_scal (E := eI) h rfl sig149 (sc rfl (sn)) (fun y hy => r2_KindOf_ok _ y hy) (fun _ => rfl) (fun t15 h => ?_)
  refine Wd h rfl ?_ ?_ <;> intro _ h
  refine Wn (Ns (Cf (Pk (Nb (Nb (Ns (Ps (Pr rfl (Wa rfl ?_)))))))))
  refine Wn (Ns (Pb ?_))
  exact jm 0 (jm 3 (jm 4 (ih_ (.c1 _ _) _ h _ _ _)))
  refine Wn (Ns (Ct (Ps (Pr rfl (Wa rfl (Wn (Ns ?_)))))))
  cases h; exact Pq rfl rfl
  refine Wn (Ns (Cf (Px rfl (Nb (Nb (Xs (Xl (Xb (Nb ?_)))))))))
  refine Ns (Ps (Pr rfl (Wa rfl (Wn (Ns ?_)))))
  cases h; exact Pq rfl rfl
 | c1 i j =>
  intro g H n
  refine Po (Ps (Ps (Pr rfl (Wm rfl (Wm rfl ?_)))))
  refine Wc h rfl ?_ ?_ <;> intro _ h
  refine Wn (Ns (Ct (Pk (Nc (Nb (Ns (Ps (Pb (Ps ?_)))))))))
  refine p_calm rfl (by kernel_rfl) (Wm rfl (Wm rfl ?_))
  refine w_idx h rfl elem91 szg9 (fun _ => rfl) rfl rfl (fun t24 h => ?_)
  refine w_load_d szg9 rfl rfl (Wm rfl (Wm rfl ?_))
  refine w_idx h rfl elem91 szg9 (fun _ => rfl) rfl rfl (fun t28 h => ?_)
  refine w_load_d szg9 rfl rfl ?_
  refine Wc h rfl ?_ ?_ <;> intro _ h
  refine Wn (Ns (Ct (Ps (Pr rfl (Wa rfl (Wn (Ns ?_)))))))
  cases h; exact Pq rfl rfl
  refine Wn (Ns (Cf (Pk (Nb (Nb (Nk (Ns (Pr rfl (Wm rfl ?_)))))))))
  refine Wb rfl (Wa rfl (Wn (Nb (Nb (Nl ?_)))))
  exact jm 0 (jm 3 (jm 4 (ih_ (.c1 _ _) _ h _ _ _)))
  refine Wn (Ns (Cf (Px rfl (Nb (Nb (Xs (Xl (Xb (Nb ?_)))))))))
  refine Nb (Nk (Ns (Pr rfl (Wm rfl (Wb rfl (Wa rfl (Wn (Nb (Nb ?_)))))))))
  refine Nl ?_
  exact jm 0 (jm 3 (ih_ (.c0 _) _ h _ _ _))
theorem r5_unlike_L1_ok (lF : List ByteArray) (i : Int) (r : Bool) (h : r5_unlike_L1 lF i = some r) : r5_unlike_L1_m lF (.c0 i) r := r5_unlike_L1_run_ok lF (.c0 i) r h
theorem r5_unlike_ok (l : List ByteArray) (r : Bool) (h : r5_unlike l = some r) : callD C 118 [(.lst (l.map Dat.str))] = some [(.bool r)] := by
 refine callD_at (ext0 _ _ rfl) fn118 rfl (jmp 0 (.d (.lst (l.map Dat.str))) rfl (Ps (Pr rfl (Wa rfl (Wn (Ns (Ps (Ps (Pr rfl ?_)))))))))
 refine Wa rfl (Wn (Ns (Pb ?_)))
 exact jm 0 (jm 3 (r5_unlike_L1_ok _ _ _ h _ _ _))
def r5_things_L4_M (t : TypedT) (l : List ByteArray) (i : Int) (r : List ByteArray) : Prop := ∀ (b0 : Nat) (w1 g H n) (hH : HP H n [.box b0 (TypedT.av t), o9_1 w1 l]), PAt C (bodyOf Tryd.f119) (.a (.b (.a (.b (.b (.b (.b (.b (.b (.b .o)))))))))) ⟨upd (upd (upd g 1 (.pt b0 0)) 3 (w1)) 7 (.d (.int .i64 i)), H, n⟩ (PostD C Tryd.f119 [(.lst (r.map Dat.str))])
theorem r5_things_L4_ok (t : TypedT) (l : List ByteArray) (i : Int) (r : List ByteArray) (h : r5_things_L4 t l i = some r) : r5_things_L4_M t l i r := by
 refine r5_things_L4.partial_correctness t (fun l i r => r5_things_L4_M t l i r) (fun r5_things_L4 ih_r5_things_L4 l i r h b0 w1 g H n hH => ?_) l i r h
 refine Po (Ps (Ps (Pr rfl (Wm rfl (Fb fo95_6 (by decide) rfl 7 rfl (Lb szg93 hH (i := 0) rfl rfl rfl (w_len_d elem93 rfl ?_)))))))
 refine Wc h rfl ?_ ?_ <;> intro _ h
 refine Wn (Ns (Ct (Pk (Nc (Nb (Ns (Ps (Pb (Pr rfl ?_)))))))))
 refine w_move_v (w1) rfl rfl (Fb fo95_6 (by decide) rfl 7 rfl (Lb szg93 hH (i := 0) rfl rfl rfl (Wm rfl ?_)))
 refine w_idx h rfl elem93 szg196 (fun _ => rfl) rfl rfl (fun t77 h => ?_)
 refine w_faddr_d rfl fo196_0 (by decide) rfl (w_load_d szg9 rfl rfl ?_)
 refine w_bslice (enc := Dat.str) (xs := [t77.Name]) [.d (.str t77.Name)] rfl elem91 szg9 zero9 ⟨by decide, Nat.le_of_ble_eq_true rfl⟩ zd9 (fun _ => rfl) (fun _ => rfl) rfl rfl hH (fun w7832 H' n' hH => ?_)
 refine w_append (enc := Dat.str) h rfl elem91 szg9 bytes9 (by decide) (fun _ => rfl) hH (j := 2) rfl rfl (shows_own hH (j := 0) rfl) (fun t81 w7833 H' n' h hH => ?_)
 refine w_assign_v (w7833) rfl rfl (Wn (Nk (Ns (Pr rfl (Wm rfl (Wb rfl (Wa rfl (Wn (Nb ?_)))))))))
 refine Nb (Nl ?_)
 exact jm 1 (jm 3 (jm 7 (ih_r5_things_L4 _ _ _ h b0 w7833 _ _ _ (hH.selG 3 [2, 0] (by decide) (by decide) (gc rfl (gc rfl (gt rfl)))))))
 refine Wn (Ns (Cf (Px rfl (Nb (Nb (Xs (Xl (Xb (Nb ?_)))))))))
 refine Ns (Ps (Pr rfl (w_move_v (w1) rfl rfl (w_assign_v (w1) rfl rfl (Wn (Ns ?_))))))
 refine Pt (Cr ?_)
 cases h
 exact pdF (.inl rfl) (ra_tmp (w1) rfl (ra_nil)) (FS.own hH (j := 1) rfl (fun _ hH => FS.nil hH))
def r5_things_L3_M (t : TypedT) (l : List ByteArray) (i : Int) (r : List ByteArray) : Prop := ∀ (b0 : Nat) (w1 g H n) (hH : HP H n [.box b0 (TypedT.av t), o9_1 w1 l]), PAt C (bodyOf Tryd.f119) (.a (.b (.a (.b (.b (.b (.b (.b (.b .o))))))))) ⟨upd (upd (upd g 1 (.pt b0 0)) 3 (w1)) 6 (.d (.int .i64 i)), H, n⟩ (PostD C Tryd.f119 [(.lst (r.map Dat.str))])
theorem r5_things_L3_ok (t : TypedT) (l : List ByteArray) (i : Int) (r : List ByteArray) (h : r5_things_L3 t l i = some r) : r5_things_L3_M t l i r := by
 refine r5_things_L3.partial_correctness t (fun l i r => r5_things_L3_M t l i r) (fun r5_things_L3 ih_r5_things_L3 l i r h b0 w1 g H n hH => ?_) l i r h
 refine Po (Ps (Ps (Pr rfl (Wm rfl (Fb fo95_5 (by decide) rfl 6 rfl (Lb szg92 hH (i := 0) rfl rfl rfl (w_len_d elem92 rfl ?_)))))))
 refine Wc h rfl ?_ ?_ <;> intro _ h
 refine Wn (Ns (Ct (Pk (Nc (Nb (Ns (Ps (Pb (Pr rfl ?_)))))))))
 refine w_move_v (w1) rfl rfl (Fb fo95_5 (by decide) rfl 6 rfl (Lb szg92 hH (i := 0) rfl rfl rfl (Wm rfl ?_)))
 refine w_idx h rfl elem92 szg193 (fun _ => rfl) rfl rfl (fun t61 h => ?_)
 refine w_faddr_d rfl fo193_0 (by decide) rfl (w_load_d szg9 rfl rfl ?_)
 refine w_bslice (enc := Dat.str) (xs := [t61.Name]) [.d (.str t61.Name)] rfl elem91 szg9 zero9 ⟨by decide, Nat.le_of_ble_eq_true rfl⟩ zd9 (fun _ => rfl) (fun _ => rfl) rfl rfl hH (fun w7830 H' n' hH => ?_)
 refine w_append (enc := Dat.str) h rfl elem91 szg9 bytes9 (by decide) (fun _ => rfl) hH (j := 2) rfl rfl (shows_own hH (j := 0) rfl) (fun t65 w7831 H' n' h hH => ?_)
 refine w_assign_v (w7831) rfl rfl (Wn (Nk (Ns (Pr rfl (Wm rfl (Wb rfl (Wa rfl (Wn (Nb ?_)))))))))
 refine Nb (Nl ?_)
 exact jm 1 (jm 3 (jm 6 (ih_r5_things_L3 _ _ _ h b0 w7831 _ _ _ (hH.selG 3 [2, 0] (by decide) (by decide) (gc rfl (gc rfl (gt rfl)))))))
 refine Wn (Ns (Cf (Px rfl (Nb (Nb (Xs (Xl (Xb (Nb ?_)))))))))
 refine Ns (Ps (Ps (Pr rfl (Wa rfl (Wn (Ns (Pb ?_)))))))
 exact jm 1 (jm 3 (jm 7 (r5_things_L4_ok _ _ _ _ h b0 w1 _ _ _ hH)))
def r5_things_L2_M (t : TypedT) (l : List ByteArray) (i : Int) (r : List ByteArray) : Prop := ∀ (b0 : Nat) (w1 g H n) (hH : HP H n [.box b0 (TypedT.av t), o9_1 w1 l]), PAt C (bodyOf Tryd.f119) (.a (.b (.a (.b (.b (.b .o)))))) ⟨upd (upd (upd g 1 (.pt b0 0)) 3 (w1)) 5 (.d (.int .i64 i)), H, n⟩ (PostD C Tryd.f119 [(.lst (r.map Dat.str))])
theorem r5_things_L2_ok (t : TypedT) (l : List ByteArray) (i : Int) (r : List ByteArray) (h : r5_things_L2 t l i = some r) : r5_things_L2_M t l i r := by
 refine r5_things_L2.partial_correctness t (fun l i r => r5_things_L2_M t l i r) (fun r5_things_L2 ih_r5_things_L2 l i r h b0 w1 g H n hH => ?_) l i r h
 refine Po (Ps (Ps (Pr rfl (Wm rfl (Fb fo95_2 (by decide) rfl 3 rfl (Lb szg90 hH (i := 0) rfl rfl rfl (w_len_d elem90 rfl ?_)))))))
 refine Wc h rfl ?_ ?_ <;> intro _ h
 refine Wn (Ns (Ct (Pk (Nc (Nb (Ns (Ps (Pb (Pr rfl ?_)))))))))
 refine w_move_v (w1) rfl rfl (Fb fo95_2 (by decide) rfl 3 rfl (Lb szg90 hH (i := 0) rfl rfl rfl (Wm rfl ?_)))
 refine w_idx h rfl elem90 szg207 (fun _ => rfl) rfl rfl (fun t37 h => ?_)
 refine w_faddr_d rfl fo207_0 (by decide) rfl (w_load_d szg9 rfl rfl ?_)
 refine w_bslice (enc := Dat.str) (xs := [t37.Name]) [.d (.str t37.Name)] rfl elem91 szg9 zero9 ⟨by decide, Nat.le_of_ble_eq_true rfl⟩ zd9 (fun _ => rfl) (fun _ => rfl) rfl rfl hH (fun w7826 H' n' hH => ?_)
 refine w_append (enc := Dat.str) h rfl elem91 szg9 bytes9 (by decide) (fun _ => rfl) hH (j := 2) rfl rfl (shows_own hH (j := 0) rfl) (fun t41 w7827 H' n' h hH => ?_)
 refine w_assign_v (w7827) rfl rfl (Wn (Nk (Ns (Pr rfl (Wm rfl (Wb rfl (Wa rfl (Wn (Nb ?_)))))))))
 refine Nb (Nl ?_)
 exact jm 1 (jm 3 (jm 5 (ih_r5_things_L2 _ _ _ h b0 w7827 _ _ _ (hH.selG 3 [2, 0] (by decide) (by decide) (gc rfl (gc rfl (gt rfl)))))))
 refine Wn (Ns (Cf (Px rfl (Nb (Nb (Xs (Xl (Xb (Nb ?_)))))))))
 refine Ns (Ps (Pr rfl (w_move_v (w1) rfl rfl (Fb fo95_3 (by decide) rfl 4 rfl (Lb szg91 hH (i := 0) rfl rfl rfl ?_)))))
 refine w_append (enc := Dat.str) h rfl elem91 szg9 bytes9 (by decide) (fun _ => rfl) hH (j := 1) rfl rfl shows_d (fun t45 w7828 H' n' h hH => ?_)
 refine w_assign_v (w7828) rfl rfl (Wn (Ns (Ps (Pr rfl (w_move_v (w7828) rfl rfl (Fb fo95_4 (by decide) rfl 5 rfl (Lb szg91 hH (i := 1) rfl rfl rfl ?_)))))))
 refine w_append (enc := Dat.str) h rfl elem91 szg9 bytes9 (by decide) (fun _ => rfl) hH (j := 0) rfl rfl shows_d (fun t49 w7829 H' n' h hH => ?_)
 refine w_assign_v (w7829) rfl rfl (Wn (Ns (Ps (Ps (Pr rfl (Wa rfl (Wn (Ns (Pb ?_)))))))))
 exact jm 1 (jm 3 (jm 6 (r5_things_L3_ok _ _ _ _ h b0 w7829 _ _ _ (hH.selG 2 [1, 0] (by decide) (by decide) (gc rfl (gc rfl (gt rfl)))))))
def r5_things_L1_M (t : TypedT) (l : List ByteArray) (i : Int) (r : List ByteArray) : Prop := ∀ (b0 : Nat) (w1 g H n) (hH : HP H n [.box b0 (TypedT.av t), o9_1 w1 l]), PAt C (bodyOf Tryd.f119) (.a (.b (.a (.b (.b .o))))) ⟨upd (upd (upd g 1 (.pt b0 0)) 3 (w1)) 4 (.d (.int .i64 i)), H, n⟩ (PostD C Tryd.f119 [(.lst (r.map Dat.str))])
theorem r5_things_L1_ok (t : TypedT) (l : List ByteArray) (i : Int) (r : List ByteArray) (h : r5_things_L1 t l i = some r) : r5_things_L1_M t l i r := by
 refine r5_things_L1.partial_correctness t (fun l i r => r5_things_L1_M t l i r) (fun r5_things_L1 ih_r5_things_L1 l i r h b0 w1 g H n hH => ?_) l i r h
 refine Po (Ps (Ps (Pr rfl (Wm rfl (Fb fo95_1 (by decide) rfl 1 rfl (Fb fo89_0 (by decide) rfl 1 rfl (Lb szg86 hH (i := 0) rfl rfl rfl (w_len_d elem86 rfl ?_))))))))
 refine Wc h rfl ?_ ?_ <;> intro _ h
 refine Wn (Ns (Ct (Pk (Nc (Nb (Ns (Ps (Pb (Pr rfl ?_)))))))))
 refine w_move_v (w1) rfl rfl (Fb fo95_1 (by decide) rfl 1 rfl (Fb fo89_0 (by decide) rfl 1 rfl (Lb szg86 hH (i := 0) rfl rfl rfl (Wm rfl ?_))))
 refine w_idx h rfl elem86 szg200 (fun _ => rfl) rfl rfl (fun t21 h => ?_)
 refine w_faddr_d rfl fo200_0 (by decide) rfl (w_load_d szg9 rfl rfl ?_)
 refine w_bslice (enc := Dat.str) (xs := [t21.Name]) [.d (.str t21.Name)] rfl elem91 szg9 zero9 ⟨by decide, Nat.le_of_ble_eq_true rfl⟩ zd9 (fun _ => rfl) (fun _ => rfl) rfl rfl hH (fun w7824 H' n' hH => ?_)
 refine w_append (enc := Dat.str) h rfl elem91 szg9 bytes9 (by decide) (fun _ => rfl) hH (j := 2) rfl rfl (shows_own hH (j := 0) rfl) (fun t25 w7825 H' n' h hH => ?_)
 refine w_assign_v (w7825) rfl rfl (Wn (Nk (Ns (Pr rfl (Wm rfl (Wb rfl (Wa rfl (Wn (Nb ?_)))))))))
 refine Nb (Nl ?_)
 exact jm 1 (jm 3 (jm 4 (ih_r5_things_L1 _ _ _ h b0 w7825 _ _ _ (hH.selG 3 [2, 0] (by decide) (by decide) (gc rfl (gc rfl (gt rfl)))))))
 refine Wn (Ns (Cf (Px rfl (Nb (Nb (Xs (Xl (Xb (Nb ?_)))))))))
 refine Ns (Ps (Ps (Pr rfl (Wa rfl (Wn (Ns (Pb ?_)))))))
 exact jm 1 (jm 3 (jm 5 (r5_things_L2_ok _ _ _ _ h b0 w1 _ _ _ hH)))
theorem r5_things_ok (t : TypedT) (r : List ByteArray) (h : r5_things t = some r) : callD C 119 [(TypedT.enc t)] = some [(.lst (r.map Dat.str))] := by
 refine callD_at (ext0 _ _ rfl) fn119 rfl (jmp 0 (.d (TypedT.enc t)) rfl (Ps (Pr rfl ?_)))
 refine w_box (cs := (TypedT.av t)) rfl szg95 rfl rfl rfl (HP.nil _ _) (fun b7823 H' n' hH => ?_)
 refine w_assign_v (.nil) rfl rfl (Wn (Ns (Ps (Pr rfl (w_assign_v (.nil) rfl rfl (Wn (Ns (Ps (Ps ?_)))))))))
 refine Pr rfl (Wa rfl (Wn (Ns (Pb ?_))))
 exact jm 1 (jm 3 (jm 4 (r5_things_L1_ok _ _ _ _ h b7823 .nil _ _ _ ((hH.addNil (z := ⟨9, 1⟩)).selG 2 [1, 0] (by decide) (by decide) (gc rfl (gc rfl (gt rfl)))))))
theorem r3_Arity_k4_ok (op : Int) (r : Int) (h : r3_Arity_k4 op = some r) (g : Nat → AV) (H : Hs) (n : Nat) : PAt C (bodyOf Tryd.f68) (.b (.b (.b (.b (.a (.b (.b (.b (.b (.a (.a (.b .o)))))))))))) ⟨upd g 0 (.d (.int .i64 op)), H, n⟩ (PostD C Tryd.f68 [(.int .i64 r)]) := by
 refine Ps (Pr rfl (Wm rfl ?_))
 refine Wc h rfl ?_ ?_ <;> intro _ h
 refine Wa rfl (Wn (Ns (Ct (Pk (Nc (Nb (Nb (Nb (Nb ?_)))))))))
 refine Nb (Ns (Ct (Ps (Pr rfl (Wa rfl (Wn (Ns ?_)))))))
 cases h; exact Pq rfl rfl
 refine Wa rfl (Wn (Ns (Cf (Pr rfl (Wm rfl ?_)))))
 refine Wc h rfl ?_ ?_ <;> intro _ h
 refine Wa rfl (Wn (Nb (Nb (Nb (Nb (Nb (Nb (Ns (Ct ?_)))))))))
 refine Ps (Pr rfl (Wa rfl (Wn (Ns ?_))))
 cases h; exact Pq rfl rfl
 refine Wa rfl (Wn (Nb (Nb (Nb (Nb (Nb (Nb (Ns (Cf ?_)))))))))
 refine Pk (Nb (Nb (Nb (Nb (Nb (Nb (Nk (Ns (Ps ?_)))))))))
 refine Pr rfl (Wa rfl (Wn (Ns ?_)))
 cases h; exact Pq rfl rfl
theorem r3_Arity_k3_ok (op : Int) (r : Int) (h : r3_Arity_k3 op = some r) (g : Nat → AV) (H : Hs) (n : Nat) : PAt C (bodyOf Tryd.f68) (.b (.b (.a (.b (.b (.b (.b (.a (.a (.b .o)))))))))) ⟨upd g 0 (.d (.int .i64 op)), H, n⟩ (PostD C Tryd.f68 [(.int .i64 r)]) := by
 refine Ps (Pr rfl (Wm rfl ?_))
 refine Wc h rfl ?_ ?_ <;> intro _ h
 refine Wm rfl (Wm rfl ?_)
 refine Wc h rfl ?_ ?_ <;> intro _ h
 refine Wt rfl rfl (Wa rfl (Wn (Ns (Ct (Pk (Nc (Nb (Nb (Nb ?_)))))))))
 refine Ns (Ct (Ps (Pr rfl (Wa rfl (Wn (Ns ?_))))))
 cases h; exact Pq rfl rfl
 refine Wt rfl rfl (Wa rfl (Wn (Ns (Cf ?_))))
 exact jm 0 (r3_Arity_k4_ok _ _ h _ _ _)
 refine Wm rfl (Wk (Wk (Wf rfl rfl (Wa rfl (Wn (Ns (Cf ?_)))))))
 exact jm 0 (r3_Arity_k4_ok _ _ h _ _ _)
theorem r3_Arity_k2_ok (op : Int) (r : Int) (h : r3_Arity_k2 op = some r) (g : Nat → AV) (H : Hs) (n : Nat) : PAt C (bodyOf Tryd.f68) (.b (.b (.b (.b (.a (.a (.b .o))))))) ⟨upd g 0 (.d (.int .i64 op)), H, n⟩ (PostD C Tryd.f68 [(.int .i64 r)]) := by
 refine Ps (Ps (Pr rfl (Wm rfl ?_)))
 refine Wc h rfl ?_ ?_ <;> intro _ h
 refine Wm rfl (Wm rfl ?_)
 refine Wc h rfl ?_ ?_ <;> intro _ h
 refine Wt rfl rfl (Wa rfl (Wn (Ns (Ct (Pk (Nc (Nb (Ns (Ct ?_)))))))))
 refine Ps (Pr rfl (Wa rfl (Wn (Ns ?_))))
 cases h; exact Pq rfl rfl
 refine Wt rfl rfl (Wa rfl (Wn (Ns (Cf ?_))))
 exact jm 0 (r3_Arity_k3_ok _ _ h _ _ _)
 refine Wm rfl (Wk (Wk (Wf rfl rfl (Wa rfl (Wn (Ns (Cf ?_)))))))
 exact jm 0 (r3_Arity_k3_ok _ _ h _ _ _)
theorem r3_Arity_k1_ok (op : Int) (r : Int) (h : r3_Arity_k1 op = some r) (g : Nat → AV) (H : Hs) (n : Nat) : PAt C (bodyOf Tryd.f68) (.b (.b (.a (.a (.b .o))))) ⟨upd g 0 (.d (.int .i64 op)), H, n⟩ (PostD C Tryd.f68 [(.int .i64 r)]) := by
 refine Ps (Pr rfl (Wm rfl ?_))
 refine Wc h rfl ?_ ?_ <;> intro _ h
 refine Wm rfl (Wm rfl ?_)
 refine Wc h rfl ?_ ?_ <;> intro _ h
 refine Wt rfl rfl (Wa rfl (Wn (Ns (Ct (Ps (Pr rfl (Wa rfl (Wn (Ns ?_)))))))))
 cases h; exact Pq rfl rfl
 refine Wt rfl rfl (Wa rfl (Wn (Ns (Cf ?_))))
 exact jm 0 (r3_Arity_k2_ok _ _ h _ _ _)
 refine Wm rfl (Wk (Wk (Wf rfl rfl (Wa rfl (Wn (Ns (Cf ?_)))))))
 exact jm 0 (r3_Arity_k2_ok _ _ h _ _ _)
theorem r3_Arity_ok (op : Int) (r : Int) (h : r3_Arity op = some r) : callD C 68 [(.int .i64 op)] = some [(.int .i64 r)] := by
 refine callD_at (ext0 _ _ rfl) fn68 rfl (jmp 0 (.d (.int .i64 op)) rfl (Ps (Pr rfl (Wa rfl (Wn (Ns (Ps (Pb (Ps ?_)))))))))
 refine Pr rfl (Wm rfl ?_)
 refine Wc h rfl ?_ ?_ <;> intro _ h
 refine Wm rfl (Wm rfl ?_)
 refine Wc h rfl ?_ ?_ <;> intro _ h
 refine Wt rfl rfl (Wa rfl (Wn (Ns (Ct (Ps (Pr rfl (Wa rfl (Wn (Ns ?_)))))))))
 cases h; exact Pq rfl rfl
 refine Wt rfl rfl (Wa rfl (Wn (Ns (Cf ?_))))
 exact jm 0 (r3_Arity_k1_ok _ _ h _ _ _)
 refine Wm rfl (Wk (Wk (Wf rfl rfl (Wa rfl (Wn (Ns (Cf ?_)))))))
 exact jm 0 (r3_Arity_k1_ok _ _ h _ _ _)
end Go.Proofs.YtdcpfmjnkcodiaaDoor.We
namespace Go.Proofs.YtdcpfmjnkcodiaaDoor.We
open Go Go.Jv
set_option maxHeartbeats 4000000
open Go.Proofs
set_option maxHeartbeats 4000000
def r3_Span_L1_M (e : List NodeT) (wanted : Int) (j : Int) (r : Int) : Prop := ∀ (g : Nat → AV) (H : Hs) (n : Nat), PAt C (bodyOf Tryd.f15) (.a (.b (.a (.b (.b (.b .o)))))) ⟨upd (upd (upd g 0 (.d (.lst (e.map NodeT.enc)))) 5 (.d (.int .i64 wanted))) 6 (.d (.int .i64 j)), H, n⟩ (PostD C Tryd.f15 [(.int .i64 r)])
theorem r3_Span_L1_ok (e : List NodeT) (wanted : Int) (j : Int) (r : Int) (h : r3_Span_L1 e wanted j = some r) : r3_Span_L1_M e wanted j r := by
 refine r3_Span_L1.partial_correctness e (fun wanted j r => r3_Span_L1_M e wanted j r) (fun r3_Span_L1 ih_r3_Span_L1 wanted j r h g H n => ?_) wanted j r h
 refine Po (Ps (Ps (Pr rfl (Wm rfl ?_))))
 refine Wc h rfl ?_ ?_ <;> intro _ h
 refine Wn (Ns (Ct (Pk (Nc (Nb (Ns (Ps (Pb (Ps ?_)))))))))
 refine Pr rfl (Wm rfl (Wm rfl ?_))
 refine w_idx h rfl elem22 szg115 (fun _ => rfl) rfl rfl (fun t23 h => ?_)
 refine w_faddr_d rfl fo115_0 (by decide) rfl (w_load_d szg3 rfl rfl ?_)
 refine w_scal (E := eI) h rfl sig68 (sc rfl (sn)) (fun y hy => r3_Arity_ok _ y hy) (fun _ => rfl) (fun t26 h => ?_)
 refine Wa rfl (Wn (Ns (Ps (Ps (Pr rfl (Wm rfl ?_))))))
 refine Wc h rfl ?_ ?_ <;> intro _ h
 refine Wn (Ns (Ct (Ps (Pr rfl (Wa rfl (Wn (Ns ?_)))))))
 cases h; exact Pq rfl rfl
 refine Wn (Ns (Cf (Pk (Nb (Nb (Ns (Ps (Pr rfl (Wm rfl ?_)))))))))
 refine Wb rfl (Wm rfl (Wb rfl (Wa rfl (Wn (Ns (Ps (Pr rfl (Wm rfl ?_))))))))
 refine Wc h rfl ?_ ?_ <;> intro _ h
 refine Wn (Ns (Ct (Ps (Pr rfl (Wm rfl (Wa rfl (Wn (Ns ?_))))))))
 cases h; exact Pq rfl rfl
 refine Wn (Ns (Cf (Pk (Nb (Nb (Nb (Nb (Nb (Nk ?_)))))))))
 refine Ns (Pr rfl (Wm rfl (Wb rfl (Wa rfl (Wn (Nb (Nb (Nl ?_))))))))
 exact jm 0 (jm 5 (jm 6 (ih_r3_Span_L1 _ _ _ h _ _ _)))
 refine Wn (Ns (Cf (Px rfl (Nb (Nb (Xs (Xl (Xb (Nb ?_)))))))))
 refine Ns (Ps (Pr rfl (Wa rfl (Wn (Ns ?_)))))
 cases h; exact Pq rfl rfl
theorem r3_Span_ok (e : List NodeT) (i : Int) (r : Int) (h : r3_Span e i = some r) : callD C 15 [(.lst (e.map NodeT.enc)), (.int .i64 i)] = some [(.int .i64 r)] := by
 refine callD_at (ext0 _ _ rfl) fn15 rfl (jmp 0 (.d (.lst (e.map NodeT.enc))) rfl (jmp 1 (.d (.int .i64 i)) rfl (Ps (Pr rfl (Wa rfl (Wn (Ns (Ps (Ps ?_)))))))))
 refine Pr rfl (Wm rfl ?_)
 refine Wc h rfl ?_ ?_ <;> intro _ h
 refine Wm rfl (Wk (Wk (Wk (Wk (Wt rfl rfl (Wn (Ns (Ct (Ps ?_)))))))))
 refine Pr rfl (Wa rfl (Wn (Ns ?_)))
 cases h; exact Pq rfl rfl
 refine Wm rfl (Wm rfl (Wm rfl (w_len_d elem22 rfl ?_)))
 refine Wc h rfl ?_ ?_ <;> intro _ h
 refine Wf rfl rfl (Wn (Ns (Ct (Ps (Pr rfl (Wa rfl (Wn (Ns ?_))))))))
 cases h; exact Pq rfl rfl
 refine Wf rfl rfl (Wn (Ns (Cf (Pk (Nb (Nb (Ns (Ps (Pr rfl ?_)))))))))
 refine Wa rfl (Wn (Ns (Ps (Ps (Pr rfl (Wm rfl (Wa rfl (Wn (Ns ?_)))))))))
 refine Pb ?_
 exact jm 0 (jm 5 (jm 6 (r3_Span_L1_ok _ _ _ _ h _ _ _)))
theorem r3_One_ok (e : List NodeT) (r : Bool) (h : r3_One e = some r) : callD C 69 [(.lst (e.map NodeT.enc))] = some [(.bool r)] := by
 refine callD_at (ext0 _ _ rfl) fn69 rfl (jmp 0 (.d (.lst (e.map NodeT.enc))) rfl (Ps (Pr rfl (Wa rfl (Wn (Ns (Ps (Ps (Pr rfl ?_)))))))))
 refine Wm rfl (w_len_d elem22 rfl ?_)
 refine Wc h rfl ?_ ?_ <;> intro _ h
 refine Wn (Ns (Ct (Ps (Pr rfl (Wa rfl (Wn (Ns ?_)))))))
 cases h; exact Pq rfl rfl
 refine Wn (Ns (Cf (Pk (Nb (Nb (Ns (Ps (Pr rfl (Wm rfl ?_)))))))))
 refine Wm rfl (w_len_d elem22 rfl (Wb rfl ?_))
 refine w_scal (E := eI) h rfl sig15 (sc rfl (sc rfl (sn))) (fun y hy => r3_Span_ok _ _ y hy) (fun _ => rfl) (fun t11 h => ?_)
 refine Wa rfl (Wn (Ns (Ps (Pr rfl (Wm rfl (Wb rfl (Wa rfl (Wn (Ns ?_)))))))))
 cases h; exact Pq rfl rfl
theorem r3_Asked_ok (op : Int) (r : Int × Int) (h : r3_Asked op = some r) : callD C 70 [(.int .i64 op)] = some [(.int .i64 r.1), (.int .i64 r.2)] := by
 refine callD_at (ext0 _ _ rfl) fn70 rfl (jmp 0 (.d (.int .i64 op)) rfl (Ps (Pr rfl (Wa rfl (Wa rfl (Wn (Ns (Ps (Ps ?_)))))))))
 refine Pr rfl (Wm rfl (Wn (Ns (Pb (Ps (Pr rfl ?_))))))
 refine Wc h rfl ?_ ?_ <;> intro _ h
 refine Wa rfl (Wn (Ns (Ct (Ps (Pr rfl (Wa rfl (Wa rfl (Wn (Ns ?_)))))))))
 cases h; exact Pq rfl rfl
 refine Wa rfl (Wn (Ns (Cf (Ps (Pr rfl ?_)))))
 refine Wc h rfl ?_ ?_ <;> intro _ h
 refine Wa rfl (Wn (Ns (Ct (Ps (Pr rfl (Wa rfl (Wa rfl (Wn (Ns ?_)))))))))
 cases h; exact Pq rfl rfl
 refine Wa rfl (Wn (Ns (Cf (Ps (Pr rfl ?_)))))
 refine Wc h rfl ?_ ?_ <;> intro _ h
 refine Wa rfl (Wn (Ns (Ct (Ps (Pr rfl (Wa rfl (Wa rfl (Wn (Ns ?_)))))))))
 cases h; exact Pq rfl rfl
 refine Wa rfl (Wn (Ns (Cf (Ps (Ps (Pr rfl ?_))))))
 refine Wc h rfl ?_ ?_ <;> intro _ h
 refine Wa rfl (Wn (Ns (Ct (Pk (Nc (Nb (Ns (Ct (Ps ?_)))))))))
 refine Pr rfl (Wa rfl (Wa rfl (Wn (Ns ?_))))
 cases h; exact Pq rfl rfl
 refine Wa rfl (Wn (Ns (Cf (Ps (Pr rfl ?_)))))
 refine Wc h rfl ?_ ?_ <;> intro _ h
 refine Wa rfl (Wn (Ns (Ct (Pk (Nc (Nb (Nb (Nb (Ns ?_)))))))))
 refine Ct (Ps (Pr rfl (Wa rfl (Wa rfl (Wn (Ns ?_))))))
 cases h; exact Pq rfl rfl
 refine Wa rfl (Wn (Ns (Cf (Ps (Pr rfl ?_)))))
 refine Wc h rfl ?_ ?_ <;> intro _ h
 refine Wa rfl (Wn (Ns (Ct (Pk (Nc (Nb (Nb (Nb (Nb ?_)))))))))
 refine Nb (Ns (Ct (Ps (Pr rfl (Wa rfl (Wa rfl (Wn (Ns ?_))))))))
 cases h; exact Pq rfl rfl
 refine Wa rfl (Wn (Ns (Cf (Ps (Pr rfl ?_)))))
 refine Wc h rfl ?_ ?_ <;> intro _ h
 refine Wa rfl (Wn (Ns (Ct (Pk (Nc (Nb (Nb (Nb (Nb ?_)))))))))
 refine Nb (Nb (Nb (Ns (Ct (Ps (Pr rfl (Wa rfl (Wa rfl (Wn ?_)))))))))
 refine Ns ?_
 cases h; exact Pq rfl rfl
 refine Wa rfl (Wn (Ns (Cf (Ps (Pr rfl ?_)))))
 refine Wc h rfl ?_ ?_ <;> intro _ h
 refine Wa rfl (Wn (Ns (Ct (Pk (Nc (Nb (Nb (Nb (Nb ?_)))))))))
 refine Nb (Nb (Nb (Nb (Nb (Ns (Ct (Ps (Pr rfl (Wa rfl ?_)))))))))
 refine Wa rfl (Wn (Ns ?_))
 cases h; exact Pq rfl rfl
 refine Wa rfl (Wn (Ns (Cf (Pr rfl ?_))))
 refine Wc h rfl ?_ ?_ <;> intro _ h
 refine Wa rfl (Wn (Nb (Nb (Nb (Nb (Nb (Nb (Nb (Nb ?_)))))))))
 refine Nb (Nb (Ns (Ct (Ps (Pr rfl (Wa rfl (Wa rfl (Wn (Ns ?_)))))))))
 cases h; exact Pq rfl rfl
 refine Wa rfl (Wn (Nb (Nb (Nb (Nb (Nb (Nb (Nb (Nb ?_)))))))))
 refine Nb (Nb (Ns (Cf (Ps (Ps (Pr rfl ?_))))))
 refine Wc h rfl ?_ ?_ <;> intro _ h
 refine Wa rfl (Wn (Ns (Ct (Pk (Nc (Nb (Ns (Ct (Ps ?_)))))))))
 refine Pr rfl (Wa rfl (Wa rfl (Wn (Ns ?_))))
 cases h; exact Pq rfl rfl
 refine Wa rfl (Wn (Ns (Cf (Pr rfl ?_))))
 refine Wc h rfl ?_ ?_ <;> intro _ h
 refine Wa rfl (Wn (Nb (Nb (Ns (Ct (Ps (Pr rfl (Wa rfl (Wa rfl ?_)))))))))
 refine Wn (Ns ?_)
 cases h; exact Pq rfl rfl
 refine Wa rfl (Wn (Nb (Nb (Ns (Cf (Ps (Ps (Pr rfl ?_))))))))
 refine Wc h rfl ?_ ?_ <;> intro _ h
 refine Wa rfl (Wn (Ns (Ct (Pk (Nc (Nb (Ns (Ct (Ps ?_)))))))))
 refine Pr rfl (Wa rfl (Wa rfl (Wn (Ns ?_))))
 cases h; exact Pq rfl rfl
 refine Wa rfl (Wn (Ns (Cf (Ps (Pr rfl ?_)))))
 refine Wc h rfl ?_ ?_ <;> intro _ h
 refine Wa rfl (Wn (Ns (Ct (Pk (Nc (Nb (Nb (Nb (Ns ?_)))))))))
 refine Ct (Ps (Pr rfl (Wa rfl (Wa rfl (Wn (Ns ?_))))))
 cases h; exact Pq rfl rfl
 refine Wa rfl (Wn (Ns (Cf (Pr rfl ?_))))
 refine Wc h rfl ?_ ?_ <;> intro _ h
 refine Wa rfl (Wn (Nb (Nb (Nb (Nb (Ns (Ct (Ps (Pr rfl ?_)))))))))
 refine Wa rfl (Wa rfl (Wn (Ns ?_)))
 cases h; exact Pq rfl rfl
 refine Wa rfl (Wn (Nb (Nb (Nb (Nb (Ns (Cf (Ps (Pr rfl ?_)))))))))
 refine Wc h rfl ?_ ?_ <;> intro _ h
 refine Wa rfl (Wn (Ns (Ct (Ps (Pr rfl (Wa rfl (Wa rfl (Wn (Ns ?_)))))))))
 cases h; exact Pq rfl rfl
 refine Wa rfl (Wn (Ns (Cf (Pk (Nb (Nb (Nb (Nb (Nb ?_)))))))))
 refine Nb (Nb (Nb (Nb (Nb (Nb (Nb (Nb (Nb (Nk ?_)))))))))
 refine Nb (Ns (Ps (Pr rfl (Wa rfl (Wa rfl (Wn (Ns ?_)))))))
 cases h; exact Pq rfl rfl
theorem r3_Level_ok (op : Int) (r : Int) (h : r3_Level op = some r) : callD C 71 [(.int .i64 op)] = some [(.int .i64 r)] := by
 refine callD_at (ext0 _ _ rfl) fn71 rfl (jmp 0 (.d (.int .i64 op)) rfl (Ps (Pr rfl (Wa rfl (Wn (Ns (Ps (Ps (Pr rfl ?_)))))))))
 refine Wm rfl (Wn (Ns (Pb (Ps (Pr rfl ?_)))))
 refine Wc h rfl ?_ ?_ <;> intro _ h
 refine Wa rfl (Wn (Ns (Ct (Ps (Pr rfl (Wa rfl (Wn (Ns ?_))))))))
 cases h; exact Pq rfl rfl
 refine Wa rfl (Wn (Ns (Cf (Ps (Pr rfl ?_)))))
 refine Wc h rfl ?_ ?_ <;> intro _ h
 refine Wa rfl (Wn (Ns (Ct (Ps (Pr rfl (Wa rfl (Wn (Ns ?_))))))))
 cases h; exact Pq rfl rfl
 refine Wa rfl (Wn (Ns (Cf (Ps (Pr rfl ?_)))))
 refine Wc h rfl ?_ ?_ <;> intro _ h
 refine Wa rfl (Wn (Ns (Ct (Ps (Pr rfl (Wa rfl (Wn (Ns ?_))))))))
 cases h; exact Pq rfl rfl
 refine Wa rfl (Wn (Ns (Cf (Ps (Ps (Pr rfl ?_))))))
 refine Wc h rfl ?_ ?_ <;> intro _ h
 refine Wa rfl (Wn (Ns (Ct (Pk (Nc (Nb (Ns (Ct (Ps ?_)))))))))
 refine Pr rfl (Wa rfl (Wn (Ns ?_)))
 cases h; exact Pq rfl rfl
 refine Wa rfl (Wn (Ns (Cf (Ps (Pr rfl ?_)))))
 refine Wc h rfl ?_ ?_ <;> intro _ h
 refine Wa rfl (Wn (Ns (Ct (Pk (Nc (Nb (Nb (Nb (Ns ?_)))))))))
 refine Ct (Ps (Pr rfl (Wa rfl (Wn (Ns ?_)))))
 cases h; exact Pq rfl rfl
 refine Wa rfl (Wn (Ns (Cf (Ps (Pr rfl ?_)))))
 refine Wc h rfl ?_ ?_ <;> intro _ h
 refine Wa rfl (Wn (Ns (Ct (Pk (Nc (Nb (Nb (Nb (Nb ?_)))))))))
 refine Nb (Ns (Ct (Ps (Pr rfl (Wa rfl (Wn (Ns ?_)))))))
 cases h; exact Pq rfl rfl
 refine Wa rfl (Wn (Ns (Cf (Ps (Pr rfl ?_)))))
 refine Wc h rfl ?_ ?_ <;> intro _ h
 refine Wa rfl (Wn (Ns (Ct (Pk (Nc (Nb (Nb (Nb (Nb ?_)))))))))
 refine Nb (Nb (Nb (Ns (Ct (Ps (Pr rfl (Wa rfl (Wn (Ns ?_)))))))))
 cases h; exact Pq rfl rfl
 refine Wa rfl (Wn (Ns (Cf (Ps (Pr rfl ?_)))))
 refine Wc h rfl ?_ ?_ <;> intro _ h
 refine Wa rfl (Wn (Ns (Ct (Pk (Nc (Nb (Nb (Nb (Nb ?_)))))))))
 refine Nb (Nb (Nb (Nb (Nb (Ns (Ct (Ps (Pr rfl (Wa rfl ?_)))))))))
 refine Wn (Ns ?_)
 cases h; exact Pq rfl rfl
 refine Wa rfl (Wn (Ns (Cf (Pr rfl ?_))))
 refine Wc h rfl ?_ ?_ <;> intro _ h
 refine Wa rfl (Wn (Nb (Nb (Nb (Nb (Nb (Nb (Nb (Nb ?_)))))))))
 refine Nb (Nb (Ns (Ct (Ps (Pr rfl (Wa rfl (Wn (Ns ?_))))))))
 cases h; exact Pq rfl rfl
 refine Wa rfl (Wn (Nb (Nb (Nb (Nb (Nb (Nb (Nb (Nb ?_)))))))))
 refine Nb (Nb (Ns (Cf (Ps (Ps (Pr rfl ?_))))))
 refine Wc h rfl ?_ ?_ <;> intro _ h
 refine Wa rfl (Wn (Ns (Ct (Pk (Nc (Nb (Ns (Ct (Ps ?_)))))))))
 refine Pr rfl (Wa rfl (Wn (Ns ?_)))
 cases h; exact Pq rfl rfl
 refine Wa rfl (Wn (Ns (Cf (Pr rfl ?_))))
 refine Wc h rfl ?_ ?_ <;> intro _ h
 refine Wa rfl (Wn (Nb (Nb (Ns (Ct (Ps (Pr rfl (Wa rfl (Wn ?_)))))))))
 refine Ns ?_
 cases h; exact Pq rfl rfl
 refine Wa rfl (Wn (Nb (Nb (Ns (Cf (Ps (Ps (Pr rfl ?_))))))))
 refine Wc h rfl ?_ ?_ <;> intro _ h
 refine Wa rfl (Wn (Ns (Ct (Pk (Nc (Nb (Ns (Ct (Ps ?_)))))))))
 refine Pr rfl (Wa rfl (Wn (Ns ?_)))
 cases h; exact Pq rfl rfl
 refine Wa rfl (Wn (Ns (Cf (Ps (Pr rfl ?_)))))
 refine Wc h rfl ?_ ?_ <;> intro _ h
 refine Wa rfl (Wn (Ns (Ct (Pk (Nc (Nb (Nb (Nb (Ns ?_)))))))))
 refine Ct (Ps (Pr rfl (Wa rfl (Wn (Ns ?_)))))
 cases h; exact Pq rfl rfl
 refine Wa rfl (Wn (Ns (Cf (Pr rfl ?_))))
 refine Wc h rfl ?_ ?_ <;> intro _ h
 refine Wa rfl (Wn (Nb (Nb (Nb (Nb (Ns (Ct (Ps (Pr rfl ?_)))))))))
 refine Wa rfl (Wn (Ns ?_))
 cases h; exact Pq rfl rfl
 refine Wa rfl (Wn (Nb (Nb (Nb (Nb (Ns (Cf (Ps (Pr rfl ?_)))))))))
 refine Wc h rfl ?_ ?_ <;> intro _ h
 refine Wa rfl (Wn (Ns (Ct (Ps (Pr rfl (Wa rfl (Wn (Ns ?_))))))))
 cases h; exact Pq rfl rfl
 refine Wa rfl (Wn (Ns (Cf (Pk (Nb (Nb (Nb (Nb (Nb ?_)))))))))
 refine Nb (Nb (Nb (Nb (Nb (Nb (Nb (Nb (Nb (Nk ?_)))))))))
 refine Nb (Ns (Ps (Pr rfl (Wa rfl (Wn (Ns ?_))))))
 cases h; exact Pq rfl rfl
def r3_Nest_L2_m (eF : List NodeT) : r3_Nest_L2_S → Int → Prop := fun st r => match st with
  | .c0 nests ops i => ∀ (w0 w1 g H n) (hH : HP H n [o3_1 w0 nests, o3_1 w1 ops]), PAt C (bodyOf Tryd.f16) (.a (.b (.a (.b (.b (.b (.b (.b .o)))))))) ⟨upd (upd (upd (upd g 0 (.d (.lst (eF.map NodeT.enc)))) 4 (w0)) 5 (w1)) 6 (.d (.int .i64 i)), H, n⟩ (PostD C Tryd.f16 [(.int .i64 r)])
  | .c1 nests ops i op a x y own k => ∀ (w0 w1 g H n) (hH : HP H n [o3_1 w0 nests, o3_1 w1 ops]), PAt C (bodyOf Tryd.f16) (.a (.b (.a (.b (.b (.b (.b (.a (.a (.b (.a (.a (.b (.a (.b (.b (.b (.b (.b .o))))))))))))))))))) ⟨upd (upd (upd (upd (upd (upd (upd (upd (upd (upd g 0 (.d (.lst (eF.map NodeT.enc)))) 4 (w0)) 5 (w1)) 6 (.d (.int .i64 i))) 7 (.d (.int .i64 op))) 8 (.d (.int .i64 a))) 9 (.d (.int .i64 x))) 10 (.d (.int .i64 y))) 11 (.d (.int .i64 own))) 12 (.d (.int .i64 k)), H, n⟩ (PostD C Tryd.f16 [(.int .i64 r)])
  | .c2 nests ops i op a x y own k n_ asked => ∀ (w0 w1 g H n) (hH : HP H n [o3_1 w0 nests, o3_1 w1 ops]), PAt C (bodyOf Tryd.f16) (.b (.b (.b (.a (.a (.b (.a (.a (.b (.a (.b (.b (.b (.b (.a (.a (.b (.a (.a (.b (.a (.b (.b (.b (.b (.b .o)))))))))))))))))))))))))) ⟨upd (upd (upd (upd (upd (upd (upd (upd (upd (upd (upd (upd g 0 (.d (.lst (eF.map NodeT.enc)))) 4 (w0)) 5 (w1)) 6 (.d (.int .i64 i))) 7 (.d (.int .i64 op))) 8 (.d (.int .i64 a))) 9 (.d (.int .i64 x))) 10 (.d (.int .i64 y))) 11 (.d (.int .i64 own))) 12 (.d (.int .i64 k))) 13 (.d (.int .i64 n_))) 14 (.d (.int .i64 asked)), H, n⟩ (PostD C Tryd.f16 [(.int .i64 r)])
  | .c3 nests ops i op a x y own k v => ∀ (w0 w1 g H n) (hH : HP H n [o3_1 w0 nests, o3_1 w1 ops]), PAt C (bodyOf Tryd.f16) (.b (.b (.b (.b (.b (.a (.a (.b (.a (.a (.b (.a (.b (.b (.b (.b (.a (.a (.b (.a (.a (.b (.a (.b (.b (.b (.b (.b .o)))))))))))))))))))))))))))) ⟨upd (upd (upd (upd (upd (upd (upd (upd (upd (upd (upd g 0 (.d (.lst (eF.map NodeT.enc)))) 4 (w0)) 5 (w1)) 6 (.d (.int .i64 i))) 7 (.d (.int .i64 op))) 8 (.d (.int .i64 a))) 9 (.d (.int .i64 x))) 10 (.d (.int .i64 y))) 11 (.d (.int .i64 own))) 12 (.d (.int .i64 k))) 15 (.d (.int .i64 v)), H, n⟩ (PostD C Tryd.f16 [(.int .i64 r)])
  | .c4 nests ops i op a x y own k => ∀ (w0 w1 g H n) (hH : HP H n [o3_1 w0 nests, o3_1 w1 ops]), PAt C (bodyOf Tryd.f16) (.b (.b (.a (.a (.b (.a (.b (.b (.b (.b (.a (.a (.b (.a (.a (.b (.a (.b (.b (.b (.b (.b .o)))))))))))))))))))))) ⟨upd (upd (upd (upd (upd (upd (upd (upd (upd (upd g 0 (.d (.lst (eF.map NodeT.enc)))) 4 (w0)) 5 (w1)) 6 (.d (.int .i64 i))) 7 (.d (.int .i64 op))) 8 (.d (.int .i64 a))) 9 (.d (.int .i64 x))) 10 (.d (.int .i64 y))) 11 (.d (.int .i64 own))) 12 (.d (.int .i64 k)), H, n⟩ (PostD C Tryd.f16 [(.int .i64 r)])
  | .c5 nests ops i op a own => ∀ (w0 w1 g H n) (hH : HP H n [o3_1 w0 nests, o3_1 w1 ops]), PAt C (bodyOf Tryd.f16) (.a (.b (.a (.b (.b (.b (.b (.b (.a (.a (.b (.a (.a (.b (.a (.b (.b (.b (.b (.b .o)))))))))))))))))))) ⟨upd (upd (upd (upd (upd (upd (upd g 0 (.d (.lst (eF.map NodeT.enc)))) 4 (w0)) 5 (w1)) 6 (.d (.int .i64 i))) 7 (.d (.int .i64 op))) 8 (.d (.int .i64 a))) 11 (.d (.int .i64 own)), H, n⟩ (PostD C Tryd.f16 [(.int .i64 r)])
  | .c6 nests ops i op a own => ∀ (w0 w1 g H n) (hH : HP H n [o3_1 w0 nests, o3_1 w1 ops]), PAt C (bodyOf Tryd.f16) (.b (.b (.b (.b (.b (.b (.a (.a (.b (.a (.a (.b (.a (.b (.b (.b (.b (.b .o)))))))))))))))))) ⟨upd (upd (upd (upd (upd (upd (upd g 0 (.d (.lst (eF.map NodeT.enc)))) 4 (w0)) 5 (w1)) 6 (.d (.int .i64 i))) 7 (.d (.int .i64 op))) 8 (.d (.int .i64 a))) 11 (.d (.int .i64 own)), H, n⟩ (PostD C Tryd.f16 [(.int .i64 r)])
theorem r3_Nest_L2_run_ok (eF : List NodeT) (st : r3_Nest_L2_S) (r : Int) (h : r3_Nest_L2_run eF st = some r) : r3_Nest_L2_m eF st r := by
 refine r3_Nest_L2_run.partial_correctness eF (r3_Nest_L2_m eF) (fun r3_Nest_L2_run' ih_ st r h => ?_) st r h
 cases st with
 | c0 nests ops i =>
  intro w0 w1 g H n hH
  refine Po (Ps (Ps (Pr rfl (Wm rfl (Wm rfl (w_len_d elem22 rfl ?_))))))
  refine Wc h rfl ?_ ?_ <;> intro _ h
  refine Wn (Ns (Ct (Pk (Nc (Nb (Ns (Ps (Pb (Ps ?_)))))))))
  refine Pr rfl (Wm rfl (Wm rfl ?_))
  refine w_idx h rfl elem22 szg115 (fun _ => rfl) rfl rfl (fun t28 h => ?_)
  refine w_faddr_d rfl fo115_0 (by decide) rfl (w_load_d szg3 rfl rfl (Wa rfl (Wn (Ns (Ps (Pr rfl (Wm rfl ?_)))))))
  refine w_scal (E := eI) h rfl sig68 (sc rfl (sn)) (fun y hy => r3_Arity_ok _ y hy) (fun _ => rfl) (fun t32 h => ?_)
  refine Wa rfl (Wn (Ns (Ps (Pr rfl (Wm rfl ?_)))))
  refine w_scal (E := (fun y => [(.int .i64 y.1), (.int .i64 y.2)])) h rfl sig70 (sc rfl (sn)) (fun y hy => r3_Asked_ok _ y hy) (fun _ => rfl) (fun t35 h => ?_)
  refine w_move_v (.tup [.d (.int .i64 t35.1), .d (.int .i64 t35.2)]) rfl rfl (w_extract_d rfl rfl rfl (w_extract_d rfl rfl rfl (Wa rfl (Wa rfl (Wn (Ns (Ps (Pr rfl (Wa rfl ?_)))))))))
  refine Wn (Ns (Ps (Ps (Pr rfl (Wa rfl (Wn (Ns (Pb ?_))))))))
  exact jm 0 (jm 4 (jm 5 (jm 6 (jm 7 (jm 8 (jm 9 (jm 10 (jm 11 (jm 12 (ih_ (.c1 _ _ _ _ _ _ _ _ _) _ h w0 w1 _ _ _ hH))))))))))
  refine Wn (Ns (Cf (Px rfl (Nb (Nb (Xs (Xl (Xb (Nb ?_)))))))))
  refine Ns (Ps (Pr rfl (w_move_v (w0) rfl rfl ?_)))
  refine w_idx_own h rfl elem122 szg3 hH (j := 0) rfl rfl rfl (fun i6845 t105 h hl6845 hv6845 => ?_)
  refine w_load_e rfl szg3 hH (j := 0) rfl hl6845 rfl hv6845 rfl (Wa rfl (Wn (Ns ?_)))
  cases h; exact Pq rfl rfl
 | c1 nests ops i op a x y own k =>
  intro w0 w1 g H n hH
  refine Po (Ps (Ps (Pr rfl (Wm rfl (Wm rfl ?_)))))
  refine Wc h rfl ?_ ?_ <;> intro _ h
  refine Wn (Ns (Ct (Pk (Nc (Nb (Ns (Ps (Pb (Ps ?_)))))))))
  refine Pr rfl (w_move_v (w0) rfl rfl (w_len_own rfl elem122 hH (j := 0) rfl rfl (Wm rfl (Wb rfl (Wm rfl (Wb rfl (Wa rfl (Wn (Ns ?_)))))))))
  refine Ps (Pr rfl (Wm rfl (Wa rfl (Wn (Ns (Ps (Ps (Pr rfl (Wm rfl ?_)))))))))
  refine Wc h rfl ?_ ?_ <;> intro _ h
  refine Wn (Ns (Ct (Pr rfl (Wm rfl (Wa rfl (Wn (Nc (Nb (Ns ?_)))))))))
  exact jm 0 (jm 4 (jm 5 (jm 6 (jm 7 (jm 8 (jm 9 (jm 10 (jm 11 (jm 12 (jm 13 (jm 14 (ih_ (.c2 _ _ _ _ _ _ _ _ _ _ _) _ h w0 w1 _ _ _ hH))))))))))))
  refine Wn (Ns (Cf (Pk (Nb (Nb (Ns ?_))))))
  exact jm 0 (jm 4 (jm 5 (jm 6 (jm 7 (jm 8 (jm 9 (jm 10 (jm 11 (jm 12 (jm 13 (jm 14 (ih_ (.c2 _ _ _ _ _ _ _ _ _ _ _) _ h w0 w1 _ _ _ hH))))))))))))
  refine Wn (Ns (Cf (Px rfl (Nb (Nb (Xs (Xl (Xb (Nb ?_)))))))))
  refine Ns (Ps (Ps (Pr rfl (Wm rfl ?_))))
  refine Wc h rfl ?_ ?_ <;> intro _ h
  refine Wm rfl (Wm rfl ?_)
  refine Wc h rfl ?_ ?_ <;> intro _ h
  refine Wt rfl rfl (Wm rfl (Wk (Wk (Wt rfl rfl (Wm rfl (Wk (Wk (Wt rfl rfl (Wn ?_)))))))))
  refine Ns (Ct ?_)
  exact jm 0 (jm 4 (jm 5 (jm 6 (jm 7 (jm 8 (jm 11 (ih_ (.c5 _ _ _ _ _ _) _ h w0 w1 _ _ _ hH)))))))
  refine Wt rfl rfl (Wm rfl (Wm rfl ?_))
  refine Wc h rfl ?_ ?_ <;> intro _ h
  refine Wf rfl rfl (Wm rfl (Wk (Wk (Wt rfl rfl (Wn (Ns (Ct ?_)))))))
  exact jm 0 (jm 4 (jm 5 (jm 6 (jm 7 (jm 8 (jm 11 (ih_ (.c5 _ _ _ _ _ _) _ h w0 w1 _ _ _ hH)))))))
  refine Wf rfl rfl (Wm rfl (Wm rfl ?_))
  refine Wc h rfl ?_ ?_ <;> intro _ h
  refine Wf rfl rfl (Wn (Ns (Ct ?_)))
  exact jm 0 (jm 4 (jm 5 (jm 6 (jm 7 (jm 8 (jm 11 (ih_ (.c5 _ _ _ _ _ _) _ h w0 w1 _ _ _ hH)))))))
  refine Wf rfl rfl (Wn (Ns (Cf (Pk (Nb (Nb (Ns ?_)))))))
  exact jm 0 (jm 4 (jm 5 (jm 6 (jm 7 (jm 8 (jm 11 (ih_ (.c6 _ _ _ _ _ _) _ h w0 w1 _ _ _ hH)))))))
  refine Wm rfl (Wk (Wk (Wf rfl rfl (Wm rfl (Wm rfl ?_)))))
  refine Wc h rfl ?_ ?_ <;> intro _ h
  refine Wf rfl rfl (Wm rfl (Wk (Wk (Wt rfl rfl (Wn (Ns (Ct ?_)))))))
  exact jm 0 (jm 4 (jm 5 (jm 6 (jm 7 (jm 8 (jm 11 (ih_ (.c5 _ _ _ _ _ _) _ h w0 w1 _ _ _ hH)))))))
  refine Wf rfl rfl (Wm rfl (Wm rfl ?_))
  refine Wc h rfl ?_ ?_ <;> intro _ h
  refine Wf rfl rfl (Wn (Ns (Ct ?_)))
  exact jm 0 (jm 4 (jm 5 (jm 6 (jm 7 (jm 8 (jm 11 (ih_ (.c5 _ _ _ _ _ _) _ h w0 w1 _ _ _ hH)))))))
  refine Wf rfl rfl (Wn (Ns (Cf (Pk (Nb (Nb (Ns ?_)))))))
  exact jm 0 (jm 4 (jm 5 (jm 6 (jm 7 (jm 8 (jm 11 (ih_ (.c6 _ _ _ _ _ _) _ h w0 w1 _ _ _ hH)))))))
 | c2 nests ops i op a x y own k n_ asked =>
  intro w0 w1 g H n hH
  refine Ps (Pr rfl (w_move_v (w0) rfl rfl (Wm rfl ?_)))
  refine w_idx_own h rfl elem122 szg3 hH (j := 0) rfl rfl rfl (fun i6846 t55 h hl6846 hv6846 => ?_)
  refine w_load_e rfl szg3 hH (j := 0) rfl hl6846 rfl hv6846 rfl (Wa rfl (Wn (Ns (Ps (Ps (Pr rfl (w_move_v (w1) rfl rfl (Wm rfl ?_))))))))
  refine w_idx_own h rfl elem122 szg3 hH (j := 1) rfl rfl rfl (fun i6847 t59 h hl6847 hv6847 => ?_)
  refine w_load_e rfl szg3 hH (j := 1) rfl hl6847 rfl hv6847 rfl ?_
  refine w_scal (E := eI) h rfl sig71 (sc rfl (sn)) (fun y hy => r3_Level_ok _ y hy) (fun _ => rfl) (fun t61 h => ?_)
  refine Wm rfl ?_
  refine Wc h rfl ?_ ?_ <;> intro _ h
  refine Wn (Ns (Ct (Pr rfl (Wm rfl (Wb rfl (Wa rfl (Wn (Nc (Nb ?_)))))))))
  refine Ns ?_
  exact jm 0 (jm 4 (jm 5 (jm 6 (jm 7 (jm 8 (jm 9 (jm 10 (jm 11 (jm 12 (jm 15 (ih_ (.c3 _ _ _ _ _ _ _ _ _ _) _ h w0 w1 _ _ _ hH)))))))))))
  refine Wn (Ns (Cf (Pk (Nb (Nb (Ns ?_))))))
  exact jm 0 (jm 4 (jm 5 (jm 6 (jm 7 (jm 8 (jm 9 (jm 10 (jm 11 (jm 12 (jm 15 (ih_ (.c3 _ _ _ _ _ _ _ _ _ _) _ h w0 w1 _ _ _ hH)))))))))))
 | c3 nests ops i op a x y own k v =>
  intro w0 w1 g H n hH
  refine Ps (Pr rfl (Wm rfl (Wm rfl ?_)))
  refine Wc h rfl ?_ ?_ <;> intro _ h
  refine Wn (Ns (Ct (Pr rfl (Wm rfl (Wa rfl (Wn (Nc (Nb (Nb ?_)))))))))
  refine Nb (Nb (Nb (Nb (Nk (Ns ?_)))))
  exact jm 0 (jm 4 (jm 5 (jm 6 (jm 7 (jm 8 (jm 9 (jm 10 (jm 11 (jm 12 (ih_ (.c4 _ _ _ _ _ _ _ _ _) _ h w0 w1 _ _ _ hH))))))))))
  refine Wn (Ns (Cf (Pk (Nb (Nb (Nb (Nb (Nb (Nb ?_)))))))))
  refine Nb (Nk (Ns ?_))
  exact jm 0 (jm 4 (jm 5 (jm 6 (jm 7 (jm 8 (jm 9 (jm 10 (jm 11 (jm 12 (ih_ (.c4 _ _ _ _ _ _ _ _ _) _ h w0 w1 _ _ _ hH))))))))))
 | c4 nests ops i op a x y own k =>
  intro w0 w1 g H n hH
  refine Pr rfl (Wm rfl (Wb rfl (Wa rfl (Wn (Nb (Nb (Nl ?_)))))))
  exact jm 0 (jm 4 (jm 5 (jm 6 (jm 7 (jm 8 (jm 9 (jm 10 (jm 11 (jm 12 (ih_ (.c1 _ _ _ _ _ _ _ _ _) _ h w0 w1 _ _ _ hH))))))))))
 | c5 nests ops i op a own =>
  intro w0 w1 g H n hH
  refine Pr rfl (Wm rfl (Wb rfl (Wa rfl (Wn (Nc (Nb (Ns ?_)))))))
  exact jm 0 (jm 4 (jm 5 (jm 6 (jm 7 (jm 8 (jm 11 (ih_ (.c6 _ _ _ _ _ _) _ h w0 w1 _ _ _ hH)))))))
 | c6 nests ops i op a own =>
  intro w0 w1 g H n hH
  refine Ps (Pr rfl (w_move_v (w0) rfl rfl (w_move_v (w0) rfl rfl (w_len_own rfl elem122 hH (j := 0) rfl rfl (Wm rfl (Wb rfl ?_))))))
  refine w_cut_own h rfl elem122 szg3 hH (j := 0) rfl rfl lh_nh (fun t91 w7848 H' n' h hH => ?_)
  refine Wm rfl ?_
  refine w_bslice (enc := (Dat.int .i64)) (xs := [own]) [.d (.int .i64 own)] rfl elem122 szg3 zero3 ⟨by decide, Nat.le_of_ble_eq_true rfl⟩ zd3 (fun _ => rfl) (fun _ => rfl) rfl rfl hH (fun w7849 H' n' hH => ?_)
  refine w_append (enc := (Dat.int .i64)) h rfl elem122 szg3 bytes3 (by decide) (fun _ => rfl) hH (j := 1) rfl rfl (shows_own hH (j := 0) rfl) (fun t94 w7850 H' n' h hH => ?_)
  refine w_assign_v (w7850) rfl rfl (Wn (Ns (Pr rfl (w_move_v (w1) rfl rfl (w_move_v (w1) rfl rfl (w_len_own rfl elem122 hH (j := 2) rfl rfl (Wm rfl (Wb rfl ?_))))))))
  refine w_cut_own h rfl elem122 szg3 hH (j := 2) rfl rfl lh_nh (fun t100 w7851 H' n' h hH => ?_)
  refine Wm rfl ?_
  refine w_bslice (enc := (Dat.int .i64)) (xs := [op]) [.d (.int .i64 op)] rfl elem122 szg3 zero3 ⟨by decide, Nat.le_of_ble_eq_true rfl⟩ zd3 (fun _ => rfl) (fun _ => rfl) rfl rfl hH (fun w7852 H' n' hH => ?_)
  refine w_append (enc := (Dat.int .i64)) h rfl elem122 szg3 bytes3 (by decide) (fun _ => rfl) hH (j := 3) rfl rfl (shows_own hH (j := 0) rfl) (fun t103 w7853 H' n' h hH => ?_)
  refine w_assign_v (w7853) rfl rfl (Wn (Nb (Nb (Nb (Nb (Nb (Nb (Nb (Nk ?_)))))))))
  refine Ns (Pr rfl (Wm rfl (Wb rfl (Wa rfl (Wn (Nb (Nb (Nl ?_))))))))
  exact jm 0 (jm 4 (jm 5 (jm 6 (ih_ (.c0 _ _ _) _ h w7850 w7853 _ _ _ (hH.selG 4 [2, 0] (by decide) (by decide) (gc rfl (gc rfl (gt rfl))))))))
theorem r3_Nest_L2_ok (eF : List NodeT) (nests : List Int) (ops : List Int) (i : Int) (r : Int) (h : r3_Nest_L2 eF nests ops i = some r) : r3_Nest_L2_m eF (.c0 nests ops i) r := r3_Nest_L2_run_ok eF (.c0 nests ops i) r h
theorem r3_Nest_k1_ok (e : List NodeT) (ok : Bool) (r : Int) (h : r3_Nest_k1 e ok = some r) (g : Nat → AV) (H : Hs) (n : Nat) : PAt C (bodyOf Tryd.f16) (.b (.b .o)) ⟨upd (upd g 0 (.d (.lst (e.map NodeT.enc)))) 3 (.d (.bool ok)), H, n⟩ (PostD C Tryd.f16 [(.int .i64 r)]) := by
 refine Ps (Ps (Pr rfl (Wm rfl ?_)))
 refine w_split (b := (!ok)) h rfl (o_un rfl rfl) rfl (fun _ => ⟨rfl, rfl⟩) (fun _ h => ?_) (fun _ h => ?_)
 refine Wn (Ns (Ct (Ps (Pr rfl (Wa rfl (Wn (Ns ?_)))))))
 cases h; exact Pq rfl rfl
 refine Wn (Ns (Cf (Pk (Nb (Nb (Ns (Ps (Pr rfl (w_assign_v (.nil) rfl rfl ?_)))))))))
 refine Wn (Ns (Ps (Pr rfl (w_assign_v (.nil) rfl rfl (Wn (Ns (Ps (Ps (Pr rfl ?_)))))))))
 refine Wa rfl (Wn (Ns (Pb ?_)))
 exact jm 0 (jm 4 (jm 5 (jm 6 (r3_Nest_L2_ok _ _ _ _ _ h .nil .nil _ _ _ ((((HP.nil _ _).addNil (z := ⟨3, 1⟩)).addNil (z := ⟨3, 1⟩)).selG 2 [1, 0] (by decide) (by decide) (gc rfl (gc rfl (gt rfl))))))))
theorem r3_Nest_ok (e : List NodeT) (r : Int) (h : r3_Nest e = some r) : callD C 16 [(.lst (e.map NodeT.enc))] = some [(.int .i64 r)] := by
 refine callD_at (ext0 _ _ rfl) fn16 rfl (jmp 0 (.d (.lst (e.map NodeT.enc))) rfl (Ps (Pr rfl (Wa rfl (Wn (Ns (Ps (Pr rfl (Wm rfl ?_)))))))))
 refine w_scal (E := eB) h rfl sig69 (sc rfl (sn)) (fun y hy => r3_One_ok _ y hy) (fun _ => rfl) (fun t17 h => ?_)
 revert h; cases t17 <;> intro h
 replace h := if0 h
 refine Wa rfl (Wn (Ns ?_))
 exact jm 0 (jm 3 (r3_Nest_k1_ok _ _ _ h _ _ _))
 replace h := if1 h
 refine Wa rfl (Wn (Ns ?_))
 exact jm 0 (jm 3 (r3_Nest_k1_ok _ _ _ h _ _ _))
theorem r5_operands_ok (op : Int) (r : Int) (h : r5_operands op = some r) : callD C 155 [(.int .i64 op)] = some [(.int .i64 r)] := by
 refine callD_at (ext0 _ _ rfl) fn155 rfl (jmp 0 (.d (.int .i64 op)) rfl (Ps (Pr rfl (Wa rfl (Wn (Ns (Ps (Ps (Pr rfl ?_)))))))))
 refine Wm rfl ?_
 refine Wc h rfl ?_ ?_ <;> intro _ h
 refine Wn (Ns (Ct (Ps (Pr rfl (Wa rfl (Wn (Ns ?_)))))))
 cases h; exact Pq rfl rfl
 refine Wn (Ns (Cf (Pk (Nb (Nb (Ns (Ps (Ps (Pr rfl ?_)))))))))
 refine Wm rfl ?_
 refine Wc h rfl ?_ ?_ <;> intro _ h
 refine Wn (Ns (Ct (Ps (Pr rfl (Wa rfl (Wn (Ns ?_)))))))
 cases h; exact Pq rfl rfl
 refine Wn (Ns (Cf (Pk (Nb (Nb (Ns (Ps (Pr rfl (Wa rfl ?_)))))))))
 refine Wn (Ns ?_)
 cases h; exact Pq rfl rfl
theorem r5_result_k1_ok (a : Int) (r : Int) (h : r5_result_k1 a = some r) (g : Nat → AV) (H : Hs) (n : Nat) : PAt C (bodyOf Tryd.f157) (.a (.b (.a (.a (.b .o))))) ⟨upd g 1 (.d (.int .i64 a)), H, n⟩ (PostD C Tryd.f157 [(.int .i64 r)]) := by
 refine Ps (Pr rfl (Wm rfl ?_))
 refine Wc h rfl ?_ ?_ <;> intro _ h
 refine Wn (Ns (Ct (Ps (Pr rfl (Wa rfl (Wn (Ns ?_)))))))
 cases h; exact Pq rfl rfl
 refine Wn (Ns (Cf (Pk (Nb (Nb (Nc (Nb (Nk (Ns ?_)))))))))
 refine Ps (Pr rfl (Wa rfl (Wn (Ns ?_))))
 cases h; exact Pq rfl rfl
theorem r5_result_k3_ok (a : Int) (b : Int) (r : Int) (h : r5_result_k3 a b = some r) (g : Nat → AV) (H : Hs) (n : Nat) : PAt C (bodyOf Tryd.f157) (.a (.b (.b (.b (.b (.b (.b (.b (.a (.a (.b .o))))))))))) ⟨upd (upd g 1 (.d (.int .i64 a))) 2 (.d (.int .i64 b)), H, n⟩ (PostD C Tryd.f157 [(.int .i64 r)]) := by
 refine Ps (Pr rfl (Wm rfl (Wm rfl ?_)))
 refine Wc h rfl ?_ ?_ <;> intro _ h
 refine Wn (Ns (Ct (Ps (Pr rfl (Wa rfl (Wn (Ns ?_)))))))
 cases h; exact Pq rfl rfl
 refine Wn (Ns (Cf (Pk (Nb (Nb (Nc (Nb (Nb (Nb ?_)))))))))
 refine Nb (Nb (Nb (Nb (Nk (Ns (Ps (Pr rfl (Wa rfl (Wn ?_)))))))))
 refine Ns ?_
 cases h; exact Pq rfl rfl
theorem r5_result_k5_ok (a : Int) (b : Int) (r : Int) (h : r5_result_k5 a b = some r) (g : Nat → AV) (H : Hs) (n : Nat) : PAt C (bodyOf Tryd.f157) (.a (.b (.b (.b (.b (.b (.b (.b (.b (.b (.b (.b (.a (.a (.b .o))))))))))))))) ⟨upd (upd g 1 (.d (.int .i64 a))) 2 (.d (.int .i64 b)), H, n⟩ (PostD C Tryd.f157 [(.int .i64 r)]) := by
 refine Ps (Pr rfl (Wm rfl ?_))
 refine Wc h rfl ?_ ?_ <;> intro _ h
 refine Wm rfl (Wm rfl ?_)
 refine Wc h rfl ?_ ?_ <;> intro _ h
 refine Wt rfl rfl (Wn (Ns (Ct (Ps (Pr rfl (Wa rfl (Wn (Ns ?_))))))))
 cases h; exact Pq rfl rfl
 refine Wt rfl rfl (Wn (Ns (Cf (Pk (Nb (Nb (Nc (Nb (Nb ?_)))))))))
 refine Nb (Nb (Nb (Nb (Nb (Nb (Nb (Nb (Nb (Nk ?_)))))))))
 refine Ns (Ps (Pr rfl (Wa rfl (Wn (Ns ?_)))))
 cases h; exact Pq rfl rfl
 refine Wm rfl (Wk (Wk (Wf rfl rfl (Wn (Ns (Cf (Pk (Nb (Nb ?_)))))))))
 refine Nc (Nb (Nb (Nb (Nb (Nb (Nb (Nb (Nb (Nb ?_)))))))))
 refine Nb (Nb (Nk (Ns (Ps (Pr rfl (Wa rfl (Wn (Ns ?_))))))))
 cases h; exact Pq rfl rfl
theorem r5_result_k4_ok (op : Int) (a : Int) (b : Int) (r : Int) (h : r5_result_k4 op a b = some r) (g : Nat → AV) (H : Hs) (n : Nat) : PAt C (bodyOf Tryd.f157) (.b (.b (.b (.b (.b (.b (.b (.b (.b (.b (.a (.a (.b .o))))))))))))) ⟨upd (upd (upd g 0 (.d (.int .i64 op))) 1 (.d (.int .i64 a))) 2 (.d (.int .i64 b)), H, n⟩ (PostD C Tryd.f157 [(.int .i64 r)]) := by
 refine Ps (Pr rfl (Wm rfl ?_))
 refine Wc h rfl ?_ ?_ <;> intro _ h
 refine Wm rfl (Wk (Wk (Wt rfl rfl (Wa rfl (Wn (Ns (Ct ?_)))))))
 exact jm 1 (jm 2 (r5_result_k5_ok _ _ _ h _ _ _))
 refine Wm rfl (Wm rfl ?_)
 refine Wc h rfl ?_ ?_ <;> intro _ h
 refine Wf rfl rfl (Wa rfl (Wn (Ns (Ct ?_))))
 exact jm 1 (jm 2 (r5_result_k5_ok _ _ _ h _ _ _))
 refine Wf rfl rfl (Wa rfl (Wn (Ns (Cf (Pk (Nb (Nb (Nb (Nb ?_)))))))))
 refine Nb (Nb (Nb (Nb (Nb (Nb (Nb (Nb (Nk (Ns ?_)))))))))
 refine Ps (Pr rfl (Wa rfl (Wn (Ns ?_))))
 cases h; exact Pq rfl rfl
theorem r5_result_k2_ok (op : Int) (a : Int) (b : Int) (r : Int) (h : r5_result_k2 op a b = some r) (g : Nat → AV) (H : Hs) (n : Nat) : PAt C (bodyOf Tryd.f157) (.b (.b (.b (.b (.b (.b (.a (.a (.b .o))))))))) ⟨upd (upd (upd g 0 (.d (.int .i64 op))) 1 (.d (.int .i64 a))) 2 (.d (.int .i64 b)), H, n⟩ (PostD C Tryd.f157 [(.int .i64 r)]) := by
 refine Ps (Pr rfl (Wm rfl ?_))
 refine Wc h rfl ?_ ?_ <;> intro _ h
 refine Wm rfl (Wk (Wk (Wt rfl rfl (Wa rfl (Wn (Ns (Ct ?_)))))))
 exact jm 1 (jm 2 (r5_result_k3_ok _ _ _ h _ _ _))
 refine Wm rfl (Wm rfl ?_)
 refine Wc h rfl ?_ ?_ <;> intro _ h
 refine Wf rfl rfl (Wa rfl (Wn (Ns (Ct ?_))))
 exact jm 1 (jm 2 (r5_result_k3_ok _ _ _ h _ _ _))
 refine Wf rfl rfl (Wa rfl (Wn (Ns (Cf (Ps (Pr rfl (Wm rfl ?_)))))))
 refine Wc h rfl ?_ ?_ <;> intro _ h
 refine Wm rfl (Wm rfl ?_)
 refine Wc h rfl ?_ ?_ <;> intro _ h
 refine Wt rfl rfl (Wa rfl (Wn (Ns (Ct (Ps (Pr rfl (Wm rfl ?_)))))))
 refine Wc h rfl ?_ ?_ <;> intro _ h
 refine Wm rfl (Wm rfl ?_)
 refine Wc h rfl ?_ ?_ <;> intro _ h
 refine Wt rfl rfl (Wn (Ns (Ct (Ps (Pr rfl (Wa rfl (Wn (Ns ?_))))))))
 cases h; exact Pq rfl rfl
 refine Wt rfl rfl (Wn (Ns (Cf (Pk (Nb (Nb (Nc (Nb (Nb ?_)))))))))
 refine Nb (Nb (Nb (Nb (Nb (Nb (Nb (Nk (Ns (Ps ?_)))))))))
 refine Pr rfl (Wa rfl (Wn (Ns ?_)))
 cases h; exact Pq rfl rfl
 refine Wm rfl (Wk (Wk (Wf rfl rfl (Wn (Ns (Cf (Pk (Nb (Nb ?_)))))))))
 refine Nc (Nb (Nb (Nb (Nb (Nb (Nb (Nb (Nb (Nb ?_)))))))))
 refine Nk (Ns (Ps (Pr rfl (Wa rfl (Wn (Ns ?_))))))
 cases h; exact Pq rfl rfl
 refine Wt rfl rfl (Wa rfl (Wn (Ns (Cf ?_))))
 exact jm 0 (jm 1 (jm 2 (r5_result_k4_ok _ _ _ _ h _ _ _)))
 refine Wm rfl (Wk (Wk (Wf rfl rfl (Wa rfl (Wn (Ns (Cf ?_)))))))
 exact jm 0 (jm 1 (jm 2 (r5_result_k4_ok _ _ _ _ h _ _ _)))
theorem r5_result_ok (op : Int) (a : Int) (b : Int) (r : Int) (h : r5_result op a b = some r) : callD C 157 [(.int .i64 op), (.int .i64 a), (.int .i64 b)] = some [(.int .i64 r)] := by
 refine callD_at (ext0 _ _ rfl) fn157 rfl (jmp 0 (.d (.int .i64 op)) rfl (jmp 1 (.d (.int .i64 a)) rfl (jmp 2 (.d (.int .i64 b)) rfl (Ps (Pr rfl (Wa rfl (Wn (Ns (Ps ?_)))))))))
 refine Pb (Ps (Pr rfl (Wm rfl ?_)))
 refine Wc h rfl ?_ ?_ <;> intro _ h
 refine Wm rfl (Wk (Wk (Wt rfl rfl (Wa rfl (Wn (Ns (Ct ?_)))))))
 exact jm 1 (r5_result_k1_ok _ _ h _ _ _)
 refine Wm rfl (Wm rfl ?_)
 refine Wc h rfl ?_ ?_ <;> intro _ h
 refine Wf rfl rfl (Wa rfl (Wn (Ns (Ct ?_))))
 exact jm 1 (r5_result_k1_ok _ _ h _ _ _)
 refine Wf rfl rfl (Wa rfl (Wn (Ns (Cf (Ps (Pr rfl (Wm rfl ?_)))))))
 refine Wc h rfl ?_ ?_ <;> intro _ h
 refine Wa rfl (Wn (Ns (Ct (Ps (Pr rfl (Wm rfl ?_))))))
 refine Wc h rfl ?_ ?_ <;> intro _ h
 refine Wn (Ns (Ct (Ps (Pr rfl (Wa rfl (Wn (Ns ?_)))))))
 cases h; exact Pq rfl rfl
 refine Wn (Ns (Cf (Pk (Nb (Nb (Nc (Nb (Nb (Nb ?_)))))))))
 refine Nk (Ns (Ps (Pr rfl (Wa rfl (Wn (Ns ?_))))))
 cases h; exact Pq rfl rfl
 refine Wa rfl (Wn (Ns (Cf (Ps (Pr rfl (Wm rfl ?_))))))
 refine Wc h rfl ?_ ?_ <;> intro _ h
 refine Wm rfl (Wm rfl ?_)
 refine Wc h rfl ?_ ?_ <;> intro _ h
 refine Wt rfl rfl (Wa rfl (Wn (Ns (Ct (Ps (Pr rfl (Wm rfl ?_)))))))
 refine Wc h rfl ?_ ?_ <;> intro _ h
 refine Wm rfl (Wm rfl ?_)
 refine Wc h rfl ?_ ?_ <;> intro _ h
 refine Wt rfl rfl (Wn (Ns (Ct (Ps (Pr rfl (Wa rfl (Wn (Ns ?_))))))))
 cases h; exact Pq rfl rfl
 refine Wt rfl rfl (Wn (Ns (Cf (Pk (Nb (Nb (Nc (Nb (Nb ?_)))))))))
 refine Nb (Nb (Nb (Nk (Ns (Ps (Pr rfl (Wa rfl (Wn (Ns ?_)))))))))
 cases h; exact Pq rfl rfl
 refine Wm rfl (Wk (Wk (Wf rfl rfl (Wn (Ns (Cf (Pk (Nb (Nb ?_)))))))))
 refine Nc (Nb (Nb (Nb (Nb (Nb (Nk (Ns (Ps (Pr rfl ?_)))))))))
 refine Wa rfl (Wn (Ns ?_))
 cases h; exact Pq rfl rfl
 refine Wt rfl rfl (Wa rfl (Wn (Ns (Cf ?_))))
 exact jm 0 (jm 1 (jm 2 (r5_result_k2_ok _ _ _ _ h _ _ _)))
 refine Wm rfl (Wk (Wk (Wf rfl rfl (Wa rfl (Wn (Ns (Cf ?_)))))))
 exact jm 0 (jm 1 (jm 2 (r5_result_k2_ok _ _ _ _ h _ _ _)))
theorem r5_room_k1_ok (t : TypedT) (r : Int) (h : r5_room_k1 t = some r) (b0 g H n) (hH : HP H n [.box b0 (TypedT.av t)]) : PAt C (bodyOf Tryd.f228) (.a (.b (.a (.b (.a (.b .o)))))) ⟨upd g 2 (.pt b0 0), H, n⟩ (PostD C Tryd.f228 [(.int .i64 r)]) := by
 refine Ps (Pr rfl (Fb fo95_1 (by decide) rfl 1 rfl (Fb fo89_0 (by decide) rfl 1 rfl (Lb szg86 hH (i := 0) rfl rfl rfl (w_len_d elem86 rfl (Wa rfl (Wn (Ns ?_))))))))
 cases h; exact Pq rfl rfl
theorem r5_room_ok (t : TypedT) (op : Int) (r : Int) (h : r5_room t op = some r) : callD C 228 [(TypedT.enc t), (.int .i64 op)] = some [(.int .i64 r)] := by
 refine callD_at (ext0 _ _ rfl) fn228 rfl (jmp 0 (.d (TypedT.enc t)) rfl (jmp 1 (.d (.int .i64 op)) rfl (Ps (Pr rfl ?_))))
 refine w_box (cs := (TypedT.av t)) rfl szg95 rfl rfl rfl (HP.nil _ _) (fun b7855 H' n' hH => ?_)
 refine Wa rfl (Wn (Ns (Ps (Ps (Pr rfl (Wm rfl (Wn (Ns (Pb ?_)))))))))
 refine Ps (Ps (Pr rfl ?_))
 refine Wc h rfl ?_ ?_ <;> intro _ h
 refine Wa rfl (Wn (Ns (Ct (Pk (Nc (Nb (Ns (Ct ?_))))))))
 exact jm 2 (r5_room_k1_ok _ _ h b7855 _ _ _ hH)
 refine Wa rfl (Wn (Ns (Cf (Pr rfl ?_))))
 refine Wc h rfl ?_ ?_ <;> intro _ h
 refine Wa rfl (Wn (Nb (Nb (Ns (Ct ?_)))))
 exact jm 2 (r5_room_k1_ok _ _ h b7855 _ _ _ hH)
 refine Wa rfl (Wn (Nb (Nb (Ns (Cf (Ps (Pr rfl ?_)))))))
 refine Wc h rfl ?_ ?_ <;> intro _ h
 refine Wa rfl (Wn (Ns (Ct (Ps (Pr rfl (Fb fo95_5 (by decide) rfl 6 rfl (Lb szg92 hH (i := 0) rfl rfl rfl (w_len_d elem92 rfl (Wa rfl ?_)))))))))
 refine Wn (Ns ?_)
 cases h; exact Pq rfl rfl
 refine Wa rfl (Wn (Ns (Cf (Ps (Pr rfl ?_)))))
 refine Wc h rfl ?_ ?_ <;> intro _ h
 refine Wa rfl (Wn (Ns (Ct (Ps (Pr rfl (Fb fo95_3 (by decide) rfl 4 rfl (Lb szg91 hH (i := 0) rfl rfl rfl (w_len_d elem91 rfl (Wa rfl ?_)))))))))
 refine Wn (Ns ?_)
 cases h; exact Pq rfl rfl
 refine Wa rfl (Wn (Ns (Cf (Ps (Pr rfl ?_)))))
 refine Wc h rfl ?_ ?_ <;> intro _ h
 refine Wa rfl (Wn (Ns (Ct (Ps (Pr rfl (Fb fo95_4 (by decide) rfl 5 rfl (Lb szg91 hH (i := 0) rfl rfl rfl (w_len_d elem91 rfl (Wa rfl ?_)))))))))
 refine Wn (Ns ?_)
 cases h; exact Pq rfl rfl
 refine Wa rfl (Wn (Ns (Cf (Ps (Pr rfl ?_)))))
 refine Wc h rfl ?_ ?_ <;> intro _ h
 refine Wa rfl (Wn (Ns (Ct (Ps (Pr rfl (Fb fo95_2 (by decide) rfl 3 rfl (Lb szg90 hH (i := 0) rfl rfl rfl (w_len_d elem90 rfl (Wa rfl ?_)))))))))
 refine Wn (Ns ?_)
 cases h; exact Pq rfl rfl
 refine Wa rfl (Wn (Ns (Cf (Pk (Nb (Nb (Nb (Nb (Nb ?_)))))))))
 refine Nb (Nb (Nb (Nb (Nb (Nk (Nb (Ns (Ps (Pr rfl ?_)))))))))
 refine Wa rfl (Wn (Ns ?_))
 cases h; exact Pq rfl rfl
theorem r5_leaf_k1_ok (t : TypedT) (n_ : NodeT) (v : Int) (r : Int) (h : r5_leaf_k1 t n_ v = some r) (b0 b1 g H n) (hH : HP H n [.box b0 (TypedT.av t), .box b1 (NodeT.av n_)]) : PAt C (bodyOf Tryd.f180) (.a (.b (.b (.b (.b (.b (.b (.b (.a (.b (.a (.b (.b .o))))))))))))) ⟨upd (upd (upd g 2 (.pt b0 0)) 3 (.pt b1 0)) 5 (.d (.int .i64 v)), H, n⟩ (PostD C Tryd.f180 [(.int .i64 r)]) := by
 refine Ps (Pr rfl (Wm rfl ?_))
 refine Wc h rfl ?_ ?_ <;> intro _ h
 refine Wm rfl (Wm rfl (w_load_b (v := .agg (TypedT.av t)) rfl szg95 hH (i := 0) rfl rfl rfl (Fb fo115_0 (by decide) rfl 0 rfl (Lb szg3 hH (i := 1) rfl rfl rfl ?_))))
 refine w_scal (E := eI) h rfl sig228 (sc rfl (sc rfl (sn))) (fun y hy => r5_room_ok _ _ y hy) (fun _ => rfl) (fun t36 h => ?_)
 refine Wc h rfl ?_ ?_ <;> intro _ h
 refine Wt rfl rfl (Wn (Ns (Ct (Ps (Pr rfl (Wa rfl (Wn (Ns ?_))))))))
 cases h; exact Pq rfl rfl
 refine Wt rfl rfl (Wn (Ns (Cf (Pk (Nb (Nb (Nc (Nb (Nb ?_)))))))))
 refine Nb (Nb (Nb (Nb (Nb (Nk (Nb (Ns (Ps (Pr rfl ?_)))))))))
 refine Wa rfl (Wn (Ns ?_))
 cases h; exact Pq rfl rfl
 refine Wm rfl (Wk (Wk (Wk (Wk (Wk (Wk (Wf rfl rfl (Wn (Ns ?_)))))))))
 refine Cf (Pk (Nb (Nb (Nc (Nb (Nb (Nb (Nb (Nb ?_)))))))))
 refine Nb (Nb (Nk (Nb (Ns (Ps (Pr rfl (Wa rfl (Wn (Ns ?_)))))))))
 cases h; exact Pq rfl rfl
end Go.Proofs.YtdcpfmjnkcodiaaDoor.We
