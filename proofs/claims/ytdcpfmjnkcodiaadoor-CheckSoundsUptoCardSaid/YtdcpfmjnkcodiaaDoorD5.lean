/- The abstract machine computes these functions. Printed by decomp.py. -/
import Derived.Test.YtdcpfmjnkcodiaaDoorC2
import Derived.Test.YtdcpfmjnkcodiaaDoorD4
import Derived.Test.YtdcpfmjnkcodiaaDoorD1
import Derived.Test.YtdcpfmjnkcodiaaDoorD2
import Derived.Test.YtdcpfmjnkcodiaaDoorD3
namespace Go.Proofs.YtdcpfmjnkcodiaaDoor.We
open Go Go.Jv
set_option maxHeartbeats 4000000
open Go.Proofs
set_option maxHeartbeats 4000000
theorem r5_leaf_k2_ok (t : TypedT) (n_ : NodeT) (v : Int) (r : Int) (h : r5_leaf_k2 t n_ v = some r) (b0 b1 g H n) (hH : HP H n [.box b0 (TypedT.av t), .box b1 (NodeT.av n_)]) : PAt C (bodyOf Tryd.f180) (.a (.b (.b (.b (.b (.b (.b (.b (.b (.b (.a (.b (.a (.b (.b .o))))))))))))))) ⟨upd (upd (upd g 2 (.pt b0 0)) 3 (.pt b1 0)) 5 (.d (.int .i64 v)), H, n⟩ (PostD C Tryd.f180 [(.int .i64 r)]) := by
 refine Ps (Pr rfl (Wm rfl ?_))
 refine Wc h rfl ?_ ?_ <;> intro _ h
 refine Wm rfl (Wm rfl (w_load_b (v := .agg (TypedT.av t)) rfl szg95 hH (i := 0) rfl rfl rfl (Fb fo115_0 (by decide) rfl 0 rfl (Lb szg3 hH (i := 1) rfl rfl rfl ?_))))
 refine w_scal (E := eI) h rfl sig228 (sc rfl (sc rfl (sn))) (fun y hy => r5_room_ok _ _ y hy) (fun _ => rfl) (fun t50 h => ?_)
 refine Wc h rfl ?_ ?_ <;> intro _ h
 refine Wt rfl rfl (Wn (Ns (Ct (Ps (Pr rfl (Wa rfl (Wn (Ns ?_))))))))
 cases h; exact Pq rfl rfl
 refine Wt rfl rfl (Wn (Ns (Cf (Pk (Nb (Nb (Nc (Nb (Nb ?_)))))))))
 refine Nb (Nb (Nb (Nb (Nb (Nb (Nb (Nk (Nb (Ns ?_)))))))))
 refine Ps (Pr rfl (Wa rfl (Wn (Ns ?_))))
 cases h; exact Pq rfl rfl
 refine Wm rfl (Wk (Wk (Wk (Wk (Wk (Wk (Wf rfl rfl (Wn (Ns ?_)))))))))
 refine Cf (Pk (Nb (Nb (Nc (Nb (Nb (Nb (Nb (Nb ?_)))))))))
 refine Nb (Nb (Nb (Nb (Nk (Nb (Ns (Ps (Pr rfl (Wa rfl ?_)))))))))
 refine Wn (Ns ?_)
 cases h; exact Pq rfl rfl
theorem r5_leaf_ok (t : TypedT) (n_ : NodeT) (r : Int) (h : r5_leaf t n_ = some r) : callD C 180 [(TypedT.enc t), (NodeT.enc n_)] = some [(.int .i64 r)] := by
 refine callD_at (ext0 _ _ rfl) fn180 rfl (jmp 0 (.d (TypedT.enc t)) rfl (jmp 1 (.d (NodeT.enc n_)) rfl (Ps (Pr rfl ?_))))
 refine w_box (cs := (TypedT.av t)) rfl szg95 rfl rfl rfl (HP.nil _ _) (fun b7858 H' n' hH => ?_)
 refine w_box (cs := (NodeT.av n_)) rfl szg115 rfl rfl rfl hH (fun b7859 H' n' hH => ?_)
 refine Wa rfl (Wn (Ns (Ps (Pr rfl (Fb fo115_1 (by decide) rfl 1 rfl (Lb szg21 hH (i := 0) rfl rfl rfl (w_conv rfl (c_int ty21 ty3) (Wa rfl (Wn ?_)))))))))
 refine Ns (Ps (Ps (Pr rfl (Fb fo115_0 (by decide) rfl 0 rfl (Lb szg3 hH (i := 0) rfl rfl rfl (Wn (Ns (Pb (Ps ?_)))))))))
 refine Pr rfl ?_
 refine Wc h rfl ?_ ?_ <;> intro _ h
 refine Wa rfl (Wn (Ns (Ct (Ps (Pr rfl (Wa rfl (Wn (Ns ?_))))))))
 cases h; exact Pq rfl rfl
 refine Wa rfl (Wn (Ns (Cf (Ps (Pr rfl ?_)))))
 refine Wc h rfl ?_ ?_ <;> intro _ h
 refine Wa rfl (Wn (Ns (Ct (Ps (Pr rfl (Wm rfl ?_))))))
 refine Wc h rfl ?_ ?_ <;> intro _ h
 refine Wm rfl (Wk (Wk (Wt rfl rfl (Wn (Ns (Ct (Ps (Pr rfl (Wa rfl ?_)))))))))
 refine Wn (Ns ?_)
 cases h; exact Pq rfl rfl
 refine Wm rfl (Wm rfl ?_)
 refine Wc h rfl ?_ ?_ <;> intro _ h
 refine Wf rfl rfl (Wn (Ns (Ct (Ps (Pr rfl (Wa rfl (Wn (Ns ?_))))))))
 cases h; exact Pq rfl rfl
 refine Wf rfl rfl (Wn (Ns (Cf (Pk (Nb (Nb (Nc (Nb (Nb ?_)))))))))
 refine Nb (Nk (Nb (Ns (Ps (Pr rfl (Wa rfl (Wn (Ns ?_))))))))
 cases h; exact Pq rfl rfl
 refine Wa rfl (Wn (Ns (Cf (Ps (Pr rfl ?_)))))
 refine Wc h rfl ?_ ?_ <;> intro _ h
 refine Wa rfl (Wn (Ns (Ct (Ps (Pr rfl (Wm rfl ?_))))))
 refine Wc h rfl ?_ ?_ <;> intro _ h
 refine Wn (Ns (Ct (Ps (Pr rfl (Wa rfl (Wn (Ns ?_)))))))
 cases h; exact Pq rfl rfl
 refine Wn (Ns (Cf (Pk (Nb (Nb (Nc (Nb (Nb (Nb ?_)))))))))
 refine Nb (Nb (Nk (Nb (Ns (Ps (Pr rfl (Wa rfl (Wn (Ns ?_)))))))))
 cases h; exact Pq rfl rfl
 refine Wa rfl (Wn (Ns (Cf (Ps (Ps (Pr rfl ?_))))))
 refine Wc h rfl ?_ ?_ <;> intro _ h
 refine Wa rfl (Wn (Ns (Ct (Pk (Nc (Nb (Ns (Ct ?_))))))))
 exact jm 2 (jm 3 (jm 5 (r5_leaf_k1_ok _ _ _ _ h b7858 b7859 _ _ _ (hH.selG 2 [1, 0] (by decide) (by decide) (gc rfl (gc rfl (gt rfl)))))))
 refine Wa rfl (Wn (Ns (Cf (Ps (Pr rfl ?_)))))
 refine Wc h rfl ?_ ?_ <;> intro _ h
 refine Wa rfl (Wn (Ns (Ct (Pk (Nc (Nb (Nb (Nb (Ns ?_)))))))))
 refine Ct ?_
 exact jm 2 (jm 3 (jm 5 (r5_leaf_k1_ok _ _ _ _ h b7858 b7859 _ _ _ (hH.selG 2 [1, 0] (by decide) (by decide) (gc rfl (gc rfl (gt rfl)))))))
 refine Wa rfl (Wn (Ns (Cf (Pr rfl ?_))))
 refine Wc h rfl ?_ ?_ <;> intro _ h
 refine Wa rfl (Wn (Nb (Nb (Nb (Nb (Ns (Ct ?_)))))))
 exact jm 2 (jm 3 (jm 5 (r5_leaf_k1_ok _ _ _ _ h b7858 b7859 _ _ _ (hH.selG 2 [1, 0] (by decide) (by decide) (gc rfl (gc rfl (gt rfl)))))))
 refine Wa rfl (Wn (Nb (Nb (Nb (Nb (Ns (Cf (Ps (Ps ?_)))))))))
 refine Pr rfl ?_
 refine Wc h rfl ?_ ?_ <;> intro _ h
 refine Wa rfl (Wn (Ns (Ct (Pk (Nc (Nb (Ns (Ct ?_))))))))
 exact jm 2 (jm 3 (jm 5 (r5_leaf_k2_ok _ _ _ _ h b7858 b7859 _ _ _ (hH.selG 2 [1, 0] (by decide) (by decide) (gc rfl (gc rfl (gt rfl)))))))
 refine Wa rfl (Wn (Ns (Cf (Ps (Pr rfl ?_)))))
 refine Wc h rfl ?_ ?_ <;> intro _ h
 refine Wa rfl (Wn (Ns (Ct (Pk (Nc (Nb (Nb (Nb (Ns ?_)))))))))
 refine Ct ?_
 exact jm 2 (jm 3 (jm 5 (r5_leaf_k2_ok _ _ _ _ h b7858 b7859 _ _ _ (hH.selG 2 [1, 0] (by decide) (by decide) (gc rfl (gc rfl (gt rfl)))))))
 refine Wa rfl (Wn (Ns (Cf (Pr rfl ?_))))
 refine Wc h rfl ?_ ?_ <;> intro _ h
 refine Wa rfl (Wn (Nb (Nb (Nb (Nb (Ns (Ct ?_)))))))
 exact jm 2 (jm 3 (jm 5 (r5_leaf_k2_ok _ _ _ _ h b7858 b7859 _ _ _ (hH.selG 2 [1, 0] (by decide) (by decide) (gc rfl (gc rfl (gt rfl)))))))
 refine Wa rfl (Wn (Nb (Nb (Nb (Nb (Ns (Cf (Pk (Nb ?_)))))))))
 refine Nb (Nb (Nb (Nb (Nb (Nb (Nb (Nb (Nb (Nk ?_)))))))))
 refine Nb (Ns (Ps (Pr rfl (Wa rfl (Wn (Ns ?_))))))
 cases h; exact Pq rfl rfl
def r5_typed_L1_m (eF : List NodeT) (tF : TypedT) : r5_typed_L1_S → Int → Prop := fun st r => match st with
  | .c0 stack i => ∀ (b0 : Nat) (w1 g H n) (hH : HP H n [.box b0 (TypedT.av tF), o3_1 w1 stack]), PAt C (bodyOf Tryd.f123) (.a (.b (.a (.b (.b .o))))) ⟨upd (upd (upd (upd g 1 (.d (.lst (eF.map NodeT.enc)))) 2 (.pt b0 0)) 5 (w1)) 6 (.d (.int .i64 i)), H, n⟩ (PostD C Tryd.f123 [(.int .i64 r)])
  | .c1 stack i typ => ∀ (b0 : Nat) (w1 g H n) (hH : HP H n [.box b0 (TypedT.av tF), o3_1 w1 stack]), PAt C (bodyOf Tryd.f123) (.b (.b (.b (.b (.b (.a (.a (.b (.a (.a (.b (.a (.b (.b .o)))))))))))))) ⟨upd (upd (upd (upd (upd g 1 (.d (.lst (eF.map NodeT.enc)))) 2 (.pt b0 0)) 5 (w1)) 6 (.d (.int .i64 i))) 9 (.d (.int .i64 typ)), H, n⟩ (PostD C Tryd.f123 [(.int .i64 r)])
theorem r5_typed_L1_run_ok (eF : List NodeT) (tF : TypedT) (st : r5_typed_L1_S) (r : Int) (h : r5_typed_L1_run eF tF st = some r) : r5_typed_L1_m eF tF st r := by
 refine r5_typed_L1_run.partial_correctness eF tF (r5_typed_L1_m eF tF) (fun r5_typed_L1_run' ih_ st r h => ?_) st r h
 cases st with
 | c0 stack i =>
  intro b0 w1 g H n hH
  refine Po (Ps (Ps (Pr rfl (Wm rfl (Wm rfl (w_len_d elem22 rfl ?_))))))
  refine Wc h rfl ?_ ?_ <;> intro _ h
  refine Wn (Ns (Ct (Pk (Nc (Nb (Ns (Ps (Pb (Ps ?_)))))))))
  refine Pr rfl (w_move_v (w1) rfl rfl (w_len_own rfl elem122 hH (j := 1) rfl rfl (Wa rfl (Wn (Ns (Ps (Pr rfl (Wm rfl (Wm rfl ?_)))))))))
  refine w_idx h rfl elem22 szg115 (fun _ => rfl) rfl rfl (fun t20 h => ?_)
  refine w_load_d (d := (NodeT.enc t20)) szg115 rfl rfl ?_
  refine alloc_z rfl zero115 hH (fun b7879 H' n' hH => ?_)
  refine w_store_b (new := (NodeT.av t20)) rfl szg115 hH (i := 0) rfl rfl rfl rfl rfl (Nat.le_of_ble_eq_true rfl) (fun H' hH => ?_)
  refine Wn (Ns (Ps (Ps (Pr rfl (Fb fo115_2 (by decide) rfl 2 rfl (Lb szg9 hH (i := 0) rfl rfl rfl ?_))))))
  refine Wd h rfl ?_ ?_ <;> intro _ h
  refine Wm rfl (Fb fo115_3 (by decide) rfl 3 rfl (Fb fo76_0 (by decide) rfl 3 rfl (Lb szg3 hH (i := 0) rfl rfl rfl ?_)))
  refine Wd h rfl ?_ ?_ <;> intro _ h
  refine Wf rfl rfl (Wm rfl (Fb fo115_3 (by decide) rfl 3 rfl (Fb fo76_1 (by decide) rfl 4 rfl (Lb szg3 hH (i := 0) rfl rfl rfl ?_))))
  refine Wd h rfl ?_ ?_ <;> intro _ h
  refine Wf rfl rfl (Wn (Ns (Cf (Pk (Nb (Nb (Ns (Ps (Pr rfl ?_)))))))))
  refine Wa rfl (Wn (Ns (Ps (Ps (Pr rfl (Fb fo115_0 (by decide) rfl 0 rfl (Lb szg3 hH (i := 0) rfl rfl rfl ?_)))))))
  refine w_scal (E := eI) h rfl sig155 (sc rfl (sn)) (fun y hy => r5_operands_ok _ y hy) (fun _ => rfl) (fun t39 h => ?_)
  refine Wc h rfl ?_ ?_ <;> intro _ h
  refine Wn (Ns (Ct (Ps (Pr rfl (w_load_b (v := .agg (TypedT.av tF)) rfl szg95 hH (i := 1) rfl rfl rfl (w_load_b (v := .agg (NodeT.av t20)) rfl szg115 hH (i := 0) rfl rfl rfl ?_))))))
  refine w_scal (E := eI) h rfl sig180 (sc rfl (sc rfl (sn))) (fun y hy => r5_leaf_ok _ _ y hy) (fun _ => rfl) (fun t43 h => ?_)
  refine Wa rfl (Wn (Ns (Pr rfl (w_move_v (w1) rfl rfl (Wm rfl ?_)))))
  refine w_bslice (enc := (Dat.int .i64)) (xs := [t43]) [.d (.int .i64 t43)] rfl elem122 szg3 zero3 ⟨by decide, Nat.le_of_ble_eq_true rfl⟩ zd3 (fun _ => rfl) (fun _ => rfl) rfl rfl hH (fun w7880 H' n' hH => ?_)
  refine w_append (enc := (Dat.int .i64)) h rfl elem122 szg3 bytes3 (by decide) (fun _ => rfl) hH (j := 3) rfl rfl (shows_own hH (j := 0) rfl) (fun t47 w7881 H' n' h hH => ?_)
  refine w_assign_v (w7881) rfl rfl (Wn (Nb (Nc (Nb (Ns ?_)))))
  exact jm 1 (jm 2 (jm 5 (jm 6 (jm 9 (ih_ (.c1 _ _ _) _ h b0 w7881 _ _ _ (hH.selG 4 [3, 0] (by decide) (by decide) (gc rfl (gc rfl (gt rfl)))))))))
  refine Wn (Ns (Cf (Ps (Pr rfl (Fb fo115_1 (by decide) rfl 1 rfl (Lb szg21 hH (i := 0) rfl rfl rfl ?_))))))
  refine Wd h rfl ?_ ?_ <;> intro _ h
  refine Wn (Ns (Cf (Ps (Pr rfl (Fb fo115_0 (by decide) rfl 0 rfl (Lb szg3 hH (i := 0) rfl rfl rfl ?_))))))
  refine w_scal (E := eI) h rfl sig155 (sc rfl (sn)) (fun y hy => r5_operands_ok _ y hy) (fun _ => rfl) (fun t53 h => ?_)
  refine Wc h rfl ?_ ?_ <;> intro _ h
  refine Wn (Ns (Ct (Ps (p_calm rfl (by kernel_rfl) (Fb fo115_0 (by decide) rfl 0 rfl (Lb szg3 hH (i := 0) rfl rfl rfl (w_move_v (w1) rfl rfl (Wm rfl (Wb rfl ?_)))))))))
  refine w_idx_own h rfl elem122 szg3 hH (j := 2) rfl rfl rfl (fun i6882 t60 h hl6882 hv6882 => ?_)
  refine w_load_e rfl szg3 hH (j := 2) rfl hl6882 rfl hv6882 rfl ?_
  refine w_scal (E := eI) h rfl sig157 (sc rfl (sc rfl (sc rfl (sn)))) (fun y hy => r5_result_ok _ _ _ y hy) (fun _ => rfl) (fun t62 h => ?_)
  refine Wa rfl (Wn (Ns (Pr rfl (w_move_v (w1) rfl rfl (Wm rfl (Wb rfl (Wm rfl ?_)))))))
  refine w_idx_own h rfl elem122 szg3 hH (j := 2) rfl rfl rfl (fun i6883 t67 h hl6883 hv6883 => ?_)
  replace h := (some_bind_ _ _).symm.trans h
  refine w_store_e (e' := t62) (d := (.int .i64 t62)) rfl szg3 hH (j := 2) rfl hl6883 rfl hv6883 rfl rfl rfl (Nat.le_of_ble_eq_true rfl) rfl (fun l6884 H' hq hl6884 hv6884 hH => ?_)
  rw [← hq] at h
  refine Wn (Nb (Nc (Nb (Nb (Nb (Nb (Nb (Ns ?_))))))))
  exact jm 1 (jm 2 (jm 5 (jm 6 (jm 9 (ih_ (.c1 _ _ _) _ h b0 w1 _ _ _ (hH.selG 3 [1, 2] (by decide) (by decide) (gc rfl (gc rfl (gt rfl)))))))))
  refine Wn (Ns (Cf (Ps (p_calm rfl (by kernel_rfl) (Fb fo115_0 (by decide) rfl 0 rfl (Lb szg3 hH (i := 0) rfl rfl rfl (w_move_v (w1) rfl rfl (Wm rfl (Wb rfl ?_)))))))))
  refine w_idx_own h rfl elem122 szg3 hH (j := 2) rfl rfl rfl (fun i6885 t73 h hl6885 hv6885 => ?_)
  refine w_load_e rfl szg3 hH (j := 2) rfl hl6885 rfl hv6885 rfl (w_move_v (w1) rfl rfl (Wm rfl (Wb rfl ?_)))
  refine w_idx_own h rfl elem122 szg3 hH (j := 2) rfl rfl rfl (fun i6886 t78 h hl6886 hv6886 => ?_)
  refine w_load_e rfl szg3 hH (j := 2) rfl hl6886 rfl hv6886 rfl ?_
  refine w_scal (E := eI) h rfl sig157 (sc rfl (sc rfl (sc rfl (sn)))) (fun y hy => r5_result_ok _ _ _ y hy) (fun _ => rfl) (fun t80 h => ?_)
  refine Wa rfl (Wn (Ns (Ps (Pr rfl (w_move_v (w1) rfl rfl (Wm rfl (Wb rfl (Wm rfl ?_))))))))
  refine w_idx_own h rfl elem122 szg3 hH (j := 2) rfl rfl rfl (fun i6887 t85 h hl6887 hv6887 => ?_)
  replace h := (some_bind_ _ _).symm.trans h
  refine w_store_e (e' := t80) (d := (.int .i64 t80)) rfl szg3 hH (j := 2) rfl hl6887 rfl hv6887 rfl rfl rfl (Nat.le_of_ble_eq_true rfl) rfl (fun l6888 H' hq hl6888 hv6888 hH => ?_)
  rw [← hq] at h
  refine Wn (Ns (Pr rfl (w_move_v (w1) rfl rfl (Wm rfl (Wb rfl ?_)))))
  refine w_cut_own h rfl elem122 szg3 hH (j := 2) rfl rfl lh_nh (fun t89 w7889 H' n' h hH => ?_)
  refine w_assign_v (w7889) rfl rfl (Wn (Nb (Nb (Nb (Nb (Nb (Nb (Nb (Nb ?_)))))))))
  refine Ns ?_
  exact jm 1 (jm 2 (jm 5 (jm 6 (jm 9 (ih_ (.c1 _ _ _) _ h b0 w7889 _ _ _ (hH.selG 3 [1, 2] (by decide) (by decide) (gc rfl (gc rfl (gt rfl)))))))))
  refine Wn (Ns (Ct (Ps (Pr rfl (Wa rfl (Wn (Ns ?_)))))))
  cases h; exact Pq rfl rfl
  refine Wf rfl rfl (Wn (Ns (Ct (Ps (Pr rfl (Wa rfl (Wn (Ns ?_))))))))
  cases h; exact Pq rfl rfl
  refine Wf rfl rfl (Wm rfl (Wk (Wk (Wk (Wk (Wt rfl rfl (Wn (Ns (Ct ?_)))))))))
  refine Ps (Pr rfl (Wa rfl (Wn (Ns ?_))))
  cases h; exact Pq rfl rfl
  refine Wm rfl (Wk (Wk (Wk (Wk (Wt rfl rfl (Wm rfl (Wk (Wk (Wk ?_)))))))))
  refine Wk (Wt rfl rfl (Wn (Ns (Ct (Ps (Pr rfl (Wa rfl (Wn (Ns ?_)))))))))
  cases h; exact Pq rfl rfl
  refine Wn (Ns (Cf (Px rfl (Nb (Nb (Xs (Xl (Xb (Nb ?_)))))))))
  refine Ns (Ps (Pr rfl (w_move_v (w1) rfl rfl ?_)))
  refine w_idx_own h rfl elem122 szg3 hH (j := 1) rfl rfl rfl (fun i6890 t93 h hl6890 hv6890 => ?_)
  refine w_load_e rfl szg3 hH (j := 1) rfl hl6890 rfl hv6890 rfl (Wa rfl (Wn (Ns ?_)))
  cases h; exact Pq rfl rfl
 | c1 stack i typ =>
  intro b0 w1 g H n hH
  refine Ps (Pr rfl (Wm rfl ?_))
  refine Wc h rfl ?_ ?_ <;> intro _ h
  refine Wn (Ns (Ct (Ps (Pr rfl (Wa rfl (Wn (Ns ?_)))))))
  cases h; exact Pq rfl rfl
  refine Wn (Ns (Cf (Pk (Nb (Nb (Nb (Nb (Nb (Nb ?_)))))))))
  refine Nb (Nk (Ns (Pr rfl (Wm rfl (Wb rfl (Wa rfl (Wn (Nb (Nb ?_)))))))))
  refine Nl ?_
  exact jm 1 (jm 2 (jm 5 (jm 6 (ih_ (.c0 _ _) _ h b0 w1 _ _ _ hH))))
theorem r5_typed_L1_ok (eF : List NodeT) (tF : TypedT) (stack : List Int) (i : Int) (r : Int) (h : r5_typed_L1 eF tF stack i = some r) : r5_typed_L1_m eF tF (.c0 stack i) r := r5_typed_L1_run_ok eF tF (.c0 stack i) r h
theorem r5_typed_ok (t : TypedT) (e : List NodeT) (r : Int) (h : r5_typed t e = some r) : callD C 123 [(TypedT.enc t), (.lst (e.map NodeT.enc))] = some [(.int .i64 r)] := by
 refine callD_at (ext0 _ _ rfl) fn123 rfl (jmp 0 (.d (TypedT.enc t)) rfl (jmp 1 (.d (.lst (e.map NodeT.enc))) rfl (Ps (Pr rfl ?_))))
 refine w_box (cs := (TypedT.av t)) rfl szg95 rfl rfl rfl (HP.nil _ _) (fun b7878 H' n' hH => ?_)
 refine Wa rfl (Wn (Ns (Ps (Pr rfl (w_assign_v (.nil) rfl rfl (Wn (Ns (Ps (Ps ?_)))))))))
 refine Pr rfl (Wa rfl (Wn (Ns (Pb ?_))))
 exact jm 1 (jm 2 (jm 5 (jm 6 (r5_typed_L1_ok _ _ _ _ _ h b7878 .nil _ _ _ ((hH.addNil (z := ⟨3, 1⟩)).selG 2 [1, 0] (by decide) (by decide) (gc rfl (gc rfl (gt rfl))))))))
theorem r5_SoundExpr_ok (t : TypedT) (e : List NodeT) (typ : Int) (r : Bool) (h : r5_SoundExpr t e typ = some r) : callD C 52 [(TypedT.enc t), (.lst (e.map NodeT.enc)), (.int .i64 typ)] = some [(.bool r)] := by
 refine callD_at (ext0 _ _ rfl) fn52 rfl (jmp 0 (.d (TypedT.enc t)) rfl (jmp 1 (.d (.lst (e.map NodeT.enc))) rfl (jmp 2 (.d (.int .i64 typ)) rfl (Ps (Pr rfl ?_)))))
 refine w_box (cs := (TypedT.av t)) rfl szg95 rfl rfl rfl (HP.nil _ _) (fun b7891 H' n' hH => ?_)
 refine Wa rfl (Wn (Ns (Ps (Ps (Pr rfl (Wm rfl (w_len_d elem22 rfl ?_)))))))
 refine Wc h rfl ?_ ?_ <;> intro _ h
 refine Wm rfl (Wk (Wk (Wk (Wt rfl rfl (Wm rfl (Wk (Wk (Wk (Wk ?_)))))))))
 refine Wk (Wk (Wt rfl rfl (Wm rfl (Wk (Wk (Wk (Wt rfl rfl (Wn (Ns ?_)))))))))
 refine Ct (Ps (Pr rfl (Wa rfl (Wn (Ns ?_)))))
 cases h; exact Pq rfl rfl
 refine Wm rfl (Wm rfl (w_len_d elem22 rfl ?_))
 refine Wc h rfl ?_ ?_ <;> intro _ h
 refine Wf rfl rfl (Wm rfl (Wk (Wk (Wk (Wk (Wk (Wk (Wt rfl rfl (Wm rfl ?_)))))))))
 refine Wk (Wk (Wk (Wt rfl rfl (Wn (Ns (Ct (Ps (Pr rfl (Wa rfl ?_)))))))))
 refine Wn (Ns ?_)
 cases h; exact Pq rfl rfl
 refine Wf rfl rfl (Wm rfl (Wm rfl (Wm rfl (w_len_d elem22 rfl (Wb rfl ?_)))))
 refine w_scal (E := eI) h rfl sig15 (sc rfl (sc rfl (sn))) (fun y hy => r3_Span_ok _ _ y hy) (fun _ => rfl) (fun t21 h => ?_)
 refine Wd h rfl ?_ ?_ <;> intro _ h
 refine Wf rfl rfl (Wm rfl (Wm rfl ?_))
 refine w_scal (E := eI) h rfl sig16 (sc rfl (sn)) (fun y hy => r3_Nest_ok _ y hy) (fun _ => rfl) (fun t26 h => ?_)
 refine Wc h rfl ?_ ?_ <;> intro _ h
 refine Wf rfl rfl (Wn (Ns (Ct (Ps (Pr rfl (Wa rfl (Wn (Ns ?_))))))))
 cases h; exact Pq rfl rfl
 refine Wf rfl rfl (Wn (Ns (Cf (Pk (Nb (Nb (Ns (Ps (Pr rfl ?_)))))))))
 refine w_load_b (v := .agg (TypedT.av t)) rfl szg95 hH (i := 0) rfl rfl rfl (Wm rfl ?_)
 refine w_scal (E := eI) h rfl sig123 (sc rfl (sc rfl (sn))) (fun y hy => r5_typed_ok _ _ y hy) (fun _ => rfl) (fun t31 h => ?_)
 refine Wa rfl (Wn (Ns (Ps (Pr rfl (Wm rfl ?_)))))
 refine Wd h rfl ?_ ?_ <;> intro _ h
 refine Wm rfl (Wk (Wk (Wk (Wf rfl rfl (Wa rfl (Wn (Ns ?_)))))))
 cases h; exact Pq rfl rfl
 refine Wm rfl (Wm rfl (Wm rfl (Wb rfl (Wt rfl rfl (Wa rfl (Wn (Ns ?_)))))))
 cases h; exact Pq rfl rfl
 refine Wf rfl rfl (Wm rfl (Wk (Wk (Wk (Wt rfl rfl (Wn (Ns (Ct (Ps ?_)))))))))
 refine Pr rfl (Wa rfl (Wn (Ns ?_)))
 cases h; exact Pq rfl rfl
def r5_SoundList_L1_m (lF : List StmtT) (tF : TypedT) : r5_SoundList_L1_S → Bool → Prop := fun st r => match st with
  | .c0 elses i => ∀ (b0 : Nat) (w1 g H n) (hH : HP H n [.box b0 (TypedT.av tF), o4_1 w1 elses]), PAt C (bodyOf Tryd.f85) (.a (.b (.a (.b (.b .o))))) ⟨upd (upd (upd (upd g 1 (.d (.lst (lF.map StmtT.enc)))) 2 (.pt b0 0)) 5 (w1)) 6 (.d (.int .i64 i)), H, n⟩ (PostD C Tryd.f85 [(.bool r)])
  | .c1 elses i s_ typ => ∀ (b0 : Nat) (w1 b2 g H n) (hH : HP H n [.box b0 (TypedT.av tF), o4_1 w1 elses, .box b2 (StmtT.av s_)]), PAt C (bodyOf Tryd.f85) (.a (.b (.b (.b (.a (.b (.a (.b (.b (.b (.b (.b (.a (.a (.b (.a (.a (.b (.a (.b (.b .o))))))))))))))))))))) ⟨upd (upd (upd (upd (upd (upd g 1 (.d (.lst (lF.map StmtT.enc)))) 2 (.pt b0 0)) 5 (w1)) 6 (.d (.int .i64 i))) 7 (.pt b2 0)) 10 (.d (.int .i64 typ)), H, n⟩ (PostD C Tryd.f85 [(.bool r)])
  | .c2 elses i s_ typ => ∀ (b0 : Nat) (w1 b2 g H n) (hH : HP H n [.box b0 (TypedT.av tF), o4_1 w1 elses, .box b2 (StmtT.av s_)]), PAt C (bodyOf Tryd.f85) (.a (.b (.b (.b (.b (.b (.a (.b (.a (.b (.b (.b (.b (.b (.a (.a (.b (.a (.a (.b (.a (.b (.b .o))))))))))))))))))))))) ⟨upd (upd (upd (upd (upd (upd g 1 (.d (.lst (lF.map StmtT.enc)))) 2 (.pt b0 0)) 5 (w1)) 6 (.d (.int .i64 i))) 7 (.pt b2 0)) 10 (.d (.int .i64 typ)), H, n⟩ (PostD C Tryd.f85 [(.bool r)])
  | .c3 elses i s_ things typ => ∀ (b0 : Nat) (w1 b2 g H n) (hH : HP H n [.box b0 (TypedT.av tF), o4_1 w1 elses, .box b2 (StmtT.av s_)]), PAt C (bodyOf Tryd.f85) (.b (.b (.b (.b (.b (.b (.a (.a (.b (.a (.a (.b (.a (.b (.b .o))))))))))))))) ⟨upd (upd (upd (upd (upd (upd (upd g 1 (.d (.lst (lF.map StmtT.enc)))) 2 (.pt b0 0)) 5 (w1)) 6 (.d (.int .i64 i))) 7 (.pt b2 0)) 9 (.d (.int .i64 things))) 10 (.d (.int .i64 typ)), H, n⟩ (PostD C Tryd.f85 [(.bool r)])
  | .c4 elses i => ∀ (b0 : Nat) (w1 g H n) (hH : HP H n [.box b0 (TypedT.av tF), o4_1 w1 elses]), PAt C (bodyOf Tryd.f85) (.b (.b (.a (.a (.b (.a (.b (.b .o)))))))) ⟨upd (upd (upd (upd g 1 (.d (.lst (lF.map StmtT.enc)))) 2 (.pt b0 0)) 5 (w1)) 6 (.d (.int .i64 i)), H, n⟩ (PostD C Tryd.f85 [(.bool r)])
theorem r5_SoundList_L1_run_ok (lF : List StmtT) (tF : TypedT) (st : r5_SoundList_L1_S) (r : Bool) (h : r5_SoundList_L1_run lF tF st = some r) : r5_SoundList_L1_m lF tF st r := by
 refine r5_SoundList_L1_run.partial_correctness lF tF (r5_SoundList_L1_m lF tF) (fun r5_SoundList_L1_run' ih_ st r h => ?_) st r h
 cases st with
 | c0 elses i =>
  intro b0 w1 g H n hH
  refine Po (Ps (Ps (Pr rfl (Wm rfl (Wm rfl (w_len_d elem58 rfl ?_))))))
  refine Wc h rfl ?_ ?_ <;> intro _ h
  refine Wn (Ns (Ct (Pk (Nc (Nb (Ns (Ps (Pb (Ps ?_)))))))))
  refine Pr rfl (Wm rfl (Wm rfl ?_))
  refine w_idx h rfl elem58 szg140 (fun _ => rfl) rfl rfl (fun t19 h => ?_)
  refine w_load_d (d := (StmtT.enc t19)) szg140 rfl rfl ?_
  refine alloc_z rfl zero140 hH (fun b7917 H' n' hH => ?_)
  refine w_store_b (new := (StmtT.av t19)) rfl szg140 hH (i := 0) rfl rfl rfl rfl rfl (Nat.le_of_ble_eq_true rfl) (fun H' hH => ?_)
  refine Wn (Ns (Ps (Pr rfl (w_move_v (w1) rfl rfl (w_len_own rfl elem239 hH (j := 2) rfl rfl (Wa rfl (Wn (Ns (Ps ?_)))))))))
  refine Ps (Pr rfl (Fb fo140_1 (by decide) rfl 1 rfl (Lb szg9 hH (i := 0) rfl rfl rfl ?_)))
  refine Wd h rfl ?_ ?_ <;> intro _ h
  refine Wm rfl (Fb fo140_4 (by decide) rfl 4 rfl (Fb fo76_0 (by decide) rfl 4 rfl (Lb szg3 hH (i := 0) rfl rfl rfl ?_)))
  refine Wd h rfl ?_ ?_ <;> intro _ h
  refine Wf rfl rfl (Wm rfl (Fb fo140_4 (by decide) rfl 4 rfl (Fb fo76_1 (by decide) rfl 5 rfl (Lb szg3 hH (i := 0) rfl rfl rfl ?_))))
  refine Wd h rfl ?_ ?_ <;> intro _ h
  refine Wf rfl rfl (Wn (Ns (Cf (Pk (Nb (Nb (Ns (Ps (Pr rfl ?_)))))))))
  refine Wa rfl (Wn (Ns (Ps (Pr rfl (Wa rfl (Wn (Ns (Ps (Ps ?_)))))))))
  refine Pr rfl (Fb fo140_0 (by decide) rfl 0 rfl (Lb szg3 hH (i := 0) rfl rfl rfl (Wn (Ns (Pb (Ps (Pr rfl ?_)))))))
  refine Wc h rfl ?_ ?_ <;> intro _ h
  refine Wa rfl (Wn (Ns (Ct (Ps (Pr rfl (Fb fo95_5 (by decide) rfl 6 rfl (Lb szg92 hH (i := 1) rfl rfl rfl (w_len_d elem92 rfl (Wa rfl ?_)))))))))
  refine Wn (Ns (Pr rfl (Wa rfl (Wn (Nb (Nc (Nb (Nk (Nb ?_)))))))))
  refine Ns ?_
  exact jm 1 (jm 2 (jm 5 (jm 6 (jm 7 (jm 9 (jm 10 (ih_ (.c3 _ _ _ _ _) _ h b0 w1 b7917 _ _ _ (hH.selG 3 [1, 2, 0] (by decide) (by decide) (gc rfl (gc rfl (gc rfl (gt rfl))))))))))))
  refine Wa rfl (Wn (Ns (Cf (Ps (Ps (Pr rfl ?_))))))
  refine Wc h rfl ?_ ?_ <;> intro _ h
  refine Wa rfl (Wn (Ns (Ct (Pk (Nc (Nb (Ns (Ct ?_))))))))
  exact jm 1 (jm 2 (jm 5 (jm 6 (jm 7 (jm 10 (ih_ (.c1 _ _ _ _) _ h b0 w1 b7917 _ _ _ (hH.selG 3 [1, 2, 0] (by decide) (by decide) (gc rfl (gc rfl (gc rfl (gt rfl)))))))))))
  refine Wa rfl (Wn (Ns (Cf (Ps (Pr rfl ?_)))))
  refine Wc h rfl ?_ ?_ <;> intro _ h
  refine Wa rfl (Wn (Ns (Ct (Pk (Nc (Nb (Nb (Nb (Ns ?_)))))))))
  refine Ct ?_
  exact jm 1 (jm 2 (jm 5 (jm 6 (jm 7 (jm 10 (ih_ (.c1 _ _ _ _) _ h b0 w1 b7917 _ _ _ (hH.selG 3 [1, 2, 0] (by decide) (by decide) (gc rfl (gc rfl (gc rfl (gt rfl)))))))))))
  refine Wa rfl (Wn (Ns (Cf (Pr rfl ?_))))
  refine Wc h rfl ?_ ?_ <;> intro _ h
  refine Wa rfl (Wn (Nb (Nb (Nb (Nb (Ns (Ct ?_)))))))
  exact jm 1 (jm 2 (jm 5 (jm 6 (jm 7 (jm 10 (ih_ (.c1 _ _ _ _) _ h b0 w1 b7917 _ _ _ (hH.selG 3 [1, 2, 0] (by decide) (by decide) (gc rfl (gc rfl (gc rfl (gt rfl)))))))))))
  refine Wa rfl (Wn (Nb (Nb (Nb (Nb (Ns (Cf (Ps (Ps ?_)))))))))
  refine Pr rfl ?_
  refine Wc h rfl ?_ ?_ <;> intro _ h
  refine Wa rfl (Wn (Ns (Ct (Pk (Nc (Nb (Ns (Ct ?_))))))))
  exact jm 1 (jm 2 (jm 5 (jm 6 (jm 7 (jm 10 (ih_ (.c2 _ _ _ _) _ h b0 w1 b7917 _ _ _ (hH.selG 3 [1, 2, 0] (by decide) (by decide) (gc rfl (gc rfl (gc rfl (gt rfl)))))))))))
  refine Wa rfl (Wn (Ns (Cf (Pr rfl ?_))))
  refine Wc h rfl ?_ ?_ <;> intro _ h
  refine Wa rfl (Wn (Nb (Nb (Ns (Ct ?_)))))
  exact jm 1 (jm 2 (jm 5 (jm 6 (jm 7 (jm 10 (ih_ (.c2 _ _ _ _) _ h b0 w1 b7917 _ _ _ (hH.selG 3 [1, 2, 0] (by decide) (by decide) (gc rfl (gc rfl (gc rfl (gt rfl)))))))))))
  refine Wa rfl (Wn (Nb (Nb (Ns (Cf (Ps (Pr rfl ?_)))))))
  refine Wc h rfl ?_ ?_ <;> intro _ h
  refine Wa rfl (Wn (Ns (Ct (Pr rfl (Fb fo95_2 (by decide) rfl 3 rfl (Lb szg90 hH (i := 1) rfl rfl rfl (w_len_d elem90 rfl (Wa rfl (Wn ?_)))))))))
  refine Nc (Nb (Nb (Nb (Nb (Nb (Nb (Nb (Nk (Nb ?_)))))))))
  refine Ns ?_
  exact jm 1 (jm 2 (jm 5 (jm 6 (jm 7 (jm 9 (jm 10 (ih_ (.c3 _ _ _ _ _) _ h b0 w1 b7917 _ _ _ (hH.selG 3 [1, 2, 0] (by decide) (by decide) (gc rfl (gc rfl (gc rfl (gt rfl))))))))))))
  refine Wa rfl (Wn (Ns (Cf (Ps (Pr rfl ?_)))))
  refine Wc h rfl ?_ ?_ <;> intro _ h
  refine Wa rfl (Wn (Ns (Ct (Ps (Pr rfl (Wa rfl (Wn (Ns (Ps ?_)))))))))
  refine Pr rfl (w_move_v (w1) rfl rfl ?_)
  refine w_bslice (enc := Dat.bool) (xs := [false]) [.d (.bool false)] rfl elem239 szg4 zero4 ⟨by decide, Nat.le_of_ble_eq_true rfl⟩ zd4 (fun _ => rfl) (fun _ => rfl) rfl rfl hH (fun w7918 H' n' hH => ?_)
  refine w_append (enc := Dat.bool) h rfl elem239 szg4 bytes4 (by decide) (fun _ => rfl) hH (j := 3) rfl rfl (shows_own hH (j := 0) rfl) (fun t67 w7919 H' n' h hH => ?_)
  refine w_assign_v (w7919) rfl rfl (Wn (Ns (Ps (Pr rfl (w_move_v (w7919) rfl rfl (w_len_own rfl elem239 hH (j := 0) rfl rfl ?_))))))
  refine Wc h rfl ?_ ?_ <;> intro _ h
  refine Wn (Ns (Ct (Ps (Pr rfl (Wa rfl (Wn (Ns ?_)))))))
  cases h; exact Pq rfl rfl
  refine Wn (Ns (Cf (Pk (Nb (Nb (Nb (Nb (Nc (Nb ?_)))))))))
  refine Nb (Nb (Nb (Nb (Nb (Nb (Nb (Nb (Nk (Nb ?_)))))))))
  refine Ns ?_
  exact jm 1 (jm 2 (jm 5 (jm 6 (jm 7 (jm 9 (jm 10 (ih_ (.c3 _ _ _ _ _) _ h b0 w7919 b7917 _ _ _ (hH.selG 4 [3, 0, 2] (by decide) (by decide) (gc rfl (gc rfl (gc rfl (gt rfl))))))))))))
  refine Wa rfl (Wn (Ns (Cf (Ps (Pr rfl ?_)))))
  refine Wc h rfl ?_ ?_ <;> intro _ h
  refine Wa rfl (Wn (Ns (Ct (Ps (Ps (Pr rfl (Wm rfl ?_)))))))
  refine Wc h rfl ?_ ?_ <;> intro _ h
  refine Wm rfl (Wk (Wk (Wk (Wk (Wk (Wt rfl rfl (Wn (Ns (Ct ?_)))))))))
  refine Ps (Pr rfl (Wa rfl (Wn (Ns ?_))))
  cases h; exact Pq rfl rfl
  refine Wm rfl (w_move_v (w1) rfl rfl (Wm rfl (Wb rfl ?_)))
  refine w_idx_own h rfl elem239 szg4 hH (j := 2) rfl rfl rfl (fun i6920 t79 h hl6920 hv6920 => ?_)
  refine w_split (b := t79) h rfl (o_load_e szg4 hH (j := 2) rfl hl6920 rfl hv6920 rfl) rfl (fun _ => ⟨rfl, rfl⟩) (fun _ h => ?_) (fun _ h => ?_)
  refine Wf rfl rfl (Wn (Ns (Ct (Ps (Pr rfl (Wa rfl (Wn (Ns ?_))))))))
  cases h; exact Pq rfl rfl
  refine Wf rfl rfl (Wn (Ns (Cf (Pk (Nb (Nb (Ns (Pr rfl (w_move_v (w1) rfl rfl ?_)))))))))
  refine Wm rfl (Wb rfl ?_)
  refine w_idx_own h rfl elem239 szg4 hH (j := 2) rfl rfl rfl (fun i6921 t85 h hl6921 hv6921 => ?_)
  replace h := (some_bind_ _ _).symm.trans h
  refine w_store_e (e' := true) (d := (.bool true)) rfl szg4 hH (j := 2) rfl hl6921 rfl hv6921 rfl rfl rfl (Nat.le_of_ble_eq_true rfl) rfl (fun l6922 H' hq hl6922 hv6922 hH => ?_)
  rw [← hq] at h
  refine Wn (Nb (Nc (Nb (Nb (Nb (Nb (Nb (Nb (Nb ?_)))))))))
  refine Nb (Nb (Nb (Nb (Nk (Nb (Ns ?_))))))
  exact jm 1 (jm 2 (jm 5 (jm 6 (jm 7 (jm 9 (jm 10 (ih_ (.c3 _ _ _ _ _) _ h b0 w1 b7917 _ _ _ (hH.selG 3 [1, 2, 0] (by decide) (by decide) (gc rfl (gc rfl (gc rfl (gt rfl))))))))))))
  refine Wa rfl (Wn (Ns (Cf (Ps (Pr rfl ?_)))))
  refine Wc h rfl ?_ ?_ <;> intro _ h
  refine Wa rfl (Wn (Ns (Ct (Ps (Ps (Pr rfl (Wm rfl ?_)))))))
  refine Wc h rfl ?_ ?_ <;> intro _ h
  refine Wn (Ns (Ct (Ps (Pr rfl (Wa rfl (Wn (Ns ?_)))))))
  cases h; exact Pq rfl rfl
  refine Wn (Ns (Cf (Pk (Nb (Nb (Ns (Pr rfl (w_move_v (w1) rfl rfl (Wm rfl ?_)))))))))
  refine Wb rfl ?_
  refine w_cut_own h rfl elem239 szg4 hH (j := 2) rfl rfl lh_nh (fun t93 w7923 H' n' h hH => ?_)
  refine w_assign_v (w7923) rfl rfl (Wn (Nb (Nc (Nb (Nb (Nb (Nb (Nb (Nb ?_)))))))))
  refine Nb (Nb (Nb (Nb (Nb (Nb (Nb (Nk (Nb (Ns ?_)))))))))
  exact jm 1 (jm 2 (jm 5 (jm 6 (jm 7 (jm 9 (jm 10 (ih_ (.c3 _ _ _ _ _) _ h b0 w7923 b7917 _ _ _ (hH.selG 3 [1, 2, 0] (by decide) (by decide) (gc rfl (gc rfl (gc rfl (gt rfl))))))))))))
  refine Wa rfl (Wn (Ns (Cf (Ps (Pr rfl (Wa rfl (Wn (Ns ?_))))))))
  cases h; exact Pq rfl rfl
  refine Wf rfl rfl (Wn (Ns (Ct (Ps (Pr rfl (Wa rfl (Wn (Ns ?_))))))))
  cases h; exact Pq rfl rfl
  refine Wf rfl rfl (Wm rfl (Wk (Wk (Wk (Wk (Wt rfl rfl (Wn (Ns (Ct ?_)))))))))
  refine Ps (Pr rfl (Wa rfl (Wn (Ns ?_))))
  cases h; exact Pq rfl rfl
  refine Wm rfl (Wk (Wk (Wk (Wk (Wt rfl rfl (Wm rfl (Wk (Wk (Wk ?_)))))))))
  refine Wk (Wt rfl rfl (Wn (Ns (Ct (Ps (Pr rfl (Wa rfl (Wn (Ns ?_)))))))))
  cases h; exact Pq rfl rfl
  refine Wn (Ns (Cf (Px rfl (Nb (Nb (Xs (Xl (Xb (Nb ?_)))))))))
  refine Ns (Ps (Pr rfl (w_move_v (w1) rfl rfl (w_len_own rfl elem239 hH (j := 1) rfl rfl (Wb rfl (Wa rfl (Wn (Ns ?_))))))))
  cases h; exact Pq rfl rfl
 | c1 elses i s_ typ =>
  intro b0 w1 b2 g H n hH
  refine Pr rfl (Fb fo95_3 (by decide) rfl 4 rfl (Lb szg91 hH (i := 0) rfl rfl rfl (w_len_d elem91 rfl (Wa rfl (Wn (Nc (Nb (Nb (Nb ?_)))))))))
  refine Nk (Nb (Ns ?_))
  exact jm 1 (jm 2 (jm 5 (jm 6 (jm 7 (jm 9 (jm 10 (ih_ (.c3 _ _ _ _ _) _ h b0 w1 b2 _ _ _ hH)))))))
 | c2 elses i s_ typ =>
  intro b0 w1 b2 g H n hH
  refine Pr rfl (Fb fo95_4 (by decide) rfl 5 rfl (Lb szg91 hH (i := 0) rfl rfl rfl (w_len_d elem91 rfl (Wa rfl (Wn (Nc (Nb (Nb (Nb ?_)))))))))
  refine Nb (Nb (Nk (Nb (Ns ?_))))
  exact jm 1 (jm 2 (jm 5 (jm 6 (jm 7 (jm 9 (jm 10 (ih_ (.c3 _ _ _ _ _) _ h b0 w1 b2 _ _ _ hH)))))))
 | c3 elses i s_ things typ =>
  intro b0 w1 b2 g H n hH
  refine Ps (Ps (Pr rfl (Fb fo140_2 (by decide) rfl 2 rfl (Lb szg3 hH (i := 2) rfl rfl rfl ?_))))
  refine Wc h rfl ?_ ?_ <;> intro _ h
  refine Wm rfl (Wk (Wk (Wk (Wk (Wt rfl rfl (Wn (Ns (Ct (Ps ?_)))))))))
  refine Pr rfl (Wa rfl (Wn (Ns ?_)))
  cases h; exact Pq rfl rfl
  refine Wm rfl (Fb fo140_2 (by decide) rfl 2 rfl (Lb szg3 hH (i := 2) rfl rfl rfl (Wm rfl ?_)))
  refine Wc h rfl ?_ ?_ <;> intro _ h
  refine Wf rfl rfl (Wn (Ns (Ct (Ps (Pr rfl (Wa rfl (Wn (Ns ?_))))))))
  cases h; exact Pq rfl rfl
  refine Wf rfl rfl (Wn (Ns (Cf (Pk (Nb (Nb (Ns (Ps (Pr rfl ?_)))))))))
  refine Wm rfl ?_
  refine Wc h rfl ?_ ?_ <;> intro _ h
  refine Wm rfl (Fb fo140_3 (by decide) rfl 3 rfl (Lb szg22 hH (i := 2) rfl rfl rfl (w_len_d elem22 rfl ?_)))
  refine Wc h rfl ?_ ?_ <;> intro _ h
  refine Wt rfl rfl (Wm rfl (Wk (Wk (Wk (Wk (Wk (Wk (Wk (Wk ?_)))))))))
  refine Wk (Wk (Wt rfl rfl (Wn (Ns (Ct (Ps (Pr rfl (Wa rfl (Wn ?_)))))))))
  refine Ns ?_
  cases h; exact Pq rfl rfl
  refine Wt rfl rfl (Wm rfl (Wm rfl ?_))
  refine Wd h rfl ?_ ?_ <;> intro _ h
  refine Wm rfl (Wk (Wk (Wk (Wk (Wk (Wk (Wf rfl rfl (Wf rfl rfl (Wn ?_)))))))))
  refine Ns (Cf (Pk (Nb (Nb (Nb (Nb (Nb (Nb (Nb ?_)))))))))
  refine Nb (Nb (Nk (Ns ?_)))
  exact jm 1 (jm 2 (jm 5 (jm 6 (ih_ (.c4 _ _) _ h b0 w1 _ _ _ (hH.selG 3 [0, 1] (by decide) (by decide) (gc rfl (gc rfl (gt rfl))))))))
  refine Wm rfl (w_load_b (v := .agg (TypedT.av tF)) rfl szg95 hH (i := 0) rfl rfl rfl (Fb fo140_3 (by decide) rfl 3 rfl (Lb szg22 hH (i := 2) rfl rfl rfl (Wm rfl ?_))))
  refine w_scal (E := eB) h rfl sig52 (sc rfl (sc rfl (sc rfl (sn)))) (fun y hy => r5_SoundExpr_ok _ _ _ y hy) (fun _ => rfl) (fun t119 h => ?_)
  revert h; cases t119 <;> intro h
  replace h := if0 h
  refine w_un rfl rfl (Wt rfl rfl (Wf rfl rfl (Wn (Ns (Ct (Ps (Pr rfl (Wa rfl (Wn ?_)))))))))
  refine Ns ?_
  cases h; exact Pq rfl rfl
  replace h := if1 h
  refine w_un rfl rfl (Wt rfl rfl (Wf rfl rfl (Wn (Ns (Cf (Pk (Nb (Nb (Nb ?_)))))))))
  refine Nb (Nb (Nb (Nb (Nb (Nb (Nk (Ns ?_)))))))
  exact jm 1 (jm 2 (jm 5 (jm 6 (ih_ (.c4 _ _) _ h b0 w1 _ _ _ (hH.selG 3 [0, 1] (by decide) (by decide) (gc rfl (gc rfl (gt rfl))))))))
  refine Wm rfl (Wk (Wk (Wk (Wk (Wf rfl rfl (Wm rfl (Wm rfl ?_)))))))
  refine Wd h rfl ?_ ?_ <;> intro _ h
  refine Wm rfl (Wk (Wk (Wk (Wk (Wk (Wk (Wf rfl rfl (Wf rfl rfl (Wn ?_)))))))))
  refine Ns (Cf (Pk (Nb (Nb (Nb (Nb (Nb (Nb (Nb ?_)))))))))
  refine Nb (Nb (Nk (Ns ?_)))
  exact jm 1 (jm 2 (jm 5 (jm 6 (ih_ (.c4 _ _) _ h b0 w1 _ _ _ (hH.selG 3 [0, 1] (by decide) (by decide) (gc rfl (gc rfl (gt rfl))))))))
  refine Wm rfl (w_load_b (v := .agg (TypedT.av tF)) rfl szg95 hH (i := 0) rfl rfl rfl (Fb fo140_3 (by decide) rfl 3 rfl (Lb szg22 hH (i := 2) rfl rfl rfl (Wm rfl ?_))))
  refine w_scal (E := eB) h rfl sig52 (sc rfl (sc rfl (sc rfl (sn)))) (fun y hy => r5_SoundExpr_ok _ _ _ y hy) (fun _ => rfl) (fun t119_1 h => ?_)
  revert h; cases t119_1 <;> intro h
  replace h := if0 h
  refine w_un rfl rfl (Wt rfl rfl (Wf rfl rfl (Wn (Ns (Ct (Ps (Pr rfl (Wa rfl (Wn ?_)))))))))
  refine Ns ?_
  cases h; exact Pq rfl rfl
  replace h := if1 h
  refine w_un rfl rfl (Wt rfl rfl (Wf rfl rfl (Wn (Ns (Cf (Pk (Nb (Nb (Nb ?_)))))))))
  refine Nb (Nb (Nb (Nb (Nb (Nb (Nk (Ns ?_)))))))
  exact jm 1 (jm 2 (jm 5 (jm 6 (ih_ (.c4 _ _) _ h b0 w1 _ _ _ (hH.selG 3 [0, 1] (by decide) (by decide) (gc rfl (gc rfl (gt rfl))))))))
 | c4 elses i =>
  intro b0 w1 g H n hH
  refine Pr rfl (Wm rfl (Wb rfl (Wa rfl (Wn (Nb (Nb (Nl ?_)))))))
  exact jm 1 (jm 2 (jm 5 (jm 6 (ih_ (.c0 _ _) _ h b0 w1 _ _ _ hH))))
theorem r5_SoundList_L1_ok (lF : List StmtT) (tF : TypedT) (elses : List Bool) (i : Int) (r : Bool) (h : r5_SoundList_L1 lF tF elses i = some r) : r5_SoundList_L1_m lF tF (.c0 elses i) r := r5_SoundList_L1_run_ok lF tF (.c0 elses i) r h
theorem r5_SoundList_ok (t : TypedT) (l : List StmtT) (r : Bool) (h : r5_SoundList t l = some r) : callD C 85 [(TypedT.enc t), (.lst (l.map StmtT.enc))] = some [(.bool r)] := by
 refine callD_at (ext0 _ _ rfl) fn85 rfl (jmp 0 (.d (TypedT.enc t)) rfl (jmp 1 (.d (.lst (l.map StmtT.enc))) rfl (Ps (Pr rfl ?_))))
 refine w_box (cs := (TypedT.av t)) rfl szg95 rfl rfl rfl (HP.nil _ _) (fun b7916 H' n' hH => ?_)
 refine Wa rfl (Wn (Ns (Ps (Pr rfl (w_assign_v (.nil) rfl rfl (Wn (Ns (Ps (Ps ?_)))))))))
 refine Pr rfl (Wa rfl (Wn (Ns (Pb ?_))))
 exact jm 1 (jm 2 (jm 5 (jm 6 (r5_SoundList_L1_ok _ _ _ _ _ h b7916 .nil _ _ _ ((hH.addNil (z := ⟨4, 1⟩)).selG 2 [1, 0] (by decide) (by decide) (gc rfl (gc rfl (gt rfl))))))))
def r5_nodes_L1_M (l : List StmtT) (n_ : Int) (i : Int) (r : Int) : Prop := ∀ (g : Nat → AV) (H : Hs) (n : Nat), PAt C (bodyOf Tryd.f177) (.a (.b (.a (.b (.b .o))))) ⟨upd (upd (upd g 0 (.d (.lst (l.map StmtT.enc)))) 3 (.d (.int .i64 n_))) 4 (.d (.int .i64 i)), H, n⟩ (PostD C Tryd.f177 [(.int .i64 r)])
theorem r5_nodes_L1_ok (l : List StmtT) (n_ : Int) (i : Int) (r : Int) (h : r5_nodes_L1 l n_ i = some r) : r5_nodes_L1_M l n_ i r := by
 refine r5_nodes_L1.partial_correctness l (fun n_ i r => r5_nodes_L1_M l n_ i r) (fun r5_nodes_L1 ih_r5_nodes_L1 n_ i r h g H n => ?_) n_ i r h
 refine Po (Ps (Ps (Pr rfl (Wm rfl (Wm rfl (w_len_d elem58 rfl ?_))))))
 refine Wc h rfl ?_ ?_ <;> intro _ h
 refine Wn (Ns (Ct (Pk (Nc (Nb (Ns (Ps (Pb (Pr rfl ?_)))))))))
 refine Wm rfl (Wm rfl (Wm rfl ?_))
 refine w_idx h rfl elem58 szg140 (fun _ => rfl) rfl rfl (fun t14 h => ?_)
 refine w_faddr_d rfl fo140_3 (by decide) rfl (w_load_d szg22 rfl rfl (w_len_d elem22 rfl (Wb rfl (Wa rfl (Wn (Nk (Ns (Pr rfl (Wm rfl ?_)))))))))
 refine Wb rfl (Wa rfl (Wn (Nb (Nb (Nl ?_)))))
 exact jm 0 (jm 3 (jm 4 (ih_r5_nodes_L1 _ _ _ h _ _ _)))
 refine Wn (Ns (Cf (Px rfl (Nb (Nb (Xs (Xl (Xb (Nb ?_)))))))))
 refine Ns (Ps (Pr rfl (Wm rfl (Wa rfl (Wn (Ns ?_))))))
 cases h; exact Pq rfl rfl
theorem r5_nodes_ok (l : List StmtT) (r : Int) (h : r5_nodes l = some r) : callD C 177 [(.lst (l.map StmtT.enc))] = some [(.int .i64 r)] := by
 refine callD_at (ext0 _ _ rfl) fn177 rfl (jmp 0 (.d (.lst (l.map StmtT.enc))) rfl (Ps (Pr rfl (Wa rfl (Wn (Ns (Ps (Pr rfl (Wa rfl ?_)))))))))
 refine Wn (Ns (Ps (Ps (Pr rfl (Wa rfl (Wn (Ns (Pb ?_))))))))
 exact jm 0 (jm 3 (jm 4 (r5_nodes_L1_ok _ _ _ _ h _ _ _)))
end Go.Proofs.YtdcpfmjnkcodiaaDoor.We
namespace Go.Proofs.YtdcpfmjnkcodiaaDoor.We
open Go Go.Jv
set_option maxHeartbeats 4000000
open Go.Proofs
set_option maxHeartbeats 4000000
def r5_stages_L1_m (tF : TypedT) : r5_stages_L1_S → Bool → Prop := fun st r => match st with
  | .c0 stmts nexts total i => ∀ (b0 g H n) (hH : HP H n [.box b0 (TypedT.av tF)]), PAt C (bodyOf Tryd.f120) (.a (.b (.a (.b (.b (.b (.b .o))))))) ⟨upd (upd (upd (upd (upd g 1 (.pt b0 0)) 3 (.d (.int .i64 stmts))) 4 (.d (.int .i64 nexts))) 5 (.d (.int .i64 total))) 6 (.d (.int .i64 i)), H, n⟩ (PostD C Tryd.f120 [(.bool r)])
  | .c1 stmts nexts total i s_ => ∀ (b0 b1 g H n) (hH : HP H n [.box b0 (TypedT.av tF), .box b1 (TStageT.av s_)]), PAt C (bodyOf Tryd.f120) (.b (.b (.a (.a (.b (.a (.a (.b (.a (.b (.b (.b (.b .o))))))))))))) ⟨upd (upd (upd (upd (upd (upd g 1 (.pt b0 0)) 3 (.d (.int .i64 stmts))) 4 (.d (.int .i64 nexts))) 5 (.d (.int .i64 total))) 6 (.d (.int .i64 i))) 7 (.pt b1 0), H, n⟩ (PostD C Tryd.f120 [(.bool r)])
  | .c2 stmts nexts total i s_ => ∀ (b0 b1 g H n) (hH : HP H n [.box b0 (TypedT.av tF), .box b1 (TStageT.av s_)]), PAt C (bodyOf Tryd.f120) (.b (.b (.b (.b (.a (.a (.b (.a (.a (.b (.a (.b (.b (.b (.b .o))))))))))))))) ⟨upd (upd (upd (upd (upd (upd g 1 (.pt b0 0)) 3 (.d (.int .i64 stmts))) 4 (.d (.int .i64 nexts))) 5 (.d (.int .i64 total))) 6 (.d (.int .i64 i))) 7 (.pt b1 0), H, n⟩ (PostD C Tryd.f120 [(.bool r)])
  | .c3 stmts nexts total i s_ j => ∀ (b0 b1 g H n) (hH : HP H n [.box b0 (TypedT.av tF), .box b1 (TStageT.av s_)]), PAt C (bodyOf Tryd.f120) (.a (.b (.b (.b (.b (.b (.b (.b (.b (.b (.a (.a (.b (.a (.a (.b (.a (.b (.b (.b (.b .o))))))))))))))))))))) ⟨upd (upd (upd (upd (upd (upd (upd g 1 (.pt b0 0)) 3 (.d (.int .i64 stmts))) 4 (.d (.int .i64 nexts))) 5 (.d (.int .i64 total))) 6 (.d (.int .i64 i))) 7 (.pt b1 0)) 9 (.d (.int .i64 j)), H, n⟩ (PostD C Tryd.f120 [(.bool r)])
theorem r5_stages_L1_run_ok (tF : TypedT) (st : r5_stages_L1_S) (r : Bool) (h : r5_stages_L1_run tF st = some r) : r5_stages_L1_m tF st r := by
 refine r5_stages_L1_run.partial_correctness tF (r5_stages_L1_m tF) (fun r5_stages_L1_run' ih_ st r h => ?_) st r h
 cases st with
 | c0 stmts nexts total i =>
  intro b0 g H n hH
  refine Po (Ps (Ps (Pr rfl (Wm rfl (Fb fo95_6 (by decide) rfl 7 rfl (Lb szg93 hH (i := 0) rfl rfl rfl (w_len_d elem93 rfl ?_)))))))
  refine Wc h rfl ?_ ?_ <;> intro _ h
  refine Wn (Ns (Ct (Pk (Nc (Nb (Ns (Ps (Pb (Ps ?_)))))))))
  refine Pr rfl (Fb fo95_6 (by decide) rfl 7 rfl (Lb szg93 hH (i := 0) rfl rfl rfl (Wm rfl ?_)))
  refine w_idx h rfl elem93 szg196 (fun _ => rfl) rfl rfl (fun t21 h => ?_)
  refine w_load_d (d := (TStageT.enc t21)) szg196 rfl rfl ?_
  refine alloc_z rfl zero196 hH (fun b7928 H' n' hH => ?_)
  refine w_store_b (new := (TStageT.av t21)) rfl szg196 hH (i := 0) rfl rfl rfl rfl rfl (Nat.le_of_ble_eq_true rfl) (fun H' hH => ?_)
  refine Wn (Ns (Ps (Ps (p_calm rfl (by kernel_rfl) (Fb fo196_1 (by decide) rfl 1 rfl (Lb szg3 hH (i := 0) rfl rfl rfl ?_))))))
  refine w_scal (E := eB) h rfl sig114 (sc rfl (sc rfl (sc rfl (sn)))) (fun y hy => r5_within_ok _ _ _ y hy) (fun _ => rfl) (fun t25 h => ?_)
  revert h; cases t25 <;> intro h
  replace h := if0 h
  refine w_un rfl rfl (Wm rfl (Wk (Wk (Wk (Wk (Wk (Wk (Wk (Wk ?_)))))))))
  refine Wk (Wk (Wk (Wk (Wk (Wk (Wt rfl rfl (Wn (Ns (Ct ?_)))))))))
  refine Ps (Pr rfl (Wa rfl (Wn (Ns ?_))))
  cases h; exact Pq rfl rfl
  replace h := if1 h
  refine w_un rfl rfl (Wm rfl (Wm rfl ?_))
  refine Wc h rfl ?_ ?_ <;> intro _ h
  refine Wm rfl (Fb fo196_1 (by decide) rfl 1 rfl (Lb szg3 hH (i := 0) rfl rfl rfl (Fb fo95_6 (by decide) rfl 7 rfl (Lb szg93 hH (i := 1) rfl rfl rfl (Wm rfl (Wb rfl ?_))))))
  refine w_idx h rfl elem93 szg196 (fun _ => rfl) rfl rfl (fun t37 h => ?_)
  refine w_faddr_d rfl fo196_1 (by decide) rfl (w_load_d szg3 rfl rfl ?_)
  refine Wc h rfl ?_ ?_ <;> intro _ h
  refine Wt rfl rfl (Wf rfl rfl (Wn (Ns (Ct (Ps (Pr rfl (Wa rfl (Wn (Ns ?_)))))))))
  cases h; exact Pq rfl rfl
  refine Wt rfl rfl (Wf rfl rfl (Wn (Ns (Cf (Pk (Nb (Nb (Ns ?_))))))))
  exact jm 1 (jm 3 (jm 4 (jm 5 (jm 6 (jm 7 (ih_ (.c1 _ _ _ _ _) _ h b0 b7928 _ _ _ (hH.selG 2 [1, 0] (by decide) (by decide) (gc rfl (gc rfl (gt rfl))))))))))
  refine Wm rfl (Wk (Wk (Wk (Wk (Wk (Wk (Wk (Wk (Wk ?_)))))))))
  refine Wk (Wf rfl rfl (Wf rfl rfl (Wn (Ns (Cf (Pk (Nb (Nb (Ns ?_)))))))))
  exact jm 1 (jm 3 (jm 4 (jm 5 (jm 6 (jm 7 (ih_ (.c1 _ _ _ _ _) _ h b0 b7928 _ _ _ (hH.selG 2 [1, 0] (by decide) (by decide) (gc rfl (gc rfl (gt rfl))))))))))
  refine Wn (Ns (Cf (Px rfl (Nb (Nb (Xs (Xl (Xb (Nb ?_)))))))))
  refine Ns (Ps (Pr rfl (Wm rfl ?_)))
  refine Wc h rfl ?_ ?_ <;> intro _ h
  refine Wm rfl (Wm rfl ?_)
  refine Wc h rfl ?_ ?_ <;> intro _ h
  refine Wt rfl rfl (Wm rfl (Wm rfl (Wb rfl (Wt rfl rfl (Wa rfl (Wn (Ns ?_)))))))
  cases h; exact Pq rfl rfl
  refine Wt rfl rfl (Wm rfl (Wk (Wk (Wf rfl rfl (Wa rfl (Wn (Ns ?_)))))))
  cases h; exact Pq rfl rfl
  refine Wm rfl (Wk (Wk (Wf rfl rfl (Wm rfl (Wk (Wk (Wf rfl rfl (Wa rfl (Wn ?_)))))))))
  refine Ns ?_
  cases h; exact Pq rfl rfl
 | c1 stmts nexts total i s_ =>
  intro b0 b1 g H n hH
  refine Ps (Pr rfl (Fb fo95_1 (by decide) rfl 1 rfl (Fb fo89_0 (by decide) rfl 1 rfl (Lb szg86 hH (i := 0) rfl rfl rfl (w_len_d elem86 rfl (Wa rfl (Wn (Ns (Ps ?_)))))))))
  refine Ps (Pr rfl (Wm rfl ?_))
  refine Wc h rfl ?_ ?_ <;> intro _ h
  refine Wm rfl (Fb fo196_2 (by decide) rfl 2 rfl (Lb szg138 hH (i := 1) rfl rfl rfl (Wm rfl ?_)))
  refine w_shr h rfl rfl rfl (fun t53 h => ?_)
  refine Wd h rfl ?_ ?_ <;> intro _ h
  refine Wt rfl rfl (Wn (Ns (Cf (Pk (Nb (Nb (Ns ?_)))))))
  exact jm 1 (jm 3 (jm 4 (jm 5 (jm 6 (jm 7 (ih_ (.c2 _ _ _ _ _) _ h b0 b1 _ _ _ hH))))))
  refine Wt rfl rfl (Wn (Ns (Ct (Ps (Pr rfl (Wa rfl (Wn (Ns ?_))))))))
  cases h; exact Pq rfl rfl
  refine Wm rfl (Wk (Wk (Wk (Wk (Wk (Wf rfl rfl (Wn (Ns (Cf ?_)))))))))
  refine Pk (Nb (Nb (Ns ?_)))
  exact jm 1 (jm 3 (jm 4 (jm 5 (jm 6 (jm 7 (ih_ (.c2 _ _ _ _ _) _ h b0 b1 _ _ _ hH))))))
 | c2 stmts nexts total i s_ =>
  intro b0 b1 g H n hH
  refine Ps (Ps (Pr rfl (w_load_b (v := .agg (TypedT.av tF)) rfl szg95 hH (i := 0) rfl rfl rfl (Fb fo196_3 (by decide) rfl 3 rfl (Lb szg58 hH (i := 1) rfl rfl rfl ?_)))))
  refine w_scal (E := eB) h rfl sig85 (sc rfl (sc rfl (sn))) (fun y hy => r5_SoundList_ok _ _ y hy) (fun _ => rfl) (fun t59 h => ?_)
  revert h; cases t59 <;> intro h
  replace h := if0 h
  refine w_un rfl rfl (Wm rfl (Wk (Wk (Wk (Wk (Wk (Wt rfl rfl (Wm rfl (Wk ?_)))))))))
  refine Wk (Wk (Wk (Wk (Wt rfl rfl (Wn (Ns (Ct (Ps (Pr rfl ?_)))))))))
  refine Wa rfl (Wn (Ns ?_))
  cases h; exact Pq rfl rfl
  replace h := if1 h
  refine w_un rfl rfl (Wm rfl (w_load_b (v := .agg (TypedT.av tF)) rfl szg95 hH (i := 0) rfl rfl rfl (Fb fo196_4 (by decide) rfl 4 rfl (Lb szg58 hH (i := 1) rfl rfl rfl ?_))))
  refine w_scal (E := eB) h rfl sig85 (sc rfl (sc rfl (sn))) (fun y hy => r5_SoundList_ok _ _ y hy) (fun _ => rfl) (fun t65 h => ?_)
  revert h; cases t65 <;> intro h
  replace h := if0 h
  refine w_un rfl rfl (Wf rfl rfl (Wm rfl (Wk (Wk (Wk (Wk (Wk (Wt rfl rfl (Wn ?_)))))))))
  refine Ns (Ct (Ps (Pr rfl (Wa rfl (Wn (Ns ?_))))))
  cases h; exact Pq rfl rfl
  replace h := if1 h
  refine w_un rfl rfl (Wf rfl rfl (Wm rfl (w_load_b (v := .agg (TypedT.av tF)) rfl szg95 hH (i := 0) rfl rfl rfl (Fb fo196_5 (by decide) rfl 5 rfl (Lb szg58 hH (i := 1) rfl rfl rfl ?_)))))
  refine w_scal (E := eB) h rfl sig85 (sc rfl (sc rfl (sn))) (fun y hy => r5_SoundList_ok _ _ y hy) (fun _ => rfl) (fun t72 h => ?_)
  revert h; cases t72 <;> intro h
  replace h := if0 h
  refine w_un rfl rfl (Wf rfl rfl (Wn (Ns (Ct (Ps (Pr rfl (Wa rfl (Wn (Ns ?_)))))))))
  cases h; exact Pq rfl rfl
  replace h := if1 h
  refine w_un rfl rfl (Wf rfl rfl (Wn (Ns (Cf (Pk (Nb (Nb (Ns (Ps ?_)))))))))
  refine Pr rfl (Wm rfl (Fb fo196_3 (by decide) rfl 3 rfl (Lb szg58 hH (i := 1) rfl rfl rfl (w_len_d elem58 rfl (Wb rfl (Fb fo196_4 (by decide) rfl 4 rfl (Lb szg58 hH (i := 1) rfl rfl rfl (w_len_d elem58 rfl (Wb rfl ?_)))))))))
  refine Fb fo196_5 (by decide) rfl 5 rfl (Lb szg58 hH (i := 1) rfl rfl rfl (w_len_d elem58 rfl (Wb rfl (Wa rfl (Wn (Ns (Ps (p_calm rfl (by kernel_rfl) (Wm rfl ?_)))))))))
  refine Fb fo196_3 (by decide) rfl 3 rfl (Lb szg58 hH (i := 1) rfl rfl rfl ?_)
  refine w_scal (E := eI) h rfl sig177 (sc rfl (sn)) (fun y hy => r5_nodes_ok _ y hy) (fun _ => rfl) (fun t91 h => ?_)
  refine Wb rfl (Fb fo196_4 (by decide) rfl 4 rfl (Lb szg58 hH (i := 1) rfl rfl rfl ?_))
  refine w_scal (E := eI) h rfl sig177 (sc rfl (sn)) (fun y hy => r5_nodes_ok _ y hy) (fun _ => rfl) (fun t95 h => ?_)
  refine Wb rfl (Fb fo196_5 (by decide) rfl 5 rfl (Lb szg58 hH (i := 1) rfl rfl rfl ?_))
  refine w_scal (E := eI) h rfl sig177 (sc rfl (sn)) (fun y hy => r5_nodes_ok _ y hy) (fun _ => rfl) (fun t99 h => ?_)
  refine Wb rfl (Wa rfl (Wn (Ns (Ps (Pr rfl (Wm rfl (Fb fo196_6 (by decide) rfl 6 rfl (Lb szg194 hH (i := 1) rfl rfl rfl (w_len_d elem194 rfl ?_)))))))))
  refine Wb rfl (Wa rfl (Wn (Ns (Ps (Pr rfl (Wa rfl (Wn (Ns (Pb ?_)))))))))
  exact jm 1 (jm 3 (jm 4 (jm 5 (jm 6 (jm 7 (jm 9 (ih_ (.c3 _ _ _ _ _ _) _ h b0 b1 _ _ _ hH)))))))
 | c3 stmts nexts total i s_ j =>
  intro b0 b1 g H n hH
  refine Po (Ps (Ps (Pr rfl (Wm rfl (Fb fo196_6 (by decide) rfl 6 rfl (Lb szg194 hH (i := 1) rfl rfl rfl (w_len_d elem194 rfl ?_)))))))
  refine Wc h rfl ?_ ?_ <;> intro _ h
  refine Wn (Ns (Ct (Pk (Nc (Nb (Ns (Ps (Pb (Ps ?_)))))))))
  refine Pr rfl (Fb fo196_6 (by decide) rfl 6 rfl (Lb szg194 hH (i := 1) rfl rfl rfl (Wm rfl ?_)))
  refine w_idx h rfl elem194 szg198 (fun _ => rfl) rfl rfl (fun t116 h => ?_)
  refine w_load_d (d := (TNextT.enc t116)) szg198 rfl rfl ?_
  refine alloc_z rfl zero198 hH (fun b7929 H' n' hH => ?_)
  refine w_store_b (new := (TNextT.av t116)) rfl szg198 hH (i := 0) rfl rfl rfl rfl rfl (Nat.le_of_ble_eq_true rfl) (fun H' hH => ?_)
  refine Wn (Ns (Ps (Ps (Pr rfl (Fb fo198_0 (by decide) rfl 0 rfl (Lb szg3 hH (i := 0) rfl rfl rfl ?_))))))
  refine Wc h rfl ?_ ?_ <;> intro _ h
  refine Wm rfl (Wk (Wk (Wk (Wk (Wk (Wk (Wt rfl rfl (Wm rfl (Wk ?_)))))))))
  refine Wk (Wk (Wk (Wt rfl rfl (Wm rfl (Wk (Wk (Wk (Wk (Wk ?_)))))))))
  refine Wt rfl rfl (Wn (Ns (Ct (Ps (Pr rfl (Wa rfl (Wn (Ns ?_))))))))
  cases h; exact Pq rfl rfl
  refine Wm rfl (Fb fo198_0 (by decide) rfl 0 rfl (Lb szg3 hH (i := 0) rfl rfl rfl (Fb fo95_6 (by decide) rfl 7 rfl (Lb szg93 hH (i := 1) rfl rfl rfl (w_len_d elem93 rfl ?_)))))
  refine Wc h rfl ?_ ?_ <;> intro _ h
  refine Wf rfl rfl (Wm rfl (Wk (Wk (Wk (Wk (Wt rfl rfl (Wm rfl (Wk (Wk ?_)))))))))
  refine Wk (Wk (Wk (Wt rfl rfl (Wn (Ns (Ct (Ps (Pr rfl (Wa rfl ?_)))))))))
  refine Wn (Ns ?_)
  cases h; exact Pq rfl rfl
  refine Wf rfl rfl (Wm rfl (Fb fo198_0 (by decide) rfl 0 rfl (Lb szg3 hH (i := 0) rfl rfl rfl (Wm rfl ?_))))
  refine Wc h rfl ?_ ?_ <;> intro _ h
  refine Wf rfl rfl (Wm rfl (Wk (Wk (Wk (Wk (Wk (Wt rfl rfl (Wn (Ns ?_)))))))))
  refine Ct (Ps (Pr rfl (Wa rfl (Wn (Ns ?_)))))
  cases h; exact Pq rfl rfl
  refine Wf rfl rfl (Wm rfl (w_load_b (v := .agg (TypedT.av tF)) rfl szg95 hH (i := 1) rfl rfl rfl (Fb fo198_1 (by decide) rfl 1 rfl (Lb szg22 hH (i := 0) rfl rfl rfl ?_))))
  refine w_scal (E := eB) h rfl sig52 (sc rfl (sc rfl (sc rfl (sn)))) (fun y hy => r5_SoundExpr_ok _ _ _ y hy) (fun _ => rfl) (fun t139 h => ?_)
  revert h; cases t139 <;> intro h
  replace h := if0 h
  refine w_un rfl rfl (Wf rfl rfl (Wn (Ns (Ct (Ps (Pr rfl (Wa rfl (Wn (Ns ?_)))))))))
  cases h; exact Pq rfl rfl
  replace h := if1 h
  refine w_un rfl rfl (Wf rfl rfl (Wn (Ns (Cf (Pk (Nb (Nb (Ns (Pr rfl ?_)))))))))
  refine Wm rfl (Fb fo198_1 (by decide) rfl 1 rfl (Lb szg22 hH (i := 0) rfl rfl rfl (w_len_d elem22 rfl (Wb rfl (Wa rfl (Wn (Nb (Nb (Nk ?_)))))))))
  refine Ns (Pr rfl (Wm rfl (Wb rfl (Wa rfl (Wn (Nb (Nb (Nl ?_))))))))
  exact jm 1 (jm 3 (jm 4 (jm 5 (jm 6 (jm 7 (jm 9 (ih_ (.c3 _ _ _ _ _ _) _ h b0 b1 _ _ _ (hH.selG 3 [1, 2] (by decide) (by decide) (gc rfl (gc rfl (gt rfl)))))))))))
  refine Wn (Ns (Cf (Px rfl (Nb (Nb (Xs (Xl (Xb (Nb ?_)))))))))
  refine Nb (Nb (Nb (Nb (Nb (Nb (Nb (Nb (Nk (Ns ?_)))))))))
  refine Pr rfl (Wm rfl (Wb rfl (Wa rfl (Wn (Nb (Nb (Nl ?_)))))))
  exact jm 1 (jm 3 (jm 4 (jm 5 (jm 6 (ih_ (.c0 _ _ _ _) _ h b0 _ _ _ (hH.selG 2 [0] (by decide) (by decide) (gc rfl (gt rfl))))))))
theorem r5_stages_L1_ok (tF : TypedT) (stmts : Int) (nexts : Int) (total : Int) (i : Int) (r : Bool) (h : r5_stages_L1 tF stmts nexts total i = some r) : r5_stages_L1_m tF (.c0 stmts nexts total i) r := r5_stages_L1_run_ok tF (.c0 stmts nexts total i) r h
theorem r5_stages_ok (t : TypedT) (r : Bool) (h : r5_stages t = some r) : callD C 120 [(TypedT.enc t)] = some [(.bool r)] := by
 refine callD_at (ext0 _ _ rfl) fn120 rfl (jmp 0 (.d (TypedT.enc t)) rfl (Ps (Pr rfl ?_)))
 refine w_box (cs := (TypedT.av t)) rfl szg95 rfl rfl rfl (HP.nil _ _) (fun b7927 H' n' hH => ?_)
 refine Wa rfl (Wn (Ns (Ps (Pr rfl (Wa rfl (Wn (Ns (Ps (Pr rfl ?_)))))))))
 refine Wa rfl (Wn (Ns (Ps (Pr rfl (Wa rfl (Wn (Ns (Ps (Ps ?_)))))))))
 refine Pr rfl (Wa rfl (Wn (Ns (Pb ?_))))
 exact jm 1 (jm 3 (jm 4 (jm 5 (jm 6 (r5_stages_L1_ok _ _ _ _ _ _ h b7927 _ _ _ hH)))))
def r5_Sound_L1_M (t : TypedT) (i : Int) (r : Bool) : Prop := ∀ (b0 g H n) (hH : HP H n [.box b0 (TypedT.av t)]), PAt C (bodyOf Tryd.f50) (.a (.b (.a (.b (.b (.b .o)))))) ⟨upd (upd g 1 (.pt b0 0)) 3 (.d (.int .i64 i)), H, n⟩ (PostD C Tryd.f50 [(.bool r)])
theorem r5_Sound_L1_ok (t : TypedT) (i : Int) (r : Bool) (h : r5_Sound_L1 t i = some r) : r5_Sound_L1_M t i r := by
 refine r5_Sound_L1.partial_correctness t (fun i r => r5_Sound_L1_M t i r) (fun r5_Sound_L1 ih_r5_Sound_L1 i r h b0 g H n hH => ?_) i r h
 refine Po (Ps (Ps (Pr rfl (Wm rfl (Fb fo95_2 (by decide) rfl 3 rfl (Lb szg90 hH (i := 0) rfl rfl rfl (w_len_d elem90 rfl ?_)))))))
 refine Wc h rfl ?_ ?_ <;> intro _ h
 refine Wn (Ns (Ct (Pk (Nc (Nb (Ns (Ps (Pb (Ps ?_)))))))))
 refine Pr rfl (Fb fo95_2 (by decide) rfl 3 rfl (Lb szg90 hH (i := 0) rfl rfl rfl (Wm rfl ?_)))
 refine w_idx h rfl elem90 szg207 (fun _ => rfl) rfl rfl (fun t60 h => ?_)
 refine w_faddr_d rfl fo207_2 (by decide) rfl (w_load_d szg3 rfl rfl ?_)
 refine w_scal (E := eB) h rfl sig114 (sc rfl (sc rfl (sc rfl (sn)))) (fun y hy => r5_within_ok _ _ _ y hy) (fun _ => rfl) (fun t63 h => ?_)
 revert h; cases t63 <;> intro h
 replace h := if0 h
 refine w_un rfl rfl (Wm rfl (Wk (Wk (Wk (Wk (Wk (Wk (Wk (Wk ?_)))))))))
 refine Wt rfl rfl (Wn (Ns (Ct (Ps (Pr rfl (Wa rfl (Wn (Ns ?_))))))))
 cases h; exact Pq rfl rfl
 replace h := if1 h
 refine w_un rfl rfl (Wm rfl (Fb fo95_2 (by decide) rfl 3 rfl (Lb szg90 hH (i := 0) rfl rfl rfl (Wm rfl ?_))))
 refine w_idx h rfl elem90 szg207 (fun _ => rfl) rfl rfl (fun t69 h => ?_)
 refine w_faddr_d rfl fo207_3 (by decide) rfl (w_load_d szg3 rfl rfl ?_)
 refine w_scal (E := eB) h rfl sig114 (sc rfl (sc rfl (sc rfl (sn)))) (fun y hy => r5_within_ok _ _ _ y hy) (fun _ => rfl) (fun t72 h => ?_)
 revert h; cases t72 <;> intro h
 replace h := if0 h
 refine w_un rfl rfl (Wf rfl rfl (Wn (Ns (Ct (Ps (Pr rfl (Wa rfl (Wn (Ns ?_)))))))))
 cases h; exact Pq rfl rfl
 replace h := if1 h
 refine w_un rfl rfl (Wf rfl rfl (Wn (Ns (Cf (Pk (Nb (Nb (Nk (Ns ?_)))))))))
 refine Pr rfl (Wm rfl (Wb rfl (Wa rfl (Wn (Nb (Nb (Nl ?_)))))))
 exact jm 1 (jm 3 (ih_r5_Sound_L1 _ _ h b0 _ _ _ hH))
 refine Wn (Ns (Cf (Px rfl (Nb (Nb (Xs (Xl (Xb (Nb ?_)))))))))
 refine Ns (Ps (Pr rfl (Fb fo95_0 (by decide) rfl 0 rfl (Lb szg9 hH (i := 0) rfl rfl rfl ?_))))
 refine w_bslice (enc := Dat.str) (xs := [t.Name]) [.d (.str t.Name)] rfl elem91 szg9 zero9 ⟨by decide, Nat.le_of_ble_eq_true rfl⟩ zd9 (fun _ => rfl) (fun _ => rfl) rfl rfl hH (fun w7932 H' n' hH => ?_)
 refine w_scal (E := eB) h rfl sig118 (sc (so 3 hH (j := 0) rfl) (sn)) (fun y hy => r5_unlike_ok _ y hy) (fun _ => rfl) (fun t78 h => ?_)
 revert h; cases t78 <;> intro h
 replace h := if0 h
 refine Wm rfl (Wk (Wk (Wk (Wf rfl rfl (Wm rfl (Wk (Wk (Wf rfl rfl (Wa rfl ?_)))))))))
 refine Wn (Ns ?_)
 cases h; exact Pq rfl rfl
 replace h := if1 h
 refine Wm rfl (w_load_b (v := .agg (TypedT.av t)) rfl szg95 hH (i := 1) rfl rfl rfl ?_)
 refine w_dat (E := (fun y => [(.lst (y.map Dat.str))])) (xs := [(TypedT.enc t)]) h rfl sig119 rfl rfl (fun y hy => r5_things_ok _ y hy) (fun t81 h => ?_)
 refine w_scal (E := eB) h rfl sig118 (sc rfl (sn)) (fun y hy => r5_unlike_ok _ y hy) (fun _ => rfl) (fun t82 h => ?_)
 revert h; cases t82 <;> intro h
 replace h := if0 h
 refine Wt rfl rfl (Wm rfl (Wk (Wk (Wf rfl rfl (Wa rfl (Wn (Ns ?_)))))))
 cases h; exact Pq rfl rfl
 replace h := if1 h
 refine Wt rfl rfl (Wm rfl (w_load_b (v := .agg (TypedT.av t)) rfl szg95 hH (i := 1) rfl rfl rfl ?_))
 refine w_scal (E := eB) h rfl sig120 (sc rfl (sn)) (fun y hy => r5_stages_ok _ y hy) (fun _ => rfl) (fun t86 h => ?_)
 refine Wt rfl rfl (Wa rfl (Wn (Ns ?_)))
 cases h; exact Pq rfl rfl
theorem r5_Sound_ok (t : TypedT) (r : Bool) (h : r5_Sound t = some r) : callD C 50 [(TypedT.enc t)] = some [(.bool r)] := by
 refine callD_at (ext0 _ _ rfl) fn50 rfl (jmp 0 (.d (TypedT.enc t)) rfl (Ps (Pr rfl ?_)))
 refine w_box (cs := (TypedT.av t)) rfl szg95 rfl rfl rfl (HP.nil _ _) (fun b7931 H' n' hH => ?_)
 refine Wa rfl (Wn (Ns (Ps (Ps (Pr rfl (Fb fo95_1 (by decide) rfl 1 rfl (w_load_b (v := .agg (TablesT.av t.Tables)) rfl szg89 hH (i := 0) rfl rfl rfl ?_)))))))
 refine w_scal (E := eB) h rfl sig48 (sc rfl (sn)) (fun y hy => r5_Grid_ok _ y hy) (fun _ => rfl) (fun t6 h => ?_)
 revert h; cases t6 <;> intro h
 replace h := if0 h
 refine w_un rfl rfl (Wm rfl (Wk (Wk (Wk (Wk (Wt rfl rfl (Wm rfl (Wk (Wk ?_)))))))))
 refine Wk (Wk (Wt rfl rfl (Wm rfl (Wk (Wk (Wk (Wk (Wt rfl rfl (Wm rfl ?_)))))))))
 refine Wk (Wk (Wk (Wk (Wt rfl rfl (Wn (Ns (Ct (Ps (Pr rfl ?_)))))))))
 refine Wa rfl (Wn (Ns ?_))
 cases h; exact Pq rfl rfl
 replace h := if1 h
 refine w_un rfl rfl (Wm rfl (Fb fo95_2 (by decide) rfl 3 rfl (Lb szg90 hH (i := 0) rfl rfl rfl (w_len_d elem90 rfl ?_))))
 refine Wc h rfl ?_ ?_ <;> intro _ h
 refine Wf rfl rfl (Wm rfl (Wk (Wk (Wk (Wk (Wt rfl rfl (Wm rfl (Wk (Wk ?_)))))))))
 refine Wk (Wk (Wt rfl rfl (Wm rfl (Wk (Wk (Wk (Wk (Wt rfl rfl (Wn ?_)))))))))
 refine Ns (Ct (Ps (Pr rfl (Wa rfl (Wn (Ns ?_))))))
 cases h; exact Pq rfl rfl
 refine Wf rfl rfl (Wm rfl (Fb fo95_3 (by decide) rfl 4 rfl (Lb szg91 hH (i := 0) rfl rfl rfl (w_len_d elem91 rfl ?_))))
 refine Wc h rfl ?_ ?_ <;> intro _ h
 refine Wf rfl rfl (Wm rfl (Wk (Wk (Wk (Wk (Wt rfl rfl (Wm rfl (Wk (Wk ?_)))))))))
 refine Wk (Wk (Wt rfl rfl (Wn (Ns (Ct (Ps (Pr rfl (Wa rfl (Wn ?_)))))))))
 refine Ns ?_
 cases h; exact Pq rfl rfl
 refine Wf rfl rfl (Wm rfl (Fb fo95_4 (by decide) rfl 5 rfl (Lb szg91 hH (i := 0) rfl rfl rfl (w_len_d elem91 rfl ?_))))
 refine Wc h rfl ?_ ?_ <;> intro _ h
 refine Wf rfl rfl (Wm rfl (Wk (Wk (Wk (Wk (Wt rfl rfl (Wn (Ns (Ct ?_)))))))))
 refine Ps (Pr rfl (Wa rfl (Wn (Ns ?_))))
 cases h; exact Pq rfl rfl
 refine Wf rfl rfl (Wm rfl (Fb fo95_5 (by decide) rfl 6 rfl (Lb szg92 hH (i := 0) rfl rfl rfl (w_len_d elem92 rfl ?_))))
 refine Wc h rfl ?_ ?_ <;> intro _ h
 refine Wf rfl rfl (Wn (Ns (Ct (Ps (Pr rfl (Wa rfl (Wn (Ns ?_))))))))
 cases h; exact Pq rfl rfl
 refine Wf rfl rfl (Wn (Ns (Cf (Pk (Nb (Nb (Ns (Ps (Ps ?_)))))))))
 refine Pr rfl (Fb fo95_6 (by decide) rfl 7 rfl (Lb szg93 hH (i := 0) rfl rfl rfl (w_len_d elem93 rfl ?_)))
 refine w_scal (E := eB) h rfl sig114 (sc rfl (sc rfl (sc rfl (sn)))) (fun y hy => r5_within_ok _ _ _ y hy) (fun _ => rfl) (fun t35 h => ?_)
 revert h; cases t35 <;> intro h
 replace h := if0 h
 refine w_un rfl rfl (Wm rfl (Wk (Wk (Wk (Wt rfl rfl (Wm rfl (Wk (Wk (Wk ?_)))))))))
 refine Wk (Wk (Wk (Wt rfl rfl (Wn (Ns (Ct (Ps (Pr rfl (Wa rfl ?_)))))))))
 refine Wn (Ns ?_)
 cases h; exact Pq rfl rfl
 replace h := if1 h
 refine w_un rfl rfl (Wm rfl (Fb fo95_7 (by decide) rfl 8 rfl (Lb szg3 hH (i := 0) rfl rfl rfl ?_)))
 refine Wc h rfl ?_ ?_ <;> intro _ h
 refine Wf rfl rfl (Wm rfl (Wk (Wk (Wk (Wk (Wk (Wk (Wt rfl rfl (Wn ?_)))))))))
 refine Ns (Ct (Ps (Pr rfl (Wa rfl (Wn (Ns ?_))))))
 cases h; exact Pq rfl rfl
 refine Wf rfl rfl (Wm rfl (Fb fo95_7 (by decide) rfl 8 rfl (Lb szg3 hH (i := 0) rfl rfl rfl (Fb fo95_6 (by decide) rfl 7 rfl (Lb szg93 hH (i := 0) rfl rfl rfl (w_len_d elem93 rfl ?_))))))
 refine Wc h rfl ?_ ?_ <;> intro _ h
 refine Wf rfl rfl (Wn (Ns (Ct (Ps (Pr rfl (Wa rfl (Wn (Ns ?_))))))))
 cases h; exact Pq rfl rfl
 refine Wf rfl rfl (Wn (Ns (Cf (Pk (Nb (Nb (Ns (Ps (Ps ?_)))))))))
 refine Pr rfl (Wa rfl (Wn (Ns (Pb ?_))))
 exact jm 1 (jm 3 (r5_Sound_L1_ok _ _ _ h b7931 _ _ _ hH))
def r5_SameTables_L2_M (a : TablesT) (b : TablesT) (i : Int) (r : Bool) : Prop := ∀ (b0 b1 g H n) (hH : HP H n [.box b0 (TablesT.av a), .box b1 (TablesT.av b)]), PAt C (bodyOf Tryd.f124) (.a (.b (.a (.b (.b (.b .o)))))) ⟨upd (upd (upd g 2 (.pt b0 0)) 3 (.pt b1 0)) 6 (.d (.int .i64 i)), H, n⟩ (PostD C Tryd.f124 [(.bool r)])
theorem r5_SameTables_L2_ok (a : TablesT) (b : TablesT) (i : Int) (r : Bool) (h : r5_SameTables_L2 a b i = some r) : r5_SameTables_L2_M a b i r := by
 refine r5_SameTables_L2.partial_correctness a b (fun i r => r5_SameTables_L2_M a b i r) (fun r5_SameTables_L2 ih_r5_SameTables_L2 i r h b0 b1 g H n hH => ?_) i r h
 refine Po (Ps (Ps (Pr rfl (Wm rfl (Fb fo89_1 (by decide) rfl 1 rfl (Lb szg87 hH (i := 0) rfl rfl rfl (w_len_d elem87 rfl ?_)))))))
 refine Wc h rfl ?_ ?_ <;> intro _ h
 refine Wn (Ns (Ct (Pk (Nc (Nb (Ns (Ps (Pb (Ps ?_)))))))))
 refine p_calm rfl (by kernel_rfl) (Fb fo89_1 (by decide) rfl 1 rfl (Lb szg87 hH (i := 0) rfl rfl rfl (Wm rfl ?_)))
 refine w_idx h rfl elem87 szg203 (fun _ => rfl) rfl rfl (fun t51 h => ?_)
 refine w_load_d (d := (ConflictT.enc t51)) szg203 rfl rfl (Fb fo89_1 (by decide) rfl 1 rfl (Lb szg87 hH (i := 1) rfl rfl rfl (Wm rfl ?_)))
 refine w_idx h rfl elem87 szg203 (fun _ => rfl) rfl rfl (fun t56 h => ?_)
 refine w_load_d (d := (ConflictT.enc t56)) szg203 rfl rfl ?_
 refine w_split (b := (!(decide (t51.A = t56.A) && (decide (t51.B = t56.B) && (decide (t51.AB = t56.AB) && (decide (t51.BA = t56.BA) && true)))))) h rfl (o_neqS isst203 eqs203 rfl rfl rfl) rfl (fun _ => ⟨rfl, rfl⟩) (fun _ h => ?_) (fun _ h => ?_)
 refine Wn (Ns (Ct (Ps (Pr rfl (Wa rfl (Wn (Ns ?_)))))))
 cases h; exact Pq rfl rfl
 refine Wn (Ns (Cf (Pk (Nb (Nb (Nk (Ns (Pr rfl (Wm rfl ?_)))))))))
 refine Wb rfl (Wa rfl (Wn (Nb (Nb (Nl ?_)))))
 exact jm 2 (jm 3 (jm 6 (ih_r5_SameTables_L2 _ _ h b0 b1 _ _ _ hH)))
 refine Wn (Ns (Cf (Px rfl (Nb (Nb (Xs (Xl (Xb (Nb ?_)))))))))
 refine Ns (Ps (Pr rfl (Wa rfl (Wn (Ns ?_)))))
 cases h; exact Pq rfl rfl
def r5_SameTables_L1_M (a : TablesT) (b : TablesT) (i : Int) (r : Bool) : Prop := ∀ (b0 b1 g H n) (hH : HP H n [.box b0 (TablesT.av a), .box b1 (TablesT.av b)]), PAt C (bodyOf Tryd.f124) (.a (.b (.a (.b (.b .o))))) ⟨upd (upd (upd g 2 (.pt b0 0)) 3 (.pt b1 0)) 5 (.d (.int .i64 i)), H, n⟩ (PostD C Tryd.f124 [(.bool r)])
theorem r5_SameTables_L1_ok (a : TablesT) (b : TablesT) (i : Int) (r : Bool) (h : r5_SameTables_L1 a b i = some r) : r5_SameTables_L1_M a b i r := by
 refine r5_SameTables_L1.partial_correctness a b (fun i r => r5_SameTables_L1_M a b i r) (fun r5_SameTables_L1 ih_r5_SameTables_L1 i r h b0 b1 g H n hH => ?_) i r h
 refine Po (Ps (Ps (Pr rfl (Wm rfl (Fb fo89_0 (by decide) rfl 0 rfl (Lb szg86 hH (i := 0) rfl rfl rfl (w_len_d elem86 rfl ?_)))))))
 refine Wc h rfl ?_ ?_ <;> intro _ h
 refine Wn (Ns (Ct (Pk (Nc (Nb (Ns (Ps (Pb (Ps ?_)))))))))
 refine p_calm rfl (by kernel_rfl) (Fb fo89_0 (by decide) rfl 0 rfl (Lb szg86 hH (i := 0) rfl rfl rfl (Wm rfl ?_)))
 refine w_idx h rfl elem86 szg200 (fun _ => rfl) rfl rfl (fun t33 h => ?_)
 refine w_load_d (d := (GroupT.enc t33)) szg200 rfl rfl (Fb fo89_0 (by decide) rfl 0 rfl (Lb szg86 hH (i := 1) rfl rfl rfl (Wm rfl ?_)))
 refine w_idx h rfl elem86 szg200 (fun _ => rfl) rfl rfl (fun t38 h => ?_)
 refine w_load_d (d := (GroupT.enc t38)) szg200 rfl rfl ?_
 refine w_split (b := (!(decide (t33.Name = t38.Name) && (decide (t33.Sort_ = t38.Sort_) && (decide (t33.Min = t38.Min) && (decide (t33.Amber = t38.Amber) && (decide (t33.Lead = t38.Lead) && true))))))) h rfl (o_neqS isst200 eqs200 rfl rfl rfl) rfl (fun _ => ⟨rfl, rfl⟩) (fun _ h => ?_) (fun _ h => ?_)
 refine Wn (Ns (Ct (Ps (Pr rfl (Wa rfl (Wn (Ns ?_)))))))
 cases h; exact Pq rfl rfl
 refine Wn (Ns (Cf (Pk (Nb (Nb (Nk (Ns (Pr rfl (Wm rfl ?_)))))))))
 refine Wb rfl (Wa rfl (Wn (Nb (Nb (Nl ?_)))))
 exact jm 2 (jm 3 (jm 5 (ih_r5_SameTables_L1 _ _ h b0 b1 _ _ _ hH)))
 refine Wn (Ns (Cf (Px rfl (Nb (Nb (Xs (Xl (Xb (Nb ?_)))))))))
 refine Ns (Ps (Ps (Pr rfl (Wa rfl (Wn (Ns (Pb ?_)))))))
 exact jm 2 (jm 3 (jm 6 (r5_SameTables_L2_ok _ _ _ _ h b0 b1 _ _ _ hH)))
theorem r5_SameTables_ok (a : TablesT) (b : TablesT) (r : Bool) (h : r5_SameTables a b = some r) : callD C 124 [(TablesT.enc a), (TablesT.enc b)] = some [(.bool r)] := by
 refine callD_at (ext0 _ _ rfl) fn124 rfl (jmp 0 (.d (TablesT.enc a)) rfl (jmp 1 (.d (TablesT.enc b)) rfl (Ps (Pr rfl ?_))))
 refine w_box (cs := (TablesT.av a)) rfl szg89 rfl rfl rfl (HP.nil _ _) (fun b7937 H' n' hH => ?_)
 refine w_box (cs := (TablesT.av b)) rfl szg89 rfl rfl rfl hH (fun b7938 H' n' hH => ?_)
 refine Wa rfl (Wn (Ns (Ps (Ps (Pr rfl (Fb fo89_0 (by decide) rfl 0 rfl (Lb szg86 hH (i := 1) rfl rfl rfl (w_len_d elem86 rfl (Fb fo89_0 (by decide) rfl 0 rfl ?_)))))))))
 refine Lb szg86 hH (i := 0) rfl rfl rfl (w_len_d elem86 rfl ?_)
 refine Wd h rfl ?_ ?_ <;> intro _ h
 refine Wm rfl (Fb fo89_1 (by decide) rfl 1 rfl (Lb szg87 hH (i := 1) rfl rfl rfl (w_len_d elem87 rfl (Fb fo89_1 (by decide) rfl 1 rfl (Lb szg87 hH (i := 0) rfl rfl rfl (w_len_d elem87 rfl ?_))))))
 refine Wd h rfl ?_ ?_ <;> intro _ h
 refine Wf rfl rfl (Wn (Ns (Cf (Pk (Nb (Nb (Ns (Ps (Ps ?_)))))))))
 refine Pr rfl (Wa rfl (Wn (Ns (Pb ?_))))
 exact jm 2 (jm 3 (jm 5 (r5_SameTables_L1_ok _ _ _ _ h b7937 b7938 _ _ _ (hH.selG 2 [1, 0] (by decide) (by decide) (gc rfl (gc rfl (gt rfl)))))))
 refine Wf rfl rfl (Wn (Ns (Ct (Ps (Pr rfl (Wa rfl (Wn (Ns ?_))))))))
 cases h; exact Pq rfl rfl
 refine Wm rfl (Wk (Wk (Wk (Wk (Wk (Wk (Wk (Wt rfl rfl (Wn ?_)))))))))
 refine Ns (Ct (Ps (Pr rfl (Wa rfl (Wn (Ns ?_))))))
 cases h; exact Pq rfl rfl
def r5_SameStrings_L1_M (a : List ByteArray) (b : List ByteArray) (i : Int) (r : Bool) : Prop := ∀ (g : Nat → AV) (H : Hs) (n : Nat), PAt C (bodyOf Tryd.f125) (.a (.b (.a (.b (.b .o))))) ⟨upd (upd (upd g 0 (.d (.lst (a.map Dat.str)))) 1 (.d (.lst (b.map Dat.str)))) 5 (.d (.int .i64 i)), H, n⟩ (PostD C Tryd.f125 [(.bool r)])
theorem r5_SameStrings_L1_ok (a : List ByteArray) (b : List ByteArray) (i : Int) (r : Bool) (h : r5_SameStrings_L1 a b i = some r) : r5_SameStrings_L1_M a b i r := by
 refine r5_SameStrings_L1.partial_correctness a b (fun i r => r5_SameStrings_L1_M a b i r) (fun r5_SameStrings_L1 ih_r5_SameStrings_L1 i r h g H n => ?_) i r h
 refine Po (Ps (Ps (Pr rfl (Wm rfl (Wm rfl (w_len_d elem91 rfl ?_))))))
 refine Wc h rfl ?_ ?_ <;> intro _ h
 refine Wn (Ns (Ct (Pk (Nc (Nb (Ns (Ps (Pb (Ps ?_)))))))))
 refine p_calm rfl (by kernel_rfl) (Wm rfl (Wm rfl ?_))
 refine w_idx h rfl elem91 szg9 (fun _ => rfl) rfl rfl (fun t19 h => ?_)
 refine w_load_d szg9 rfl rfl (Wm rfl (Wm rfl ?_))
 refine w_idx h rfl elem91 szg9 (fun _ => rfl) rfl rfl (fun t23 h => ?_)
 refine w_load_d szg9 rfl rfl ?_
 refine Wd h rfl ?_ ?_ <;> intro _ h
 refine Wn (Ns (Cf (Pk (Nb (Nb (Nk (Ns (Pr rfl (Wm rfl ?_)))))))))
 refine Wb rfl (Wa rfl (Wn (Nb (Nb (Nl ?_)))))
 exact jm 0 (jm 1 (jm 5 (ih_r5_SameStrings_L1 _ _ h _ _ _)))
 refine Wn (Ns (Ct (Ps (Pr rfl (Wa rfl (Wn (Ns ?_)))))))
 cases h; exact Pq rfl rfl
 refine Wn (Ns (Cf (Px rfl (Nb (Nb (Xs (Xl (Xb (Nb ?_)))))))))
 refine Ns (Ps (Pr rfl (Wa rfl (Wn (Ns ?_)))))
 cases h; exact Pq rfl rfl
theorem r5_SameStrings_ok (a : List ByteArray) (b : List ByteArray) (r : Bool) (h : r5_SameStrings a b = some r) : callD C 125 [(.lst (a.map Dat.str)), (.lst (b.map Dat.str))] = some [(.bool r)] := by
 refine callD_at (ext0 _ _ rfl) fn125 rfl (jmp 0 (.d (.lst (a.map Dat.str))) rfl (jmp 1 (.d (.lst (b.map Dat.str))) rfl (Ps (Pr rfl (Wa rfl (Wn (Ns (Ps (Ps ?_)))))))))
 refine Pr rfl (Wm rfl (w_len_d elem91 rfl (Wm rfl (w_len_d elem91 rfl ?_))))
 refine Wd h rfl ?_ ?_ <;> intro _ h
 refine Wn (Ns (Cf (Pk (Nb (Nb (Ns (Ps (Ps (Pr rfl ?_)))))))))
 refine Wa rfl (Wn (Ns (Pb ?_)))
 exact jm 0 (jm 1 (jm 5 (r5_SameStrings_L1_ok _ _ _ _ h _ _ _)))
 refine Wn (Ns (Ct (Ps (Pr rfl (Wa rfl (Wn (Ns ?_)))))))
 cases h; exact Pq rfl rfl
def r5_SameStmts_L1_M (a : List StmtT) (b : List StmtT) (i : Int) (r : Bool) : Prop := ∀ (g : Nat → AV) (H : Hs) (n : Nat), PAt C (bodyOf Tryd.f32) (.a (.b (.a (.b (.b .o))))) ⟨upd (upd (upd g 0 (.d (.lst (a.map StmtT.enc)))) 1 (.d (.lst (b.map StmtT.enc)))) 5 (.d (.int .i64 i)), H, n⟩ (PostD C Tryd.f32 [(.bool r)])
theorem r5_SameStmts_L1_ok (a : List StmtT) (b : List StmtT) (i : Int) (r : Bool) (h : r5_SameStmts_L1 a b i = some r) : r5_SameStmts_L1_M a b i r := by
 refine r5_SameStmts_L1.partial_correctness a b (fun i r => r5_SameStmts_L1_M a b i r) (fun r5_SameStmts_L1 ih_r5_SameStmts_L1 i r h g H n => ?_) i r h
 refine Po (Ps (Ps (Pr rfl (Wm rfl (Wm rfl (w_len_d elem58 rfl ?_))))))
 refine Wc h rfl ?_ ?_ <;> intro _ h
 refine Wn (Ns (Ct (Pk (Nc (Nb (Ns (Ps (Pb (Ps ?_)))))))))
 refine p_calm rfl (by kernel_rfl) (Wm rfl (Wm rfl ?_))
 refine w_idx h rfl elem58 szg140 (fun _ => rfl) rfl rfl (fun t19 h => ?_)
 refine w_faddr_d rfl fo140_0 (by decide) rfl (w_load_d szg3 rfl rfl (Wm rfl (Wm rfl ?_)))
 refine w_idx h rfl elem58 szg140 (fun _ => rfl) rfl rfl (fun t24 h => ?_)
 refine w_faddr_d rfl fo140_0 (by decide) rfl (w_load_d szg3 rfl rfl ?_)
 refine Wd h rfl ?_ ?_ <;> intro _ h
 refine Wm rfl (Wm rfl (Wm rfl ?_))
 refine w_idx h rfl elem58 szg140 (fun _ => rfl) rfl rfl (fun t31 h => ?_)
 refine w_faddr_d rfl fo140_1 (by decide) rfl (w_load_d szg9 rfl rfl (Wm rfl (Wm rfl ?_)))
 refine w_idx h rfl elem58 szg140 (fun _ => rfl) rfl rfl (fun t36 h => ?_)
 refine w_faddr_d rfl fo140_1 (by decide) rfl (w_load_d szg9 rfl rfl ?_)
 refine Wd h rfl ?_ ?_ <;> intro _ h
 refine Wf rfl rfl (Wm rfl (Wm rfl (Wm rfl ?_)))
 refine w_idx h rfl elem58 szg140 (fun _ => rfl) rfl rfl (fun t44 h => ?_)
 refine w_faddr_d rfl fo140_2 (by decide) rfl (w_load_d szg3 rfl rfl (Wm rfl (Wm rfl ?_)))
 refine w_idx h rfl elem58 szg140 (fun _ => rfl) rfl rfl (fun t49 h => ?_)
 refine w_faddr_d rfl fo140_2 (by decide) rfl (w_load_d szg3 rfl rfl ?_)
 refine Wd h rfl ?_ ?_ <;> intro _ h
 refine Wf rfl rfl (Wm rfl (Wm rfl (Wm rfl ?_)))
 refine w_idx h rfl elem58 szg140 (fun _ => rfl) rfl rfl (fun t57 h => ?_)
 refine w_faddr_d rfl fo140_4 (by decide) rfl (w_load_d (d := (PosT.enc t57.At)) szg76 rfl rfl (Wm rfl (Wm rfl ?_)))
 refine w_idx h rfl elem58 szg140 (fun _ => rfl) rfl rfl (fun t62 h => ?_)
 refine w_faddr_d rfl fo140_4 (by decide) rfl (w_load_d (d := (PosT.enc t62.At)) szg76 rfl rfl ?_)
 refine w_split (b := (!(decide (t57.At.Line = t62.At.Line) && (decide (t57.At.Col = t62.At.Col) && true)))) h rfl (o_neqS isst76 eqs76 rfl rfl rfl) rfl (fun _ => ⟨rfl, rfl⟩) (fun _ h => ?_) (fun _ h => ?_)
 refine Wf rfl rfl (Wm rfl (Wk (Wk (Wk (Wk (Wk (Wk (Wk (Wk ?_)))))))))
 refine Wk (Wk (Wk (Wk (Wt rfl rfl (Wn (Ns (Ct (Ps (Pr rfl ?_)))))))))
 refine Wa rfl (Wn (Ns ?_))
 cases h; exact Pq rfl rfl
 refine Wf rfl rfl (Wm rfl (Wm rfl (Wm rfl ?_)))
 refine w_idx h rfl elem58 szg140 (fun _ => rfl) rfl rfl (fun t70 h => ?_)
 refine w_faddr_d rfl fo140_3 (by decide) rfl (w_load_d szg22 rfl rfl (Wm rfl (Wm rfl ?_)))
 refine w_idx h rfl elem58 szg140 (fun _ => rfl) rfl rfl (fun t75 h => ?_)
 refine w_faddr_d rfl fo140_3 (by decide) rfl (w_load_d szg22 rfl rfl ?_)
 refine w_scal (E := eB) h rfl sig26 (sc rfl (sc rfl (sn))) (fun y hy => r5_SameNodes_ok _ _ y hy) (fun _ => rfl) (fun t78 h => ?_)
 revert h; cases t78 <;> intro h
 replace h := if0 h
 refine w_un rfl rfl (Wf rfl rfl (Wn (Ns (Ct (Ps (Pr rfl (Wa rfl (Wn (Ns ?_)))))))))
 cases h; exact Pq rfl rfl
 replace h := if1 h
 refine w_un rfl rfl (Wf rfl rfl (Wn (Ns (Cf (Pk (Nb (Nb (Nk (Ns ?_)))))))))
 refine Pr rfl (Wm rfl (Wb rfl (Wa rfl (Wn (Nb (Nb (Nl ?_)))))))
 exact jm 0 (jm 1 (jm 5 (ih_r5_SameStmts_L1 _ _ h _ _ _)))
 refine Wf rfl rfl (Wm rfl (Wk (Wk (Wk (Wk (Wk (Wk (Wk (Wk ?_)))))))))
 refine Wk (Wk (Wk (Wt rfl rfl (Wm rfl (Wk (Wk (Wk (Wk (Wk ?_)))))))))
 refine Wk (Wk (Wk (Wk (Wk (Wk (Wk (Wt rfl rfl (Wn (Ns ?_)))))))))
 refine Ct (Ps (Pr rfl (Wa rfl (Wn (Ns ?_)))))
 cases h; exact Pq rfl rfl
 refine Wf rfl rfl (Wm rfl (Wk (Wk (Wk (Wk (Wk (Wk (Wk (Wk ?_)))))))))
 refine Wk (Wk (Wk (Wt rfl rfl (Wm rfl (Wk (Wk (Wk (Wk (Wk ?_)))))))))
 refine Wk (Wk (Wk (Wk (Wk (Wk (Wt rfl rfl (Wm rfl (Wk (Wk ?_)))))))))
 refine Wk (Wk (Wk (Wk (Wk (Wk (Wk (Wk (Wk (Wk ?_)))))))))
 refine Wt rfl rfl (Wn (Ns (Ct (Ps (Pr rfl (Wa rfl (Wn (Ns ?_))))))))
 cases h; exact Pq rfl rfl
 refine Wm rfl (Wk (Wk (Wk (Wk (Wk (Wk (Wk (Wk (Wk ?_)))))))))
 refine Wk (Wk (Wt rfl rfl (Wm rfl (Wk (Wk (Wk (Wk (Wk (Wk ?_)))))))))
 refine Wk (Wk (Wk (Wk (Wk (Wt rfl rfl (Wm rfl (Wk (Wk (Wk ?_)))))))))
 refine Wk (Wk (Wk (Wk (Wk (Wk (Wk (Wk (Wt rfl rfl (Wm rfl ?_)))))))))
 refine Wk (Wk (Wk (Wk (Wk (Wk (Wk (Wk (Wk (Wk ?_)))))))))
 refine Wk (Wk (Wt rfl rfl (Wn (Ns (Ct (Ps (Pr rfl (Wa rfl (Wn ?_)))))))))
 refine Ns ?_
 cases h; exact Pq rfl rfl
 refine Wn (Ns (Cf (Px rfl (Nb (Nb (Xs (Xl (Xb (Nb ?_)))))))))
 refine Ns (Ps (Pr rfl (Wa rfl (Wn (Ns ?_)))))
 cases h; exact Pq rfl rfl
theorem r5_SameStmts_ok (a : List StmtT) (b : List StmtT) (r : Bool) (h : r5_SameStmts a b = some r) : callD C 32 [(.lst (a.map StmtT.enc)), (.lst (b.map StmtT.enc))] = some [(.bool r)] := by
 refine callD_at (ext0 _ _ rfl) fn32 rfl (jmp 0 (.d (.lst (a.map StmtT.enc))) rfl (jmp 1 (.d (.lst (b.map StmtT.enc))) rfl (Ps (Pr rfl (Wa rfl (Wn (Ns (Ps (Ps ?_)))))))))
 refine Pr rfl (Wm rfl (w_len_d elem58 rfl (Wm rfl (w_len_d elem58 rfl ?_))))
 refine Wd h rfl ?_ ?_ <;> intro _ h
 refine Wn (Ns (Cf (Pk (Nb (Nb (Ns (Ps (Ps (Pr rfl ?_)))))))))
 refine Wa rfl (Wn (Ns (Pb ?_)))
 exact jm 0 (jm 1 (jm 5 (r5_SameStmts_L1_ok _ _ _ _ h _ _ _)))
 refine Wn (Ns (Ct (Ps (Pr rfl (Wa rfl (Wn (Ns ?_)))))))
 cases h; exact Pq rfl rfl
end Go.Proofs.YtdcpfmjnkcodiaaDoor.We
namespace Go.Proofs.YtdcpfmjnkcodiaaDoor.We
open Go Go.Jv
set_option maxHeartbeats 4000000
open Go.Proofs
set_option maxHeartbeats 4000000
def r5_sameStage_L1_M (a : TStageT) (b : TStageT) (i : Int) (r : Bool) : Prop := ∀ (b0 b1 g H n) (hH : HP H n [.box b0 (TStageT.av a), .box b1 (TStageT.av b)]), PAt C (bodyOf Tryd.f126) (.a (.b (.a (.b (.b .o))))) ⟨upd (upd (upd g 2 (.pt b0 0)) 3 (.pt b1 0)) 5 (.d (.int .i64 i)), H, n⟩ (PostD C Tryd.f126 [(.bool r)])
theorem r5_sameStage_L1_ok (a : TStageT) (b : TStageT) (i : Int) (r : Bool) (h : r5_sameStage_L1 a b i = some r) : r5_sameStage_L1_M a b i r := by
 refine r5_sameStage_L1.partial_correctness a b (fun i r => r5_sameStage_L1_M a b i r) (fun r5_sameStage_L1 ih_r5_sameStage_L1 i r h b0 b1 g H n hH => ?_) i r h
 refine Po (Ps (Ps (Pr rfl (Wm rfl (Fb fo196_6 (by decide) rfl 6 rfl (Lb szg194 hH (i := 0) rfl rfl rfl (w_len_d elem194 rfl ?_)))))))
 refine Wc h rfl ?_ ?_ <;> intro _ h
 refine Wn (Ns (Ct (Pk (Nc (Nb (Ns (Ps (Pb (Ps ?_)))))))))
 refine p_calm rfl (by kernel_rfl) (Fb fo196_6 (by decide) rfl 6 rfl (Lb szg194 hH (i := 0) rfl rfl rfl (Wm rfl ?_)))
 refine w_idx h rfl elem194 szg198 (fun _ => rfl) rfl rfl (fun t44 h => ?_)
 refine w_faddr_d rfl fo198_0 (by decide) rfl (w_load_d szg3 rfl rfl (Fb fo196_6 (by decide) rfl 6 rfl (Lb szg194 hH (i := 1) rfl rfl rfl (Wm rfl ?_))))
 refine w_idx h rfl elem194 szg198 (fun _ => rfl) rfl rfl (fun t50 h => ?_)
 refine w_faddr_d rfl fo198_0 (by decide) rfl (w_load_d szg3 rfl rfl ?_)
 refine Wd h rfl ?_ ?_ <;> intro _ h
 refine Wm rfl (Fb fo196_6 (by decide) rfl 6 rfl (Lb szg194 hH (i := 0) rfl rfl rfl (Wm rfl ?_)))
 refine w_idx h rfl elem194 szg198 (fun _ => rfl) rfl rfl (fun t58 h => ?_)
 refine w_faddr_d rfl fo198_1 (by decide) rfl (w_load_d szg22 rfl rfl (Fb fo196_6 (by decide) rfl 6 rfl (Lb szg194 hH (i := 1) rfl rfl rfl (Wm rfl ?_))))
 refine w_idx h rfl elem194 szg198 (fun _ => rfl) rfl rfl (fun t64 h => ?_)
 refine w_faddr_d rfl fo198_1 (by decide) rfl (w_load_d szg22 rfl rfl ?_)
 refine w_scal (E := eB) h rfl sig26 (sc rfl (sc rfl (sn))) (fun y hy => r5_SameNodes_ok _ _ y hy) (fun _ => rfl) (fun t67 h => ?_)
 revert h; cases t67 <;> intro h
 replace h := if0 h
 refine w_un rfl rfl (Wf rfl rfl (Wn (Ns (Ct (Ps (Pr rfl (Wa rfl (Wn (Ns ?_)))))))))
 cases h; exact Pq rfl rfl
 replace h := if1 h
 refine w_un rfl rfl (Wf rfl rfl (Wn (Ns (Cf (Pk (Nb (Nb (Nk (Ns ?_)))))))))
 refine Pr rfl (Wm rfl (Wb rfl (Wa rfl (Wn (Nb (Nb (Nl ?_)))))))
 exact jm 2 (jm 3 (jm 5 (ih_r5_sameStage_L1 _ _ h b0 b1 _ _ _ hH)))
 refine Wm rfl (Wk (Wk (Wk (Wk (Wk (Wk (Wk (Wk (Wk ?_)))))))))
 refine Wk (Wk (Wk (Wk (Wk (Wt rfl rfl (Wn (Ns (Ct (Ps ?_)))))))))
 refine Pr rfl (Wa rfl (Wn (Ns ?_)))
 cases h; exact Pq rfl rfl
 refine Wn (Ns (Cf (Px rfl (Nb (Nb (Xs (Xl (Xb (Nb ?_)))))))))
 refine Ns (Ps (Pr rfl (Fb fo196_3 (by decide) rfl 3 rfl (Lb szg58 hH (i := 0) rfl rfl rfl (Fb fo196_3 (by decide) rfl 3 rfl (Lb szg58 hH (i := 1) rfl rfl rfl ?_))))))
 refine w_scal (E := eB) h rfl sig32 (sc rfl (sc rfl (sn))) (fun y hy => r5_SameStmts_ok _ _ y hy) (fun _ => rfl) (fun t74 h => ?_)
 revert h; cases t74 <;> intro h
 replace h := if0 h
 refine Wm rfl (Wk (Wk (Wk (Wk (Wk (Wf rfl rfl (Wm rfl (Wk (Wk ?_)))))))))
 refine Wk (Wk (Wk (Wf rfl rfl (Wa rfl (Wn (Ns ?_))))))
 cases h; exact Pq rfl rfl
 replace h := if1 h
 refine Wm rfl (Fb fo196_4 (by decide) rfl 4 rfl (Lb szg58 hH (i := 0) rfl rfl rfl (Fb fo196_4 (by decide) rfl 4 rfl (Lb szg58 hH (i := 1) rfl rfl rfl ?_))))
 refine w_scal (E := eB) h rfl sig32 (sc rfl (sc rfl (sn))) (fun y hy => r5_SameStmts_ok _ _ y hy) (fun _ => rfl) (fun t80 h => ?_)
 revert h; cases t80 <;> intro h
 replace h := if0 h
 refine Wt rfl rfl (Wm rfl (Wk (Wk (Wk (Wk (Wk (Wf rfl rfl (Wa rfl (Wn ?_)))))))))
 refine Ns ?_
 cases h; exact Pq rfl rfl
 replace h := if1 h
 refine Wt rfl rfl (Wm rfl (Fb fo196_5 (by decide) rfl 5 rfl (Lb szg58 hH (i := 0) rfl rfl rfl (Fb fo196_5 (by decide) rfl 5 rfl (Lb szg58 hH (i := 1) rfl rfl rfl ?_)))))
 refine w_scal (E := eB) h rfl sig32 (sc rfl (sc rfl (sn))) (fun y hy => r5_SameStmts_ok _ _ y hy) (fun _ => rfl) (fun t87 h => ?_)
 refine Wt rfl rfl (Wa rfl (Wn (Ns ?_)))
 cases h; exact Pq rfl rfl
theorem r5_sameStage_ok (a : TStageT) (b : TStageT) (r : Bool) (h : r5_sameStage a b = some r) : callD C 126 [(TStageT.enc a), (TStageT.enc b)] = some [(.bool r)] := by
 refine callD_at (ext0 _ _ rfl) fn126 rfl (jmp 0 (.d (TStageT.enc a)) rfl (jmp 1 (.d (TStageT.enc b)) rfl (Ps (Pr rfl ?_))))
 refine w_box (cs := (TStageT.av a)) rfl szg196 rfl rfl rfl (HP.nil _ _) (fun b7941 H' n' hH => ?_)
 refine w_box (cs := (TStageT.av b)) rfl szg196 rfl rfl rfl hH (fun b7942 H' n' hH => ?_)
 refine Wa rfl (Wn (Ns (Ps (Ps (Pr rfl (Fb fo196_0 (by decide) rfl 0 rfl (Lb szg9 hH (i := 1) rfl rfl rfl (Fb fo196_0 (by decide) rfl 0 rfl (Lb szg9 hH (i := 0) rfl rfl rfl ?_)))))))))
 refine Wd h rfl ?_ ?_ <;> intro _ h
 refine Wm rfl (Fb fo196_1 (by decide) rfl 1 rfl (Lb szg3 hH (i := 1) rfl rfl rfl (Fb fo196_1 (by decide) rfl 1 rfl (Lb szg3 hH (i := 0) rfl rfl rfl ?_))))
 refine Wd h rfl ?_ ?_ <;> intro _ h
 refine Wf rfl rfl (Wm rfl (Fb fo196_2 (by decide) rfl 2 rfl (Lb szg138 hH (i := 1) rfl rfl rfl (Fb fo196_2 (by decide) rfl 2 rfl (Lb szg138 hH (i := 0) rfl rfl rfl ?_)))))
 refine Wd h rfl ?_ ?_ <;> intro _ h
 refine Wf rfl rfl (Wm rfl (Fb fo196_6 (by decide) rfl 6 rfl (Lb szg194 hH (i := 1) rfl rfl rfl (w_len_d elem194 rfl (Fb fo196_6 (by decide) rfl 6 rfl (Lb szg194 hH (i := 0) rfl rfl rfl (w_len_d elem194 rfl ?_)))))))
 refine Wd h rfl ?_ ?_ <;> intro _ h
 refine Wf rfl rfl (Wn (Ns (Cf (Pk (Nb (Nb (Ns (Ps (Ps ?_)))))))))
 refine Pr rfl (Wa rfl (Wn (Ns (Pb ?_))))
 exact jm 2 (jm 3 (jm 5 (r5_sameStage_L1_ok _ _ _ _ h b7941 b7942 _ _ _ (hH.selG 2 [1, 0] (by decide) (by decide) (gc rfl (gc rfl (gt rfl)))))))
 refine Wf rfl rfl (Wn (Ns (Ct (Ps (Pr rfl (Wa rfl (Wn (Ns ?_))))))))
 cases h; exact Pq rfl rfl
 refine Wf rfl rfl (Wm rfl (Wk (Wk (Wk (Wk (Wk (Wk (Wk (Wt rfl rfl ?_)))))))))
 refine Wn (Ns (Ct (Ps (Pr rfl (Wa rfl (Wn (Ns ?_)))))))
 cases h; exact Pq rfl rfl
 refine Wf rfl rfl (Wm rfl (Wk (Wk (Wk (Wk (Wk (Wt rfl rfl (Wm rfl (Wk ?_)))))))))
 refine Wk (Wk (Wk (Wk (Wk (Wk (Wt rfl rfl (Wn (Ns (Ct ?_)))))))))
 refine Ps (Pr rfl (Wa rfl (Wn (Ns ?_))))
 cases h; exact Pq rfl rfl
 refine Wm rfl (Wk (Wk (Wk (Wk (Wk (Wt rfl rfl (Wm rfl (Wk (Wk ?_)))))))))
 refine Wk (Wk (Wk (Wt rfl rfl (Wm rfl (Wk (Wk (Wk (Wk (Wk ?_)))))))))
 refine Wk (Wk (Wt rfl rfl (Wn (Ns (Ct (Ps (Pr rfl (Wa rfl (Wn ?_)))))))))
 refine Ns ?_
 cases h; exact Pq rfl rfl
def r5_SameTyped_L3_M (a : TypedT) (b : TypedT) (i : Int) (r : Bool) : Prop := ∀ (b0 b1 g H n) (hH : HP H n [.box b0 (TypedT.av a), .box b1 (TypedT.av b)]), PAt C (bodyOf Tryd.f53) (.a (.b (.a (.b (.b (.b (.b (.b .o)))))))) ⟨upd (upd (upd g 2 (.pt b0 0)) 3 (.pt b1 0)) 7 (.d (.int .i64 i)), H, n⟩ (PostD C Tryd.f53 [(.bool r)])
theorem r5_SameTyped_L3_ok (a : TypedT) (b : TypedT) (i : Int) (r : Bool) (h : r5_SameTyped_L3 a b i = some r) : r5_SameTyped_L3_M a b i r := by
 refine r5_SameTyped_L3.partial_correctness a b (fun i r => r5_SameTyped_L3_M a b i r) (fun r5_SameTyped_L3 ih_r5_SameTyped_L3 i r h b0 b1 g H n hH => ?_) i r h
 refine Po (Ps (Ps (Pr rfl (Wm rfl (Fb fo95_6 (by decide) rfl 7 rfl (Lb szg93 hH (i := 0) rfl rfl rfl (w_len_d elem93 rfl ?_)))))))
 refine Wc h rfl ?_ ?_ <;> intro _ h
 refine Wn (Ns (Ct (Pk (Nc (Nb (Ns (Ps (Pb (Ps ?_)))))))))
 refine p_calm rfl (by kernel_rfl) (Fb fo95_6 (by decide) rfl 7 rfl (Lb szg93 hH (i := 0) rfl rfl rfl (Wm rfl ?_)))
 refine w_idx h rfl elem93 szg196 (fun _ => rfl) rfl rfl (fun t115 h => ?_)
 refine w_load_d (d := (TStageT.enc t115)) szg196 rfl rfl (Fb fo95_6 (by decide) rfl 7 rfl (Lb szg93 hH (i := 1) rfl rfl rfl (Wm rfl ?_)))
 refine w_idx h rfl elem93 szg196 (fun _ => rfl) rfl rfl (fun t120 h => ?_)
 refine w_load_d (d := (TStageT.enc t120)) szg196 rfl rfl ?_
 refine w_scal (E := eB) h rfl sig126 (sc rfl (sc rfl (sn))) (fun y hy => r5_sameStage_ok _ _ y hy) (fun _ => rfl) (fun t122 h => ?_)
 revert h; cases t122 <;> intro h
 replace h := if0 h
 refine w_un rfl rfl (Wn (Ns (Ct (Ps (Pr rfl (Wa rfl (Wn (Ns ?_))))))))
 cases h; exact Pq rfl rfl
 replace h := if1 h
 refine w_un rfl rfl (Wn (Ns (Cf (Pk (Nb (Nb (Nk (Ns (Pr rfl ?_)))))))))
 refine Wm rfl (Wb rfl (Wa rfl (Wn (Nb (Nb (Nl ?_))))))
 exact jm 2 (jm 3 (jm 7 (ih_r5_SameTyped_L3 _ _ h b0 b1 _ _ _ hH)))
 refine Wn (Ns (Cf (Px rfl (Nb (Nb (Xs (Xl (Xb (Nb ?_)))))))))
 refine Ns (Ps (Pr rfl (Wa rfl (Wn (Ns ?_)))))
 cases h; exact Pq rfl rfl
def r5_SameTyped_L2_M (a : TypedT) (b : TypedT) (i : Int) (r : Bool) : Prop := ∀ (b0 b1 g H n) (hH : HP H n [.box b0 (TypedT.av a), .box b1 (TypedT.av b)]), PAt C (bodyOf Tryd.f53) (.a (.b (.a (.b (.b (.b (.b .o))))))) ⟨upd (upd (upd g 2 (.pt b0 0)) 3 (.pt b1 0)) 6 (.d (.int .i64 i)), H, n⟩ (PostD C Tryd.f53 [(.bool r)])
theorem r5_SameTyped_L2_ok (a : TypedT) (b : TypedT) (i : Int) (r : Bool) (h : r5_SameTyped_L2 a b i = some r) : r5_SameTyped_L2_M a b i r := by
 refine r5_SameTyped_L2.partial_correctness a b (fun i r => r5_SameTyped_L2_M a b i r) (fun r5_SameTyped_L2 ih_r5_SameTyped_L2 i r h b0 b1 g H n hH => ?_) i r h
 refine Po (Ps (Ps (Pr rfl (Wm rfl (Fb fo95_5 (by decide) rfl 6 rfl (Lb szg92 hH (i := 0) rfl rfl rfl (w_len_d elem92 rfl ?_)))))))
 refine Wc h rfl ?_ ?_ <;> intro _ h
 refine Wn (Ns (Ct (Pk (Nc (Nb (Ns (Ps (Pb (Ps ?_)))))))))
 refine p_calm rfl (by kernel_rfl) (Fb fo95_5 (by decide) rfl 6 rfl (Lb szg92 hH (i := 0) rfl rfl rfl (Wm rfl ?_)))
 refine w_idx h rfl elem92 szg193 (fun _ => rfl) rfl rfl (fun t97 h => ?_)
 refine w_load_d (d := (VarT.enc t97)) szg193 rfl rfl (Fb fo95_5 (by decide) rfl 6 rfl (Lb szg92 hH (i := 1) rfl rfl rfl (Wm rfl ?_)))
 refine w_idx h rfl elem92 szg193 (fun _ => rfl) rfl rfl (fun t102 h => ?_)
 refine w_load_d (d := (VarT.enc t102)) szg193 rfl rfl ?_
 refine w_split (b := (!(decide (t97.Name = t102.Name) && (decide (t97.Init = t102.Init) && true)))) h rfl (o_neqS isst193 eqs193 rfl rfl rfl) rfl (fun _ => ⟨rfl, rfl⟩) (fun _ h => ?_) (fun _ h => ?_)
 refine Wn (Ns (Ct (Ps (Pr rfl (Wa rfl (Wn (Ns ?_)))))))
 cases h; exact Pq rfl rfl
 refine Wn (Ns (Cf (Pk (Nb (Nb (Nk (Ns (Pr rfl (Wm rfl ?_)))))))))
 refine Wb rfl (Wa rfl (Wn (Nb (Nb (Nl ?_)))))
 exact jm 2 (jm 3 (jm 6 (ih_r5_SameTyped_L2 _ _ h b0 b1 _ _ _ hH)))
 refine Wn (Ns (Cf (Px rfl (Nb (Nb (Xs (Xl (Xb (Nb ?_)))))))))
 refine Ns (Ps (Ps (Pr rfl (Wa rfl (Wn (Ns (Pb ?_)))))))
 exact jm 2 (jm 3 (jm 7 (r5_SameTyped_L3_ok _ _ _ _ h b0 b1 _ _ _ hH)))
def r5_SameTyped_L1_M (a : TypedT) (b : TypedT) (i : Int) (r : Bool) : Prop := ∀ (b0 b1 g H n) (hH : HP H n [.box b0 (TypedT.av a), .box b1 (TypedT.av b)]), PAt C (bodyOf Tryd.f53) (.a (.b (.a (.b (.b (.b .o)))))) ⟨upd (upd (upd g 2 (.pt b0 0)) 3 (.pt b1 0)) 5 (.d (.int .i64 i)), H, n⟩ (PostD C Tryd.f53 [(.bool r)])
theorem r5_SameTyped_L1_ok (a : TypedT) (b : TypedT) (i : Int) (r : Bool) (h : r5_SameTyped_L1 a b i = some r) : r5_SameTyped_L1_M a b i r := by
 refine r5_SameTyped_L1.partial_correctness a b (fun i r => r5_SameTyped_L1_M a b i r) (fun r5_SameTyped_L1 ih_r5_SameTyped_L1 i r h b0 b1 g H n hH => ?_) i r h
 refine Po (Ps (Ps (Pr rfl (Wm rfl (Fb fo95_2 (by decide) rfl 3 rfl (Lb szg90 hH (i := 0) rfl rfl rfl (w_len_d elem90 rfl ?_)))))))
 refine Wc h rfl ?_ ?_ <;> intro _ h
 refine Wn (Ns (Ct (Pk (Nc (Nb (Ns (Ps (Pb (Ps ?_)))))))))
 refine p_calm rfl (by kernel_rfl) (Fb fo95_2 (by decide) rfl 3 rfl (Lb szg90 hH (i := 0) rfl rfl rfl (Wm rfl ?_)))
 refine w_idx h rfl elem90 szg207 (fun _ => rfl) rfl rfl (fun t79 h => ?_)
 refine w_load_d (d := (DetT.enc t79)) szg207 rfl rfl (Fb fo95_2 (by decide) rfl 3 rfl (Lb szg90 hH (i := 1) rfl rfl rfl (Wm rfl ?_)))
 refine w_idx h rfl elem90 szg207 (fun _ => rfl) rfl rfl (fun t84 h => ?_)
 refine w_load_d (d := (DetT.enc t84)) szg207 rfl rfl ?_
 refine w_split (b := (!(decide (t79.Name = t84.Name) && (decide (t79.Latch = t84.Latch) && (decide (t79.Delay = t84.Delay) && (decide (t79.Hold = t84.Hold) && true)))))) h rfl (o_neqS isst207 eqs207 rfl rfl rfl) rfl (fun _ => ⟨rfl, rfl⟩) (fun _ h => ?_) (fun _ h => ?_)
 refine Wn (Ns (Ct (Ps (Pr rfl (Wa rfl (Wn (Ns ?_)))))))
 cases h; exact Pq rfl rfl
 refine Wn (Ns (Cf (Pk (Nb (Nb (Nk (Ns (Pr rfl (Wm rfl ?_)))))))))
 refine Wb rfl (Wa rfl (Wn (Nb (Nb (Nl ?_)))))
 exact jm 2 (jm 3 (jm 5 (ih_r5_SameTyped_L1 _ _ h b0 b1 _ _ _ hH)))
 refine Wn (Ns (Cf (Px rfl (Nb (Nb (Xs (Xl (Xb (Nb ?_)))))))))
 refine Ns (Ps (Ps (Pr rfl (Wa rfl (Wn (Ns (Pb ?_)))))))
 exact jm 2 (jm 3 (jm 6 (r5_SameTyped_L2_ok _ _ _ _ h b0 b1 _ _ _ hH)))
theorem r5_SameTyped_ok (a : TypedT) (b : TypedT) (r : Bool) (h : r5_SameTyped a b = some r) : callD C 53 [(TypedT.enc a), (TypedT.enc b)] = some [(.bool r)] := by
 refine callD_at (ext0 _ _ rfl) fn53 rfl (jmp 0 (.d (TypedT.enc a)) rfl (jmp 1 (.d (TypedT.enc b)) rfl (Ps (Pr rfl ?_))))
 refine w_box (cs := (TypedT.av a)) rfl szg95 rfl rfl rfl (HP.nil _ _) (fun b7949 H' n' hH => ?_)
 refine w_box (cs := (TypedT.av b)) rfl szg95 rfl rfl rfl hH (fun b7950 H' n' hH => ?_)
 refine Wa rfl (Wn (Ns (Ps (Ps (Pr rfl (Fb fo95_0 (by decide) rfl 0 rfl (Lb szg9 hH (i := 1) rfl rfl rfl (Fb fo95_0 (by decide) rfl 0 rfl (Lb szg9 hH (i := 0) rfl rfl rfl ?_)))))))))
 refine Wd h rfl ?_ ?_ <;> intro _ h
 refine Wm rfl (Fb fo95_7 (by decide) rfl 8 rfl (Lb szg3 hH (i := 1) rfl rfl rfl (Fb fo95_7 (by decide) rfl 8 rfl (Lb szg3 hH (i := 0) rfl rfl rfl ?_))))
 refine Wd h rfl ?_ ?_ <;> intro _ h
 refine Wf rfl rfl (Wm rfl (Fb fo95_1 (by decide) rfl 1 rfl (w_load_b (v := .agg (TablesT.av a.Tables)) rfl szg89 hH (i := 1) rfl rfl rfl (Fb fo95_1 (by decide) rfl 1 rfl (w_load_b (v := .agg (TablesT.av b.Tables)) rfl szg89 hH (i := 0) rfl rfl rfl ?_)))))
 refine w_scal (E := eB) h rfl sig124 (sc rfl (sc rfl (sn))) (fun y hy => r5_SameTables_ok _ _ y hy) (fun _ => rfl) (fun t25 h => ?_)
 revert h; cases t25 <;> intro h
 replace h := if0 h
 refine w_un rfl rfl (Wf rfl rfl (Wm rfl (Wk (Wk (Wk (Wk (Wk (Wk (Wt rfl rfl ?_)))))))))
 refine Wm rfl (Wk (Wk (Wk (Wk (Wk (Wk (Wt rfl rfl (Wn (Ns ?_)))))))))
 refine Ct (Ps (Pr rfl (Wa rfl (Wn (Ns ?_)))))
 cases h; exact Pq rfl rfl
 replace h := if1 h
 refine w_un rfl rfl (Wf rfl rfl (Wm rfl (Fb fo95_3 (by decide) rfl 4 rfl (Lb szg91 hH (i := 1) rfl rfl rfl (Fb fo95_3 (by decide) rfl 4 rfl (Lb szg91 hH (i := 0) rfl rfl rfl ?_))))))
 refine w_scal (E := eB) h rfl sig125 (sc rfl (sc rfl (sn))) (fun y hy => r5_SameStrings_ok _ _ y hy) (fun _ => rfl) (fun t33 h => ?_)
 revert h; cases t33 <;> intro h
 replace h := if0 h
 refine w_un rfl rfl (Wf rfl rfl (Wm rfl (Wk (Wk (Wk (Wk (Wk (Wk (Wt rfl rfl ?_)))))))))
 refine Wn (Ns (Ct (Ps (Pr rfl (Wa rfl (Wn (Ns ?_)))))))
 cases h; exact Pq rfl rfl
 replace h := if1 h
 refine w_un rfl rfl (Wf rfl rfl (Wm rfl (Fb fo95_4 (by decide) rfl 5 rfl (Lb szg91 hH (i := 1) rfl rfl rfl (Fb fo95_4 (by decide) rfl 5 rfl (Lb szg91 hH (i := 0) rfl rfl rfl ?_))))))
 refine w_scal (E := eB) h rfl sig125 (sc rfl (sc rfl (sn))) (fun y hy => r5_SameStrings_ok _ _ y hy) (fun _ => rfl) (fun t41 h => ?_)
 revert h; cases t41 <;> intro h
 replace h := if0 h
 refine w_un rfl rfl (Wf rfl rfl (Wn (Ns (Ct (Ps (Pr rfl (Wa rfl (Wn (Ns ?_)))))))))
 cases h; exact Pq rfl rfl
 replace h := if1 h
 refine w_un rfl rfl (Wf rfl rfl (Wn (Ns (Cf (Pk (Nb (Nb (Ns (Ps ?_)))))))))
 refine Ps (Pr rfl (Fb fo95_2 (by decide) rfl 3 rfl (Lb szg90 hH (i := 1) rfl rfl rfl (w_len_d elem90 rfl (Fb fo95_2 (by decide) rfl 3 rfl (Lb szg90 hH (i := 0) rfl rfl rfl (w_len_d elem90 rfl ?_)))))))
 refine Wd h rfl ?_ ?_ <;> intro _ h
 refine Wm rfl (Fb fo95_5 (by decide) rfl 6 rfl (Lb szg92 hH (i := 1) rfl rfl rfl (w_len_d elem92 rfl (Fb fo95_5 (by decide) rfl 6 rfl (Lb szg92 hH (i := 0) rfl rfl rfl (w_len_d elem92 rfl ?_))))))
 refine Wd h rfl ?_ ?_ <;> intro _ h
 refine Wf rfl rfl (Wm rfl (Fb fo95_6 (by decide) rfl 7 rfl (Lb szg93 hH (i := 1) rfl rfl rfl (w_len_d elem93 rfl (Fb fo95_6 (by decide) rfl 7 rfl (Lb szg93 hH (i := 0) rfl rfl rfl (w_len_d elem93 rfl ?_)))))))
 refine Wd h rfl ?_ ?_ <;> intro _ h
 refine Wf rfl rfl (Wn (Ns (Cf (Pk (Nb (Nb (Ns (Ps (Ps ?_)))))))))
 refine Pr rfl (Wa rfl (Wn (Ns (Pb ?_))))
 exact jm 2 (jm 3 (jm 5 (r5_SameTyped_L1_ok _ _ _ _ h b7949 b7950 _ _ _ (hH.selG 2 [1, 0] (by decide) (by decide) (gc rfl (gc rfl (gt rfl)))))))
 refine Wf rfl rfl (Wn (Ns (Ct (Ps (Pr rfl (Wa rfl (Wn (Ns ?_))))))))
 cases h; exact Pq rfl rfl
 refine Wf rfl rfl (Wm rfl (Wk (Wk (Wk (Wk (Wk (Wk (Wk (Wt rfl rfl ?_)))))))))
 refine Wn (Ns (Ct (Ps (Pr rfl (Wa rfl (Wn (Ns ?_)))))))
 cases h; exact Pq rfl rfl
 refine Wm rfl (Wk (Wk (Wk (Wk (Wk (Wk (Wk (Wt rfl rfl (Wm rfl ?_)))))))))
 refine Wk (Wk (Wk (Wk (Wk (Wk (Wk (Wt rfl rfl (Wn (Ns ?_)))))))))
 refine Ct (Ps (Pr rfl (Wa rfl (Wn (Ns ?_)))))
 cases h; exact Pq rfl rfl
 refine Wf rfl rfl (Wm rfl (Wk (Wk (Wk (Wk (Wk (Wk (Wt rfl rfl (Wm rfl ?_)))))))))
 refine Wk (Wk (Wk (Wk (Wk (Wk (Wt rfl rfl (Wm rfl (Wk (Wk ?_)))))))))
 refine Wk (Wk (Wk (Wk (Wt rfl rfl (Wn (Ns (Ct (Ps (Pr rfl ?_)))))))))
 refine Wa rfl (Wn (Ns ?_))
 cases h; exact Pq rfl rfl
 refine Wm rfl (Wk (Wk (Wk (Wk (Wk (Wt rfl rfl (Wm rfl (Wk (Wk ?_)))))))))
 refine Wk (Wk (Wk (Wk (Wt rfl rfl (Wm rfl (Wk (Wk (Wk (Wk ?_)))))))))
 refine Wk (Wk (Wt rfl rfl (Wm rfl (Wk (Wk (Wk (Wk (Wk (Wk ?_)))))))))
 refine Wt rfl rfl (Wn (Ns (Ct (Ps (Pr rfl (Wa rfl (Wn (Ns ?_))))))))
 cases h; exact Pq rfl rfl
theorem l5_CheckSounds_ok (t : TypedT) (e : List NodeT) (typ : Int) (r : Bool) (h : l5_CheckSounds t e typ = some r) : callD C 9 [(TypedT.enc t), (.lst (e.map NodeT.enc)), (.int .i64 typ)] = some [(.bool r)] := by
 refine callD_at (ext0 _ _ rfl) fn9 rfl (jmp 0 (.d (TypedT.enc t)) rfl (jmp 1 (.d (.lst (e.map NodeT.enc))) rfl (jmp 2 (.d (.int .i64 typ)) rfl (Ps (Pr rfl ?_)))))
 refine w_box (cs := (TypedT.av t)) rfl szg95 rfl rfl rfl (HP.nil _ _) (fun b7951 H' n' hH => ?_)
 refine Wa rfl (Wn (Ns (Ps (Pr rfl (w_build (cs := [.nil, .nil, .nil, .nil, .nil, .nil, .nil, .nil, .nil, .nil, .nil, .nil, .nil, .nil, .nil, .nil, .nil]) rfl zero49 places49 rfl ?_)))))
 refine w_box (cs := [.nil, .nil, .nil, .nil, .nil, .nil, .nil, .nil, .nil, .nil, .nil, .nil, .nil, .nil, .nil, .nil, .nil]) rfl szg49 rfl rfl rfl hH (fun b7952 H' n' hH => ?_)
 refine w_assign_v (.pt b7952 0) rfl rfl (Wn (Ns (Ps (Pr rfl (w_move_v (.pt b7952 0) rfl rfl (w_load_b (v := .agg (TypedT.av t)) rfl szg95 hH (i := 1) rfl rfl rfl ?_))))))
 refine w_raw [.pt b7952 0, .agg (TypedT.av t)] h rfl rfl sig46 rfl (fun y hy => r5_Room_Typed_ok _ y hy b7952 _ _ ([.box b7951 (TypedT.av t)]) hH) (fun t14 rs H' n' h hP => ?_)
 obtain ⟨w6953_0, w6953_1, w6953_2, w6953_3, w6953_4, w6953_5, w6953_6, w6953_8, w6953_9, w6953_10, w6953_11, w6953_12, w6953_13, w6953_14, w6953_15, w6953_16, rfl, hH⟩ := hP
 refine alloc_z rfl zero95 hH (fun b7954 H' n' hH => ?_)
 refine w_store_b (new := [.d (.str t14.1), w6953_0, w6953_1, w6953_2, w6953_3, w6953_4, w6953_5, w6953_6, .d (.int .i64 t14.2.2.2.2.2.2.2.2.1)]) rfl szg95 hH (i := 0) rfl rfl rfl rfl (by simp only [List.all_cons, List.all_nil, (hH.okImm (j := 1) rfl).1, (hH.okImm (j := 2) rfl).1, (hH.okImm (j := 3) rfl).1, (hH.okImm (j := 4) rfl).1, (hH.okImm (j := 5) rfl).1, (hH.okImm (j := 6) rfl).1, (hH.okImm (j := 7) rfl).1]; rfl) (Nat.le_of_ble_eq_true rfl) (fun H' hH => ?_)
 refine Wn (Ns (Ps (Pr rfl (w_move_v (.pt b7952 0) rfl rfl (Wm rfl ?_)))))
 refine w_raw [.pt b7952 0, .d (.lst (e.map NodeT.enc))] h rfl rfl sig19 rfl (fun y hy => r5_Room_Nodes_ok _ _ _ _ _ _ _ _ _ _ y hy b7952 w6953_8 w6953_9 w6953_10 w6953_11 w6953_12 w6953_13 w6953_14 w6953_15 w6953_16 _ _ ([.box b7954 [.d (.str t14.1), w6953_0, w6953_1, w6953_2, w6953_3, w6953_4, w6953_5, w6953_6, .d (.int .i64 t14.2.2.2.2.2.2.2.2.1)], .imm w6953_0 ⟨200, 5⟩ (t14.2.1.map GroupT.enc), .imm w6953_1 ⟨203, 4⟩ (t14.2.2.1.map ConflictT.enc), .imm w6953_2 ⟨207, 4⟩ (t14.2.2.2.1.map DetT.enc), .imm w6953_3 ⟨9, 1⟩ (t14.2.2.2.2.1.map Dat.str), .imm w6953_4 ⟨9, 1⟩ (t14.2.2.2.2.2.1.map Dat.str), .imm w6953_5 ⟨193, 2⟩ (t14.2.2.2.2.2.2.1.map VarT.enc), .imm w6953_6 ⟨196, 7⟩ (t14.2.2.2.2.2.2.2.1.map TStageT.enc), .box b7951 (TypedT.av t)]) (hH.selG 19 [8, 9, 10, 11, 12, 13, 14, 15, 16, 17, 0, 1, 2, 3, 4, 5, 6, 7, 18] (by decide) (by decide) (gc rfl (gc rfl (gc rfl (gc rfl (gc rfl (gc rfl (gc rfl (gc rfl (gc rfl (gc rfl (gc rfl (gc rfl (gc rfl (gc rfl (gc rfl (gc rfl (gc rfl (gc rfl (gc rfl (gt rfl)))))))))))))))))))))) (fun t17 rs H' n' h hP => ?_)
 obtain ⟨w6955_0, w6955_2, w6955_3, w6955_4, w6955_5, w6955_6, w6955_7, w6955_8, w6955_9, w6955_10, rfl, hH⟩ := hP
 refine w_assign_v (w6955_0) rfl rfl (Wn (Ns (Ps (Ps (p_calm rfl (by kernel_rfl) (Fb fo95_1 (by decide) rfl 1 rfl (w_load_b (v := .agg [w6953_0, w6953_1]) rfl szg89 hH (i := 11) rfl rfl rfl ?_)))))))
 refine w_scal (E := eB) h rfl sig47 (sc (so_agg (sc (so_imm 2 hH (j := 12) rfl) (sc (so_imm 2 hH (j := 13) rfl) (sn)))) (sn)) (fun y hy => c_Grid_ok _ y hy) (fun _ => rfl) (fun t20 h => ?_)
 refine Fb fo95_1 (by decide) rfl 1 rfl (w_load_b (v := .agg (TablesT.av t.Tables)) rfl szg89 hH (i := 19) rfl rfl rfl ?_)
 refine w_scal (E := eB) h rfl sig48 (sc rfl (sn)) (fun y hy => r5_Grid_ok _ y hy) (fun _ => rfl) (fun t23 h => ?_)
 refine w_split (b := (!(decide (t20 = t23)))) h rfl (o_neqB ty4 rfl rfl) rfl (fun _ => ⟨rfl, rfl⟩) (fun _ h => ?_) (fun _ h => ?_)
 refine Wm rfl (Wk (Wk (Wk (Wk (Wk (Wt rfl rfl (Wm rfl (Wk (Wk ?_)))))))))
 refine Wk (Wk (Wk (Wk (Wk (Wk (Wk (Wt rfl rfl (Wn (Ns ?_)))))))))
 refine Ct (Ps (Pr rfl (Wa rfl (Wn (Ns ?_)))))
 cases h; exact Pq rfl rfl
 refine Wm rfl (w_load_b (v := .agg [.d (.str t14.1), w6953_0, w6953_1, w6953_2, w6953_3, w6953_4, w6953_5, w6953_6, .d (.int .i64 t14.2.2.2.2.2.2.2.2.1)]) rfl szg95 hH (i := 11) rfl rfl rfl ?_)
 refine w_scal (E := eB) h rfl sig49 (sc (so_agg (sc rfl (sc (so_imm 2 hH (j := 12) rfl) (sc (so_imm 2 hH (j := 13) rfl) (sc (so_imm 2 hH (j := 14) rfl) (sc (so_imm 2 hH (j := 15) rfl) (sc (so_imm 2 hH (j := 16) rfl) (sc (so_imm 2 hH (j := 17) rfl) (sc (so_imm 2 hH (j := 18) rfl) (sc rfl (sn))))))))))) (sn)) (fun y hy => c_Sound_ok _ y hy) (fun _ => rfl) (fun t27 h => ?_)
 refine w_load_b (v := .agg (TypedT.av t)) rfl szg95 hH (i := 19) rfl rfl rfl ?_
 refine w_scal (E := eB) h rfl sig50 (sc rfl (sn)) (fun y hy => r5_Sound_ok _ y hy) (fun _ => rfl) (fun t29 h => ?_)
 refine w_split (b := (!(decide (t27 = t29)))) h rfl (o_neqB ty4 rfl rfl) rfl (fun _ => ⟨rfl, rfl⟩) (fun _ h => ?_) (fun _ h => ?_)
 refine Wf rfl rfl (Wm rfl (Wk (Wk (Wk (Wk (Wk (Wk (Wk (Wk ?_)))))))))
 refine Wk (Wt rfl rfl (Wn (Ns (Ct (Ps (Pr rfl (Wa rfl (Wn (Ns ?_)))))))))
 cases h; exact Pq rfl rfl
 refine Wf rfl rfl (Wm rfl (w_load_b (v := .agg [.d (.str t14.1), w6953_0, w6953_1, w6953_2, w6953_3, w6953_4, w6953_5, w6953_6, .d (.int .i64 t14.2.2.2.2.2.2.2.2.1)]) rfl szg95 hH (i := 11) rfl rfl rfl (w_move_v (w6955_0) rfl rfl (Wm rfl ?_))))
 refine w_scal (E := eB) h rfl sig51 (sc (so_agg (sc rfl (sc (so_imm 2 hH (j := 12) rfl) (sc (so_imm 2 hH (j := 13) rfl) (sc (so_imm 2 hH (j := 14) rfl) (sc (so_imm 2 hH (j := 15) rfl) (sc (so_imm 2 hH (j := 16) rfl) (sc (so_imm 2 hH (j := 17) rfl) (sc (so_imm 2 hH (j := 18) rfl) (sc rfl (sn))))))))))) (sc (so_imm 3 hH (j := 0) rfl) (sc rfl (sn)))) (fun y hy => c_SoundExpr_ok _ _ _ y hy) (fun _ => rfl) (fun t36 h => ?_)
 refine w_load_b (v := .agg (TypedT.av t)) rfl szg95 hH (i := 19) rfl rfl rfl (Wm rfl (Wm rfl ?_))
 refine w_scal (E := eB) h rfl sig52 (sc rfl (sc rfl (sc rfl (sn)))) (fun y hy => r5_SoundExpr_ok _ _ _ y hy) (fun _ => rfl) (fun t40 h => ?_)
 refine w_split (b := (!(decide (t36 = t40)))) h rfl (o_neqB ty4 rfl rfl) rfl (fun _ => ⟨rfl, rfl⟩) (fun _ h => ?_) (fun _ h => ?_)
 refine Wf rfl rfl (Wn (Ns (Ct (Ps (Pr rfl (Wa rfl (Wn (Ns ?_))))))))
 cases h; exact Pq rfl rfl
 refine Wf rfl rfl (Wn (Ns (Cf (Pk (Nb (Nb (Ns (Ps (Pr rfl ?_)))))))))
 refine w_load_b (v := .agg [.d (.str t14.1), w6953_0, w6953_1, w6953_2, w6953_3, w6953_4, w6953_5, w6953_6, .d (.int .i64 t14.2.2.2.2.2.2.2.2.1)]) rfl szg95 hH (i := 11) rfl rfl rfl (w_load_b (v := .agg (TypedT.av t)) rfl szg95 hH (i := 19) rfl rfl rfl ?_)
 refine w_scal (E := eB) h rfl sig53 (sc (so_agg (sc rfl (sc (so_imm 2 hH (j := 12) rfl) (sc (so_imm 2 hH (j := 13) rfl) (sc (so_imm 2 hH (j := 14) rfl) (sc (so_imm 2 hH (j := 15) rfl) (sc (so_imm 2 hH (j := 16) rfl) (sc (so_imm 2 hH (j := 17) rfl) (sc (so_imm 2 hH (j := 18) rfl) (sc rfl (sn))))))))))) (sc rfl (sn))) (fun y hy => r5_SameTyped_ok _ _ y hy) (fun _ => rfl) (fun t45 h => ?_)
 revert h; cases t45 <;> intro h
 replace h := if0 h
 refine Wm rfl (Wk (Wk (Wk (Wf rfl rfl (Wm rfl (Wk (Wk (Wf rfl rfl (Wa rfl ?_)))))))))
 refine Wn (Ns ?_)
 cases h; exact Pq rfl rfl
 replace h := if1 h
 refine Wm rfl (w_move_v (w6955_0) rfl rfl (Wm rfl ?_))
 refine w_scal (E := eB) h rfl sig26 (sc (so_imm 3 hH (j := 0) rfl) (sc rfl (sn))) (fun y hy => r5_SameNodes_ok _ _ y hy) (fun _ => rfl) (fun t49 h => ?_)
 revert h; cases t49 <;> intro h
 replace h := if0 h
 refine Wt rfl rfl (Wm rfl (Wk (Wk (Wf rfl rfl (Wa rfl (Wn (Ns ?_)))))))
 cases h; exact Pq rfl rfl
 replace h := if1 h
 refine Wt rfl rfl (Wm rfl (w_move_v (.pt b7952 0) rfl rfl ?_))
 refine w_raw [.pt b7952 0] h rfl rfl sig27 rfl (fun y hy => r5_Room_Whole_ok _ _ _ _ _ _ _ _ _ y hy b7952 w6955_2 w6955_3 w6955_4 w6955_5 w6955_6 w6955_7 w6955_8 w6955_9 w6955_10 _ _ ([.imm w6955_0 ⟨115, 5⟩ (t17.1.map NodeT.enc), .box b7954 [.d (.str t14.1), w6953_0, w6953_1, w6953_2, w6953_3, w6953_4, w6953_5, w6953_6, .d (.int .i64 t14.2.2.2.2.2.2.2.2.1)], .imm w6953_0 ⟨200, 5⟩ (t14.2.1.map GroupT.enc), .imm w6953_1 ⟨203, 4⟩ (t14.2.2.1.map ConflictT.enc), .imm w6953_2 ⟨207, 4⟩ (t14.2.2.2.1.map DetT.enc), .imm w6953_3 ⟨9, 1⟩ (t14.2.2.2.2.1.map Dat.str), .imm w6953_4 ⟨9, 1⟩ (t14.2.2.2.2.2.1.map Dat.str), .imm w6953_5 ⟨193, 2⟩ (t14.2.2.2.2.2.2.1.map VarT.enc), .imm w6953_6 ⟨196, 7⟩ (t14.2.2.2.2.2.2.2.1.map TStageT.enc), .box b7951 (TypedT.av t)]) (hH.selG 20 [1, 2, 3, 4, 5, 6, 7, 8, 9, 10, 0, 11, 12, 13, 14, 15, 16, 17, 18, 19] (by decide) (by decide) (gc rfl (gc rfl (gc rfl (gc rfl (gc rfl (gc rfl (gc rfl (gc rfl (gc rfl (gc rfl (gc rfl (gc rfl (gc rfl (gc rfl (gc rfl (gc rfl (gc rfl (gc rfl (gc rfl (gc rfl (gt rfl))))))))))))))))))))))) (fun t53 rs H' n' h hP => ?_)
 obtain ⟨w6956_1, w6956_2, w6956_3, w6956_4, w6956_5, w6956_6, w6956_7, w6956_8, w6956_9, rfl, hH⟩ := hP
 refine Wt rfl rfl (Wa rfl (Wn (Ns ?_)))
 cases h; exact Pq rfl rfl
end Go.Proofs.YtdcpfmjnkcodiaaDoor.We
