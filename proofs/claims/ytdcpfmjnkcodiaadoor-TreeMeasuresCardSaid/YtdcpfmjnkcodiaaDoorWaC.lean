/- The abstract machine computes these functions. Printed by decomp.py. -/
import Derived.Test.YtdcpfmjnkcodiaaDoorWaB
namespace Go.Proofs.YtdcpfmjnkcodiaaDoor.W
open Go Go.Jv
open Go.Proofs
set_option maxHeartbeats 4000000 in
theorem junctionlaw3_copyNodes_ok (e : List NodeT) (r : List NodeT) (h : junctionlaw3_copyNodes e = some r) (H : Hs) (n : Nat) (L : List Jv.Item) (hH : HP H n L) : Raw C 64 [.d (.lst (e.map NodeT.enc))] H n (fun rs H' n' => ∃ w0, rs = [w0] ∧ HP H' n' (.own w0 ⟨115, 5⟩ (r.map NodeT.enc) :: L)) := by
  refine raw_at fn64 rfl ?_
  refine jmp 0 _ rfl ?_
  refine p_seq rfl ?_
  refine p_region rfl ?_
  refine w_assign_v (.nil) rfl rfl ?_
  refine w_nil ?_
  refine n_seq rfl ?_
  refine p_seq rfl ?_
  refine p_region rfl ?_
  refine w_move_d rfl rfl ?_
  have hH := hH.addNil (z := ⟨115, 5⟩)
  refine w_append (enc := NodeT.enc) h rfl elem22 szg115 bytes115 (by decide) (fun _ => rfl) hH (j := 0) rfl rfl shows_d (fun t4 w1050 H' n' h hH => ?_)
  refine w_assign_v (w1050) rfl rfl ?_
  refine w_nil ?_
  refine n_seq rfl ?_
  refine p_ret rfl (con_ret ?_)
  cases h
  exact prF (.inl rfl) (ra_tmp (w1050) rfl (ra_nil)) ⟨w1050, rfl, hH⟩
set_option maxHeartbeats 4000000 in
theorem junctionlaw3_roomy_ok (e : List NodeT) (r : List NodeT) (h : junctionlaw3_roomy e = some r) : callD C 12 [(.lst (e.map NodeT.enc))] = some [(.lst (r.map NodeT.enc))] := by
  refine callD_at (ext0 _ _) fn12 rfl ?_
  refine jmp 0 _ rfl ?_
  refine p_seq rfl ?_
  refine p_region rfl ?_
  refine w_assign_v (.nil) rfl rfl ?_
  refine w_nil ?_
  refine n_seq rfl ?_
  refine p_seq rfl ?_
  refine p_region rfl ?_
  refine w_move_d rfl rfl ?_
  refine w_raw [.d (.lst (e.map NodeT.enc))] h rfl sig64 rfl (fun y hy => junctionlaw3_copyNodes_ok _ y hy _ _ _ (HP.nil _ _)) (fun t4 rs H' n' h hP => ?_)
  obtain ⟨w1051, rfl, hH⟩ := hP
  refine w_build (cs := [.d (.int .i64 0), .d (.int .i32 55), .d (.str ⟨#[114, 111, 111, 109]⟩), .d (.int .i64 0), .d (.int .i64 0)]) rfl zero115 places115 rfl ?_
  refine w_build (cs := [.d (.int .i64 0), .d (.int .i32 56), .d (.str ⟨#[114, 111, 111, 109]⟩), .d (.int .i64 0), .d (.int .i64 0)]) rfl zero115 places115 rfl ?_
  refine w_bslice (enc := NodeT.enc) (xs := [(⟨0, 55, ⟨#[114, 111, 111, 109]⟩, (⟨0, 0⟩ : PosT)⟩ : NodeT), (⟨0, 56, ⟨#[114, 111, 111, 109]⟩, (⟨0, 0⟩ : PosT)⟩ : NodeT)]) [.agg [.d (.int .i64 0), .d (.int .i32 55), .d (.str ⟨#[114, 111, 111, 109]⟩), .d (.int .i64 0), .d (.int .i64 0)], .agg [.d (.int .i64 0), .d (.int .i32 56), .d (.str ⟨#[114, 111, 111, 109]⟩), .d (.int .i64 0), .d (.int .i64 0)]] rfl elem22 szg115 zero115 ⟨by decide, Nat.le_of_ble_eq_true rfl⟩ zd115 (fun _ => rfl) (fun _ => rfl) rfl rfl hH (fun w1052 H' n' hH => ?_)
  refine w_append (enc := NodeT.enc) h rfl elem22 szg115 bytes115 (by decide) (fun _ => rfl) hH (j := 1) rfl rfl (shows_own hH (j := 0) rfl) (fun t8 w1053 H' n' h hH => ?_)
  refine w_assign_v (w1053) rfl rfl ?_
  refine w_nil ?_
  refine n_seq rfl ?_
  refine p_ret rfl (con_ret ?_)
  cases h
  exact pdF (.inl rfl) (ra_tmp (w1053) rfl (ra_nil)) (FS.own hH (j := 0) rfl (fun _ hH => FS.nil hH))
set_option maxHeartbeats 4000000 in
theorem arith_Arity_k1_ok (op : Int) (r : Int) (h : arith_Arity_k1 op = some r) (g : Nat → AV) (H : Hs) (n : Nat) : PAt C (bodyOf Tryd.f65) (.b (.b (.a (.a (.b .o))))) ⟨upd g 0 (.d (.int .i64 op)), H, n⟩ (PostD C Tryd.f65 [(.int .i64 r)]) := by
  refine p_seq rfl ?_
  refine p_region rfl ?_
  refine w_move_d rfl rfl ?_
  refine w_cmp h rfl rfl (fun _ h => ?_) (fun _ h => ?_)
  · refine w_move_d rfl rfl ?_
    refine w_move_d rfl rfl ?_
    refine w_cmp h rfl rfl (fun _ h => ?_) (fun _ h => ?_)
    · refine w_pick_td rfl rfl rfl ?_
      refine w_move_d rfl rfl ?_
      refine w_move_d rfl rfl ?_
      refine w_idx_g h rfl arr225 szg3 glob2 rfl rfl nel225 (fun t19 h _ _ => ?_)
      refine w_load_d rfl szg3 rfl rfl ?_
      refine w_cmp h rfl rfl (fun _ h => ?_) (fun _ h => ?_)
      · refine w_pick_td rfl rfl rfl ?_
        refine w_assign_d rfl rfl ?_
        refine w_nil ?_
        refine n_seq rfl ?_
        refine p_cond_t rfl rfl ?_
        refine p_seq rfl ?_
        refine p_region rfl ?_
        refine w_move_d rfl rfl ?_
        refine w_idx_g h rfl arr225 szg3 glob2 rfl rfl nel225 (fun t24 h _ _ => ?_)
        refine w_load_d rfl szg3 rfl rfl ?_
        refine w_assign_d rfl rfl ?_
        refine w_nil ?_
        refine n_seq rfl ?_
        refine p_ret rfl (con_ret ?_)
        cases h
        exact pd (.inl rfl) rfl rfl
      refine w_pick_td rfl rfl rfl ?_
      refine w_assign_d rfl rfl ?_
      refine w_nil ?_
      refine n_seq rfl ?_
      refine p_cond_f rfl rfl ?_
      refine p_skip rfl ?_
      refine n_b ?_
      refine n_b ?_
      refine n_b ?_
      refine n_b ?_
      refine n_blk rfl ?_
      refine n_seq rfl ?_
      refine p_seq rfl ?_
      refine p_region rfl ?_
      refine w_assign_d rfl rfl ?_
      refine w_nil ?_
      refine n_seq rfl ?_
      refine p_ret rfl (con_ret ?_)
      cases h
      exact pd (.inl rfl) rfl rfl
    refine w_pick_td rfl rfl rfl ?_
    refine w_move_d rfl rfl ?_
    refine w_skip rfl ?_
    refine w_skip rfl ?_
    refine w_skip rfl ?_
    refine w_skip rfl ?_
    refine w_pick_fd rfl rfl rfl ?_
    refine w_assign_d rfl rfl ?_
    refine w_nil ?_
    refine n_seq rfl ?_
    refine p_cond_f rfl rfl ?_
    refine p_skip rfl ?_
    refine n_b ?_
    refine n_b ?_
    refine n_b ?_
    refine n_b ?_
    refine n_blk rfl ?_
    refine n_seq rfl ?_
    refine p_seq rfl ?_
    refine p_region rfl ?_
    refine w_assign_d rfl rfl ?_
    refine w_nil ?_
    refine n_seq rfl ?_
    refine p_ret rfl (con_ret ?_)
    cases h
    exact pd (.inl rfl) rfl rfl
  refine w_move_d rfl rfl ?_
  refine w_skip rfl ?_
  refine w_skip rfl ?_
  refine w_pick_fd rfl rfl rfl ?_
  refine w_move_d rfl rfl ?_
  refine w_skip rfl ?_
  refine w_skip rfl ?_
  refine w_skip rfl ?_
  refine w_skip rfl ?_
  refine w_pick_fd rfl rfl rfl ?_
  refine w_assign_d rfl rfl ?_
  refine w_nil ?_
  refine n_seq rfl ?_
  refine p_cond_f rfl rfl ?_
  refine p_skip rfl ?_
  refine n_b ?_
  refine n_b ?_
  refine n_b ?_
  refine n_b ?_
  refine n_blk rfl ?_
  refine n_seq rfl ?_
  refine p_seq rfl ?_
  refine p_region rfl ?_
  refine w_assign_d rfl rfl ?_
  refine w_nil ?_
  refine n_seq rfl ?_
  refine p_ret rfl (con_ret ?_)
  cases h
  exact pd (.inl rfl) rfl rfl
set_option maxHeartbeats 4000000 in
theorem arith_Arity_ok (op : Int) (r : Int) (h : arith_Arity op = some r) : callD C 65 [(.int .i64 op)] = some [(.int .i64 r)] := by
  refine callD_at (ext0 _ _) fn65 rfl ?_
  refine jmp 0 _ rfl ?_
  refine p_seq rfl ?_
  refine p_region rfl ?_
  refine w_assign_d rfl rfl ?_
  refine w_nil ?_
  refine n_seq rfl ?_
  refine p_seq rfl ?_
  refine p_block rfl ?_
  refine p_seq rfl ?_
  refine p_region rfl ?_
  refine w_move_d rfl rfl ?_
  refine w_cmp h rfl rfl (fun _ h => ?_) (fun _ h => ?_)
  · refine w_move_d rfl rfl ?_
    refine w_move_d rfl rfl ?_
    refine w_cmp h rfl rfl (fun _ h => ?_) (fun _ h => ?_)
    · refine w_pick_td rfl rfl rfl ?_
      refine w_assign_d rfl rfl ?_
      refine w_nil ?_
      refine n_seq rfl ?_
      refine p_cond_t rfl rfl ?_
      refine p_seq rfl ?_
      refine p_region rfl ?_
      refine w_assign_d rfl rfl ?_
      refine w_nil ?_
      refine n_seq rfl ?_
      refine p_ret rfl (con_ret ?_)
      cases h
      exact pd (.inl rfl) rfl rfl
    refine w_pick_td rfl rfl rfl ?_
    refine w_assign_d rfl rfl ?_
    refine w_nil ?_
    refine n_seq rfl ?_
    refine p_cond_f rfl rfl ?_
    exact jmp 0 _ rfl (arith_Arity_k1_ok _ _ h _ _ _)
  refine w_move_d rfl rfl ?_
  refine w_skip rfl ?_
  refine w_skip rfl ?_
  refine w_pick_fd rfl rfl rfl ?_
  refine w_assign_d rfl rfl ?_
  refine w_nil ?_
  refine n_seq rfl ?_
  refine p_cond_f rfl rfl ?_
  exact jmp 0 _ rfl (arith_Arity_k1_ok _ _ h _ _ _)
set_option maxHeartbeats 4000000 in
theorem tree_Span_L1_ok (e : List NodeT) (wanted : Int) (j : Int) (r : Int) (h : tree_Span_L1 e wanted j = some r) (g : Nat → AV) (H : Hs) (n : Nat) : PAt C (bodyOf Tryd.f13) (.a (.b (.a (.b (.b (.b .o)))))) ⟨upd (upd (upd g 0 (.d (.lst (e.map NodeT.enc)))) 5 (.d (.int .i64 wanted))) 6 (.d (.int .i64 j)), H, n⟩ (PostD C Tryd.f13 [(.int .i64 r)]) := by
  refine tree_Span_L1.partial_correctness e (fun wanted j r => ∀ (g : Nat → AV) (H : Hs) (n : Nat), PAt C (bodyOf Tryd.f13) (.a (.b (.a (.b (.b (.b .o)))))) ⟨upd (upd (upd g 0 (.d (.lst (e.map NodeT.enc)))) 5 (.d (.int .i64 wanted))) 6 (.d (.int .i64 j)), H, n⟩ (PostD C Tryd.f13 [(.int .i64 r)])) (fun tree_Span_L1 ih_tree_Span_L1 wanted j r h g H n => ?_) wanted j r h g H n
  refine p_loop rfl ?_
  refine p_seq rfl ?_
  refine p_seq rfl ?_
  refine p_region rfl ?_
  refine w_move_d rfl rfl ?_
  refine w_cmp h rfl rfl (fun _ h => ?_) (fun _ h => ?_)
  · refine w_nil ?_
    refine n_seq rfl ?_
    refine p_cond_t rfl rfl ?_
    refine p_skip rfl ?_
    refine n_cond rfl ?_
    refine n_b ?_
    refine n_seq rfl ?_
    refine p_seq rfl ?_
    refine p_block rfl ?_
    refine p_seq rfl ?_
    refine p_region rfl ?_
    refine w_move_d rfl rfl ?_
    refine w_move_d rfl rfl ?_
    refine w_idx h rfl elem22 szg115 (fun _ => rfl) rfl rfl (fun t23 h => ?_)
    refine w_faddr_d rfl fo115_0 (by decide) rfl ?_
    refine w_load_d rfl szg3 rfl rfl ?_
    refine w_scal (E := (fun y => [(.int .i64 y)])) h rfl sig65 (sc rfl (sn)) (fun y hy => arith_Arity_ok _ y hy) (fun _ => rfl) (fun t26 h => ?_)
    refine w_assign_d rfl rfl ?_
    refine w_nil ?_
    refine n_seq rfl ?_
    refine p_seq rfl ?_
    refine p_seq rfl ?_
    refine p_region rfl ?_
    refine w_move_d rfl rfl ?_
    refine w_cmp h rfl rfl (fun _ h => ?_) (fun _ h => ?_)
    · refine w_nil ?_
      refine n_seq rfl ?_
      refine p_cond_t rfl rfl ?_
      refine p_seq rfl ?_
      refine p_region rfl ?_
      refine w_assign_d rfl rfl ?_
      refine w_nil ?_
      refine n_seq rfl ?_
      refine p_ret rfl (con_ret ?_)
      cases h
      exact pd (.inl rfl) rfl rfl
    refine w_nil ?_
    refine n_seq rfl ?_
    refine p_cond_f rfl rfl ?_
    refine p_skip rfl ?_
    refine n_b ?_
    refine n_b ?_
    refine n_seq rfl ?_
    refine p_seq rfl ?_
    refine p_region rfl ?_
    refine w_move_d rfl rfl ?_
    refine w_move_d rfl rfl ?_
    refine w_bin rfl rfl ?_
    refine w_bin rfl rfl ?_
    refine w_assign_d rfl rfl ?_
    refine w_nil ?_
    refine n_seq rfl ?_
    refine p_seq rfl ?_
    refine p_region rfl ?_
    refine w_move_d rfl rfl ?_
    refine w_cmp h rfl rfl (fun _ h => ?_) (fun _ h => ?_)
    · refine w_nil ?_
      refine n_seq rfl ?_
      refine p_cond_t rfl rfl ?_
      refine p_seq rfl ?_
      refine p_region rfl ?_
      refine w_move_d rfl rfl ?_
      refine w_assign_d rfl rfl ?_
      refine w_nil ?_
      refine n_seq rfl ?_
      refine p_ret rfl (con_ret ?_)
      cases h
      exact pd (.inl rfl) rfl rfl
    refine w_nil ?_
    refine n_seq rfl ?_
    refine p_cond_f rfl rfl ?_
    refine p_skip rfl ?_
    refine n_b ?_
    refine n_b ?_
    refine n_b ?_
    refine n_b ?_
    refine n_b ?_
    refine n_blk rfl ?_
    refine n_seq rfl ?_
    refine p_region rfl ?_
    refine w_move_d rfl rfl ?_
    refine w_bin rfl rfl ?_
    refine w_assign_d rfl rfl ?_
    refine w_nil ?_
    refine n_b ?_
    refine n_b ?_
    refine n_loop rfl ?_
    exact jmp 0 _ rfl (jmp 5 _ rfl (jmp 6 _ rfl (ih_tree_Span_L1 _ _ _ h _ _ _)))
  refine w_nil ?_
  refine n_seq rfl ?_
  refine p_cond_f rfl rfl ?_
  refine p_exit rfl ?_
  refine n_b ?_
  refine n_b ?_
  refine x_seq rfl ?_
  refine x_loop rfl ?_
  refine x_blk rfl ?_
  refine n_b ?_
  refine n_seq rfl ?_
  refine p_seq rfl ?_
  refine p_region rfl ?_
  refine w_assign_d rfl rfl ?_
  refine w_nil ?_
  refine n_seq rfl ?_
  refine p_ret rfl (con_ret ?_)
  cases h
  exact pd (.inl rfl) rfl rfl
set_option maxHeartbeats 4000000 in
theorem tree_Span_ok (e : List NodeT) (i : Int) (r : Int) (h : tree_Span e i = some r) : callD C 13 [(.lst (e.map NodeT.enc)), (.int .i64 i)] = some [(.int .i64 r)] := by
  refine callD_at (ext0 _ _) fn13 rfl ?_
  refine jmp 0 _ rfl ?_
  refine jmp 1 _ rfl ?_
  refine p_seq rfl ?_
  refine p_region rfl ?_
  refine w_assign_d rfl rfl ?_
  refine w_nil ?_
  refine n_seq rfl ?_
  refine p_seq rfl ?_
  refine p_seq rfl ?_
  refine p_region rfl ?_
  refine w_move_d rfl rfl ?_
  refine w_cmp h rfl rfl (fun _ h => ?_) (fun _ h => ?_)
  · refine w_move_d rfl rfl ?_
    refine w_skip rfl ?_
    refine w_skip rfl ?_
    refine w_skip rfl ?_
    refine w_skip rfl ?_
    refine w_pick_td rfl rfl rfl ?_
    refine w_nil ?_
    refine n_seq rfl ?_
    refine p_cond_t rfl rfl ?_
    refine p_seq rfl ?_
    refine p_region rfl ?_
    refine w_assign_d rfl rfl ?_
    refine w_nil ?_
    refine n_seq rfl ?_
    refine p_ret rfl (con_ret ?_)
    cases h
    exact pd (.inl rfl) rfl rfl
  refine w_move_d rfl rfl ?_
  refine w_move_d rfl rfl ?_
  refine w_move_d rfl rfl ?_
  refine w_len_d rfl elem22 rfl ?_
  refine w_cmp h rfl rfl (fun _ h => ?_) (fun _ h => ?_)
  · refine w_pick_fd rfl rfl rfl ?_
    refine w_nil ?_
    refine n_seq rfl ?_
    refine p_cond_t rfl rfl ?_
    refine p_seq rfl ?_
    refine p_region rfl ?_
    refine w_assign_d rfl rfl ?_
    refine w_nil ?_
    refine n_seq rfl ?_
    refine p_ret rfl (con_ret ?_)
    cases h
    exact pd (.inl rfl) rfl rfl
  refine w_pick_fd rfl rfl rfl ?_
  refine w_nil ?_
  refine n_seq rfl ?_
  refine p_cond_f rfl rfl ?_
  refine p_skip rfl ?_
  refine n_b ?_
  refine n_b ?_
  refine n_seq rfl ?_
  refine p_seq rfl ?_
  refine p_region rfl ?_
  refine w_assign_d rfl rfl ?_
  refine w_nil ?_
  refine n_seq rfl ?_
  refine p_seq rfl ?_
  refine p_seq rfl ?_
  refine p_region rfl ?_
  refine w_move_d rfl rfl ?_
  refine w_assign_d rfl rfl ?_
  refine w_nil ?_
  refine n_seq rfl ?_
  refine p_block rfl ?_
  exact jmp 0 _ rfl (jmp 5 _ rfl (jmp 6 _ rfl (tree_Span_L1_ok _ _ _ _ h _ _ _)))
set_option maxHeartbeats 4000000 in
theorem tree_level_k1_ok (op : Int) (r : Int) (h : tree_level_k1 op = some r) (g : Nat → AV) (H : Hs) (n : Nat) : PAt C (bodyOf Tryd.f67) (.b (.b (.b (.b (.b (.b (.b (.b (.a (.a (.b .o))))))))))) ⟨upd g 0 (.d (.int .i64 op)), H, n⟩ (PostD C Tryd.f67 [(.int .i64 r)]) := by
  refine p_seq rfl ?_
  refine p_region rfl ?_
  refine w_move_d rfl rfl ?_
  refine w_cmp h rfl rfl (fun _ h => ?_) (fun _ h => ?_)
  · refine w_move_d rfl rfl ?_
    refine w_skip rfl ?_
    refine w_skip rfl ?_
    refine w_pick_td rfl rfl rfl ?_
    refine w_assign_d rfl rfl ?_
    refine w_nil ?_
    refine n_seq rfl ?_
    refine p_cond_t rfl rfl ?_
    refine p_seq rfl ?_
    refine p_region rfl ?_
    refine w_assign_d rfl rfl ?_
    refine w_nil ?_
    refine n_seq rfl ?_
    refine p_ret rfl (con_ret ?_)
    cases h
    exact pd (.inl rfl) rfl rfl
  refine w_move_d rfl rfl ?_
  refine w_move_d rfl rfl ?_
  refine w_cmp h rfl rfl (fun _ h => ?_) (fun _ h => ?_)
  · refine w_pick_fd rfl rfl rfl ?_
    refine w_assign_d rfl rfl ?_
    refine w_nil ?_
    refine n_seq rfl ?_
    refine p_cond_t rfl rfl ?_
    refine p_seq rfl ?_
    refine p_region rfl ?_
    refine w_assign_d rfl rfl ?_
    refine w_nil ?_
    refine n_seq rfl ?_
    refine p_ret rfl (con_ret ?_)
    cases h
    exact pd (.inl rfl) rfl rfl
  refine w_pick_fd rfl rfl rfl ?_
  refine w_assign_d rfl rfl ?_
  refine w_nil ?_
  refine n_seq rfl ?_
  refine p_cond_f rfl rfl ?_
  refine p_seq rfl ?_
  refine p_region rfl ?_
  refine w_move_d rfl rfl ?_
  refine w_cmp h rfl rfl (fun _ h => ?_) (fun _ h => ?_)
  · refine w_move_d rfl rfl ?_
    refine w_skip rfl ?_
    refine w_skip rfl ?_
    refine w_pick_td rfl rfl rfl ?_
    refine w_move_d rfl rfl ?_
    refine w_skip rfl ?_
    refine w_skip rfl ?_
    refine w_pick_td rfl rfl rfl ?_
    refine w_assign_d rfl rfl ?_
    refine w_nil ?_
    refine n_seq rfl ?_
    refine p_cond_t rfl rfl ?_
    refine p_seq rfl ?_
    refine p_region rfl ?_
    refine w_assign_d rfl rfl ?_
    refine w_nil ?_
    refine n_seq rfl ?_
    refine p_ret rfl (con_ret ?_)
    cases h
    exact pd (.inl rfl) rfl rfl
  refine w_move_d rfl rfl ?_
  refine w_move_d rfl rfl ?_
  refine w_cmp h rfl rfl (fun _ h => ?_) (fun _ h => ?_)
  · refine w_pick_fd rfl rfl rfl ?_
    refine w_move_d rfl rfl ?_
    refine w_skip rfl ?_
    refine w_skip rfl ?_
    refine w_pick_td rfl rfl rfl ?_
    refine w_assign_d rfl rfl ?_
    refine w_nil ?_
    refine n_seq rfl ?_
    refine p_cond_t rfl rfl ?_
    refine p_seq rfl ?_
    refine p_region rfl ?_
    refine w_assign_d rfl rfl ?_
    refine w_nil ?_
    refine n_seq rfl ?_
    refine p_ret rfl (con_ret ?_)
    cases h
    exact pd (.inl rfl) rfl rfl
  refine w_pick_fd rfl rfl rfl ?_
  refine w_move_d rfl rfl ?_
  refine w_move_d rfl rfl ?_
  refine w_cmp h rfl rfl (fun _ h => ?_) (fun _ h => ?_)
  · refine w_pick_fd rfl rfl rfl ?_
    refine w_assign_d rfl rfl ?_
    refine w_nil ?_
    refine n_seq rfl ?_
    refine p_cond_t rfl rfl ?_
    refine p_seq rfl ?_
    refine p_region rfl ?_
    refine w_assign_d rfl rfl ?_
    refine w_nil ?_
    refine n_seq rfl ?_
    refine p_ret rfl (con_ret ?_)
    cases h
    exact pd (.inl rfl) rfl rfl
  refine w_pick_fd rfl rfl rfl ?_
  refine w_assign_d rfl rfl ?_
  refine w_nil ?_
  refine n_seq rfl ?_
  refine p_cond_f rfl rfl ?_
  refine p_seq rfl ?_
  refine p_region rfl ?_
  refine w_move_d rfl rfl ?_
  refine w_cmp h rfl rfl (fun _ h => ?_) (fun _ h => ?_)
  · refine w_assign_d rfl rfl ?_
    refine w_nil ?_
    refine n_seq rfl ?_
    refine p_cond_t rfl rfl ?_
    refine p_seq rfl ?_
    refine p_region rfl ?_
    refine w_assign_d rfl rfl ?_
    refine w_nil ?_
    refine n_seq rfl ?_
    refine p_ret rfl (con_ret ?_)
    cases h
    exact pd (.inl rfl) rfl rfl
  refine w_assign_d rfl rfl ?_
  refine w_nil ?_
  refine n_seq rfl ?_
  refine p_cond_f rfl rfl ?_
  refine p_skip rfl ?_
  refine n_b ?_
  refine n_b ?_
  refine n_b ?_
  refine n_b ?_
  refine n_b ?_
  refine n_b ?_
  refine n_b ?_
  refine n_b ?_
  refine n_b ?_
  refine n_b ?_
  refine n_b ?_
  refine n_b ?_
  refine n_b ?_
  refine n_b ?_
  refine n_blk rfl ?_
  refine n_seq rfl ?_
  refine p_seq rfl ?_
  refine p_region rfl ?_
  refine w_assign_d rfl rfl ?_
  refine w_nil ?_
  refine n_seq rfl ?_
  refine p_ret rfl (con_ret ?_)
  cases h
  exact pd (.inl rfl) rfl rfl
set_option maxHeartbeats 4000000 in
theorem tree_level_ok (op : Int) (r : Int) (h : tree_level op = some r) : callD C 67 [(.int .i64 op)] = some [(.int .i64 r)] := by
  refine callD_at (ext0 _ _) fn67 rfl ?_
  refine jmp 0 _ rfl ?_
  refine p_seq rfl ?_
  refine p_region rfl ?_
  refine w_assign_d rfl rfl ?_
  refine w_nil ?_
  refine n_seq rfl ?_
  refine p_seq rfl ?_
  refine p_block rfl ?_
  refine p_seq rfl ?_
  refine p_region rfl ?_
  refine w_move_d rfl rfl ?_
  refine w_cmp h rfl rfl (fun _ h => ?_) (fun _ h => ?_)
  · refine w_assign_d rfl rfl ?_
    refine w_nil ?_
    refine n_seq rfl ?_
    refine p_cond_t rfl rfl ?_
    refine p_seq rfl ?_
    refine p_region rfl ?_
    refine w_assign_d rfl rfl ?_
    refine w_nil ?_
    refine n_seq rfl ?_
    refine p_ret rfl (con_ret ?_)
    cases h
    exact pd (.inl rfl) rfl rfl
  refine w_assign_d rfl rfl ?_
  refine w_nil ?_
  refine n_seq rfl ?_
  refine p_cond_f rfl rfl ?_
  refine p_seq rfl ?_
  refine p_region rfl ?_
  refine w_move_d rfl rfl ?_
  refine w_cmp h rfl rfl (fun _ h => ?_) (fun _ h => ?_)
  · refine w_assign_d rfl rfl ?_
    refine w_nil ?_
    refine n_seq rfl ?_
    refine p_cond_t rfl rfl ?_
    refine p_seq rfl ?_
    refine p_region rfl ?_
    refine w_assign_d rfl rfl ?_
    refine w_nil ?_
    refine n_seq rfl ?_
    refine p_ret rfl (con_ret ?_)
    cases h
    exact pd (.inl rfl) rfl rfl
  refine w_assign_d rfl rfl ?_
  refine w_nil ?_
  refine n_seq rfl ?_
  refine p_cond_f rfl rfl ?_
  refine p_seq rfl ?_
  refine p_region rfl ?_
  refine w_move_d rfl rfl ?_
  refine w_cmp h rfl rfl (fun _ h => ?_) (fun _ h => ?_)
  · refine w_assign_d rfl rfl ?_
    refine w_nil ?_
    refine n_seq rfl ?_
    refine p_cond_t rfl rfl ?_
    refine p_seq rfl ?_
    refine p_region rfl ?_
    refine w_assign_d rfl rfl ?_
    refine w_nil ?_
    refine n_seq rfl ?_
    refine p_ret rfl (con_ret ?_)
    cases h
    exact pd (.inl rfl) rfl rfl
  refine w_assign_d rfl rfl ?_
  refine w_nil ?_
  refine n_seq rfl ?_
  refine p_cond_f rfl rfl ?_
  refine p_seq rfl ?_
  refine p_region rfl ?_
  refine w_move_d rfl rfl ?_
  refine w_cmp h rfl rfl (fun _ h => ?_) (fun _ h => ?_)
  · refine w_move_d rfl rfl ?_
    refine w_move_d rfl rfl ?_
    refine w_cmp h rfl rfl (fun _ h => ?_) (fun _ h => ?_)
    · refine w_pick_td rfl rfl rfl ?_
      refine w_assign_d rfl rfl ?_
      refine w_nil ?_
      refine n_seq rfl ?_
      refine p_cond_t rfl rfl ?_
      refine p_seq rfl ?_
      refine p_region rfl ?_
      refine w_assign_d rfl rfl ?_
      refine w_nil ?_
      refine n_seq rfl ?_
      refine p_ret rfl (con_ret ?_)
      cases h
      exact pd (.inl rfl) rfl rfl
    refine w_pick_td rfl rfl rfl ?_
    refine w_assign_d rfl rfl ?_
    refine w_nil ?_
    refine n_seq rfl ?_
    refine p_cond_f rfl rfl ?_
    exact jmp 0 _ rfl (tree_level_k1_ok _ _ h _ _ _)
  refine w_move_d rfl rfl ?_
  refine w_skip rfl ?_
  refine w_skip rfl ?_
  refine w_pick_fd rfl rfl rfl ?_
  refine w_assign_d rfl rfl ?_
  refine w_nil ?_
  refine n_seq rfl ?_
  refine p_cond_f rfl rfl ?_
  exact jmp 0 _ rfl (tree_level_k1_ok _ _ h _ _ _)
set_option maxHeartbeats 4000000 in
theorem tree_asks_k1_ok (op : Int) (t2 : A2 Int) (r : A2 Int) (h : tree_asks_k1 op t2 = some r) (b0 : Nat) (g : Nat → AV) (H : Hs) (n : Nat) (hH : HP H n [.box b0 [.d (.int .i64 t2.e0), .d (.int .i64 t2.e1)]]) : PAt C (bodyOf Tryd.f66) (.a (.b (.a (.a (.b .o))))) ⟨upd (upd g 0 (.d (.int .i64 op))) 2 (.pt b0 0), H, n⟩ (PostD C Tryd.f66 [((A2.enc (Dat.int .i64)) r)]) := by
  refine p_seq rfl ?_
  refine p_region rfl ?_
  refine w_move_d rfl rfl ?_
  refine w_scal (E := (fun y => [(.int .i64 y)])) h rfl sig67 (sc rfl (sn)) (fun y hy => tree_level_ok _ y hy) (fun _ => rfl) (fun t11 h => ?_)
  refine w_buildA (cs := [.d (.int .i64 t11), .d (.int .i64 0)]) rfl zero120 arr120 szg3 rfl ?_
  refine w_store_b (new := [.d (.int .i64 t11), .d (.int .i64 0)]) rfl szg120 hH (i := 0) rfl rfl rfl rfl rfl (Nat.le_of_ble_eq_true rfl) (fun H' hH => ?_)
  refine w_nil ?_
  refine n_seq rfl ?_
  refine p_ret rfl (con_ret ?_)
  cases h
  exact pdF (.inl rfl) (ra_cell (.agg [.d (.int .i64 t11), .d (.int .i64 0)]) szg120 hH (i := 0) rfl rfl rfl (ra_nil)) (FS.agg (FS.d (FS.d (FS.nil hH))) (fun _ hH => FS.nil hH))
set_option maxHeartbeats 4000000 in
theorem tree_asks_k2_ok (t2 : A2 Int) (r : A2 Int) (h : tree_asks_k2 t2 = some r) (b0 : Nat) (g : Nat → AV) (H : Hs) (n : Nat) (hH : HP H n [.box b0 [.d (.int .i64 t2.e0), .d (.int .i64 t2.e1)]]) : PAt C (bodyOf Tryd.f66) (.a (.b (.b (.b (.b (.b (.a (.a (.b .o))))))))) ⟨upd g 2 (.pt b0 0), H, n⟩ (PostD C Tryd.f66 [((A2.enc (Dat.int .i64)) r)]) := by
  refine p_seq rfl ?_
  refine p_region rfl ?_
  refine w_buildA (cs := [.d (.int .i64 1), .d (.int .i64 1)]) rfl zero120 arr120 szg3 rfl ?_
  refine w_store_b (new := [.d (.int .i64 1), .d (.int .i64 1)]) rfl szg120 hH (i := 0) rfl rfl rfl rfl rfl (Nat.le_of_ble_eq_true rfl) (fun H' hH => ?_)
  refine w_nil ?_
  refine n_seq rfl ?_
  refine p_ret rfl (con_ret ?_)
  cases h
  exact pdF (.inl rfl) (ra_cell (.agg [.d (.int .i64 1), .d (.int .i64 1)]) szg120 hH (i := 0) rfl rfl rfl (ra_nil)) (FS.agg (FS.d (FS.d (FS.nil hH))) (fun _ hH => FS.nil hH))
set_option maxHeartbeats 4000000 in
theorem tree_asks_k3_ok (op : Int) (t2 : A2 Int) (r : A2 Int) (h : tree_asks_k3 op t2 = some r) (b0 : Nat) (g : Nat → AV) (H : Hs) (n : Nat) (hH : HP H n [.box b0 [.d (.int .i64 t2.e0), .d (.int .i64 t2.e1)]]) : PAt C (bodyOf Tryd.f66) (.b (.b (.b (.b (.a (.a (.b .o))))))) ⟨upd (upd g 0 (.d (.int .i64 op))) 2 (.pt b0 0), H, n⟩ (PostD C Tryd.f66 [((A2.enc (Dat.int .i64)) r)]) := by
  refine p_seq rfl ?_
  refine p_region rfl ?_
  refine w_move_d rfl rfl ?_
  refine w_cmp h rfl rfl (fun _ h => ?_) (fun _ h => ?_)
  · refine w_move_d rfl rfl ?_
    refine w_skip rfl ?_
    refine w_skip rfl ?_
    refine w_pick_td rfl rfl rfl ?_
    refine w_move_d rfl rfl ?_
    refine w_skip rfl ?_
    refine w_skip rfl ?_
    refine w_pick_td rfl rfl rfl ?_
    refine w_assign_d rfl rfl ?_
    refine w_nil ?_
    refine n_seq rfl ?_
    refine p_cond_t rfl rfl ?_
    exact jmp 2 _ rfl (tree_asks_k2_ok _ _ h _ _ _ _ hH)
  refine w_move_d rfl rfl ?_
  refine w_move_d rfl rfl ?_
  refine w_cmp h rfl rfl (fun _ h => ?_) (fun _ h => ?_)
  · refine w_pick_fd rfl rfl rfl ?_
    refine w_move_d rfl rfl ?_
    refine w_skip rfl ?_
    refine w_skip rfl ?_
    refine w_pick_td rfl rfl rfl ?_
    refine w_assign_d rfl rfl ?_
    refine w_nil ?_
    refine n_seq rfl ?_
    refine p_cond_t rfl rfl ?_
    exact jmp 2 _ rfl (tree_asks_k2_ok _ _ h _ _ _ _ hH)
  refine w_pick_fd rfl rfl rfl ?_
  refine w_move_d rfl rfl ?_
  refine w_move_d rfl rfl ?_
  refine w_cmp h rfl rfl (fun _ h => ?_) (fun _ h => ?_)
  · refine w_pick_fd rfl rfl rfl ?_
    refine w_assign_d rfl rfl ?_
    refine w_nil ?_
    refine n_seq rfl ?_
    refine p_cond_t rfl rfl ?_
    exact jmp 2 _ rfl (tree_asks_k2_ok _ _ h _ _ _ _ hH)
  refine w_pick_fd rfl rfl rfl ?_
  refine w_assign_d rfl rfl ?_
  refine w_nil ?_
  refine n_seq rfl ?_
  refine p_cond_f rfl rfl ?_
  refine p_skip rfl ?_
  refine n_b ?_
  refine n_b ?_
  refine n_b ?_
  refine n_b ?_
  refine n_b ?_
  refine n_b ?_
  refine n_blk rfl ?_
  refine n_seq rfl ?_
  refine p_seq rfl ?_
  refine p_region rfl ?_
  refine w_move_d rfl rfl ?_
  refine w_scal (E := (fun y => [(.int .i64 y)])) h rfl sig67 (sc rfl (sn)) (fun y hy => tree_level_ok _ y hy) (fun _ => rfl) (fun t34 h => ?_)
  refine w_move_d rfl rfl ?_
  refine w_scal (E := (fun y => [(.int .i64 y)])) h rfl sig67 (sc rfl (sn)) (fun y hy => tree_level_ok _ y hy) (fun _ => rfl) (fun t36 h => ?_)
  refine w_bin rfl rfl ?_
  refine w_buildA (cs := [.d (.int .i64 t34), .d (.int .i64 (w64 (t36 + 1)))]) rfl zero120 arr120 szg3 rfl ?_
  refine w_store_b (new := [.d (.int .i64 t34), .d (.int .i64 (w64 (t36 + 1)))]) rfl szg120 hH (i := 0) rfl rfl rfl rfl rfl (Nat.le_of_ble_eq_true rfl) (fun H' hH => ?_)
  refine w_nil ?_
  refine n_seq rfl ?_
  refine p_ret rfl (con_ret ?_)
  cases h
  exact pdF (.inl rfl) (ra_cell (.agg [.d (.int .i64 t34), .d (.int .i64 (w64 (t36 + 1)))]) szg120 hH (i := 0) rfl rfl rfl (ra_nil)) (FS.agg (FS.d (FS.d (FS.nil hH))) (fun _ hH => FS.nil hH))
set_option maxHeartbeats 4000000 in
theorem tree_asks_ok (op : Int) (r : A2 Int) (h : tree_asks op = some r) : callD C 66 [(.int .i64 op)] = some [((A2.enc (Dat.int .i64)) r)] := by
  refine callD_at (ext0 _ _) fn66 rfl ?_
  refine jmp 0 _ rfl ?_
  refine p_seq rfl ?_
  refine p_region rfl ?_
  refine alloc_z rfl zero120 (HP.nil _ _) (fun b1055 H' n' hH => ?_)
  refine w_nil ?_
  refine n_seq rfl ?_
  refine p_seq rfl ?_
  refine p_block rfl ?_
  refine p_seq rfl ?_
  refine p_region rfl ?_
  refine w_move_d rfl rfl ?_
  refine w_cmp h rfl rfl (fun _ h => ?_) (fun _ h => ?_)
  · refine w_move_d rfl rfl ?_
    refine w_skip rfl ?_
    refine w_skip rfl ?_
    refine w_pick_td rfl rfl rfl ?_
    refine w_assign_d rfl rfl ?_
    refine w_nil ?_
    refine n_seq rfl ?_
    refine p_cond_t rfl rfl ?_
    exact jmp 0 _ rfl (jmp 2 _ rfl (tree_asks_k1_ok _ _ _ h _ _ _ _ hH))
  refine w_move_d rfl rfl ?_
  refine w_move_d rfl rfl ?_
  refine w_cmp h rfl rfl (fun _ h => ?_) (fun _ h => ?_)
  · refine w_pick_fd rfl rfl rfl ?_
    refine w_assign_d rfl rfl ?_
    refine w_nil ?_
    refine n_seq rfl ?_
    refine p_cond_t rfl rfl ?_
    exact jmp 0 _ rfl (jmp 2 _ rfl (tree_asks_k1_ok _ _ _ h _ _ _ _ hH))
  refine w_pick_fd rfl rfl rfl ?_
  refine w_assign_d rfl rfl ?_
  refine w_nil ?_
  refine n_seq rfl ?_
  refine p_cond_f rfl rfl ?_
  refine p_seq rfl ?_
  refine p_region rfl ?_
  refine w_move_d rfl rfl ?_
  refine w_cmp h rfl rfl (fun _ h => ?_) (fun _ h => ?_)
  · refine w_move_d rfl rfl ?_
    refine w_move_d rfl rfl ?_
    refine w_cmp h rfl rfl (fun _ h => ?_) (fun _ h => ?_)
    · refine w_pick_td rfl rfl rfl ?_
      refine w_assign_d rfl rfl ?_
      refine w_nil ?_
      refine n_seq rfl ?_
      refine p_cond_t rfl rfl ?_
      refine p_seq rfl ?_
      refine p_region rfl ?_
      refine w_buildA (cs := [.d (.int .i64 5), .d (.int .i64 5)]) rfl zero120 arr120 szg3 rfl ?_
      refine w_store_b (new := [.d (.int .i64 5), .d (.int .i64 5)]) rfl szg120 hH (i := 0) rfl rfl rfl rfl rfl (Nat.le_of_ble_eq_true rfl) (fun H' hH => ?_)
      refine w_nil ?_
      refine n_seq rfl ?_
      refine p_ret rfl (con_ret ?_)
      cases h
      exact pdF (.inl rfl) (ra_cell (.agg [.d (.int .i64 5), .d (.int .i64 5)]) szg120 hH (i := 0) rfl rfl rfl (ra_nil)) (FS.agg (FS.d (FS.d (FS.nil hH))) (fun _ hH => FS.nil hH))
    refine w_pick_td rfl rfl rfl ?_
    refine w_assign_d rfl rfl ?_
    refine w_nil ?_
    refine n_seq rfl ?_
    refine p_cond_f rfl rfl ?_
    exact jmp 0 _ rfl (jmp 2 _ rfl (tree_asks_k3_ok _ _ _ h _ _ _ _ hH))
  refine w_move_d rfl rfl ?_
  refine w_skip rfl ?_
  refine w_skip rfl ?_
  refine w_pick_fd rfl rfl rfl ?_
  refine w_assign_d rfl rfl ?_
  refine w_nil ?_
  refine n_seq rfl ?_
  refine p_cond_f rfl rfl ?_
  exact jmp 0 _ rfl (jmp 2 _ rfl (tree_asks_k3_ok _ _ _ h _ _ _ _ hH))
def tree_Nest_L1_m (t18F : List NodeT) (t19F : Int) : tree_Nest_L1_S → Int → Prop := fun st r => match st with
    | .c0 stack t20 => ∀ (w0 : AV) (g : Nat → AV) (H : Hs) (n : Nat) (hH : HP H n [.own w0 ⟨119, 2⟩ (stack.map Tree_deepT.enc)]), PAt C (bodyOf Tryd.f14) (.a (.b (.a (.b (.b (.b .o)))))) ⟨upd (upd (upd (upd g 3 (w0)) 18 (.d (.lst (t18F.map NodeT.enc)))) 19 (.d (.int .i64 t19F))) 20 (.d (.int .i64 t20)), H, n⟩ (PostD C Tryd.f14 [(.int .i64 r)])
    | .c1 stack n_ k d want t20 t38lo t39 t40 => ∀ (w0 : AV) (b1 : Nat) (b2 : Nat) (b3 : Nat) (g : Nat → AV) (H : Hs) (n : Nat) (hH : HP H n [.own w0 ⟨119, 2⟩ (stack.map Tree_deepT.enc), .box b1 [.d (.int .i64 n_.Op), .d (.int .i32 n_.Val), .d (.str n_.Name), .d (.int .i64 n_.At.Line), .d (.int .i64 n_.At.Col)], .box b2 [.d (.int .i64 d.op), .d (.int .i64 d.nest)], .box b3 [.d (.int .i64 want.e0), .d (.int .i64 want.e1)]]), PAt C (bodyOf Tryd.f14) (.a (.b (.a (.b (.b (.b (.b (.a (.a (.b (.b (.a (.a (.b (.a (.b (.b (.b .o)))))))))))))))))) ⟨upd (upd (upd (upd (upd (upd (upd (upd (upd (upd (upd g 3 (w0)) 5 (.pt b1 0)) 6 (.d (.int .i64 k))) 7 (.pt b2 0)) 8 (.pt b3 0)) 18 (.d (.lst (t18F.map NodeT.enc)))) 19 (.d (.int .i64 t19F))) 20 (.d (.int .i64 t20))) 38 (tailA w0 t38lo.toNat stack.length)) 39 (.d (.int .i64 t39))) 40 (.d (.int .i64 t40)), H, n⟩ (PostD C Tryd.f14 [(.int .i64 r)])
    | .c2 stack n_ k d want nest t20 t38lo t39 t40 => ∀ (w0 : AV) (b1 : Nat) (b2 : Nat) (b3 : Nat) (g : Nat → AV) (H : Hs) (n : Nat) (hH : HP H n [.own w0 ⟨119, 2⟩ (stack.map Tree_deepT.enc), .box b1 [.d (.int .i64 n_.Op), .d (.int .i32 n_.Val), .d (.str n_.Name), .d (.int .i64 n_.At.Line), .d (.int .i64 n_.At.Col)], .box b2 [.d (.int .i64 d.op), .d (.int .i64 d.nest)], .box b3 [.d (.int .i64 want.e0), .d (.int .i64 want.e1)]]), PAt C (bodyOf Tryd.f14) (.b (.b (.b (.a (.a (.b (.b (.a (.a (.b (.a (.b (.b (.b (.b (.a (.a (.b (.b (.a (.a (.b (.a (.b (.b (.b .o)))))))))))))))))))))))))) ⟨upd (upd (upd (upd (upd (upd (upd (upd (upd (upd (upd (upd g 3 (w0)) 5 (.pt b1 0)) 6 (.d (.int .i64 k))) 7 (.pt b2 0)) 8 (.pt b3 0)) 11 (.d (.int .i64 nest))) 18 (.d (.lst (t18F.map NodeT.enc)))) 19 (.d (.int .i64 t19F))) 20 (.d (.int .i64 t20))) 38 (tailA w0 t38lo.toNat stack.length)) 39 (.d (.int .i64 t39))) 40 (.d (.int .i64 t40)), H, n⟩ (PostD C Tryd.f14 [(.int .i64 r)])
    | .c3 stack d t20 => ∀ (w0 : AV) (b1 : Nat) (g : Nat → AV) (H : Hs) (n : Nat) (hH : HP H n [.own w0 ⟨119, 2⟩ (stack.map Tree_deepT.enc), .box b1 [.d (.int .i64 d.op), .d (.int .i64 d.nest)]]), PAt C (bodyOf Tryd.f14) (.a (.b (.a (.b (.a (.b (.b (.b (.b (.b (.b (.a (.a (.b (.b (.a (.a (.b (.a (.b (.b (.b .o)))))))))))))))))))))) ⟨upd (upd (upd (upd (upd g 3 (w0)) 7 (.pt b1 0)) 18 (.d (.lst (t18F.map NodeT.enc)))) 19 (.d (.int .i64 t19F))) 20 (.d (.int .i64 t20)), H, n⟩ (PostD C Tryd.f14 [(.int .i64 r)])
    | .c4 stack d t20 => ∀ (w0 : AV) (b1 : Nat) (g : Nat → AV) (H : Hs) (n : Nat) (hH : HP H n [.own w0 ⟨119, 2⟩ (stack.map Tree_deepT.enc), .box b1 [.d (.int .i64 d.op), .d (.int .i64 d.nest)]]), PAt C (bodyOf Tryd.f14) (.b (.b (.b (.b (.b (.b (.b (.a (.a (.b (.b (.a (.a (.b (.a (.b (.b (.b .o)))))))))))))))))) ⟨upd (upd (upd (upd (upd g 3 (w0)) 7 (.pt b1 0)) 18 (.d (.lst (t18F.map NodeT.enc)))) 19 (.d (.int .i64 t19F))) 20 (.d (.int .i64 t20)), H, n⟩ (PostD C Tryd.f14 [(.int .i64 r)])
set_option maxHeartbeats 4000000 in
theorem tree_Nest_L1_run_ok (t18F : List NodeT) (t19F : Int) (st : tree_Nest_L1_S) (r : Int) (h : tree_Nest_L1_run t18F t19F st = some r) : tree_Nest_L1_m t18F t19F st r := by
  refine tree_Nest_L1_run.partial_correctness t18F t19F (tree_Nest_L1_m t18F t19F) (fun tree_Nest_L1_run' ih_ st r h => ?_) st r h
  cases st with
  | c0 stack t20 =>
    intro w0 g H n hH
    refine p_loop rfl ?_
    refine p_seq rfl ?_
    refine p_region rfl ?_
    refine w_cmp h rfl rfl (fun _ h => ?_) (fun _ h => ?_)
    · refine w_nil ?_
      refine n_seq rfl ?_
      refine p_seq rfl ?_
      refine p_cond_t rfl rfl ?_
      refine p_skip rfl ?_
      refine n_cond rfl ?_
      refine n_seq rfl ?_
      refine p_seq rfl ?_
      refine p_block rfl ?_
      refine p_seq rfl ?_
      refine p_region rfl ?_
      refine w_idx h rfl elem22 szg115 (fun _ => rfl) rfl rfl (fun t22 h => ?_)
      refine w_load_d (d := (NodeT.enc t22)) rfl szg115 rfl rfl ?_
      refine alloc_z rfl zero115 hH (fun b1068 H' n' hH => ?_)
      refine w_store_b (new := [.d (.int .i64 t22.Op), .d (.int .i32 t22.Val), .d (.str t22.Name), .d (.int .i64 t22.At.Line), .d (.int .i64 t22.At.Col)]) rfl szg115 hH (i := 0) rfl rfl rfl rfl rfl (Nat.le_of_ble_eq_true rfl) (fun H' hH => ?_)
      refine w_nil ?_
      refine n_seq rfl ?_
      refine p_seq rfl ?_
      refine p_region rfl ?_
      refine w_faddr_b rfl fo115_0 (by decide) rfl 0 rfl ?_
      refine w_load_bd rfl szg3 hH (i := 0) rfl rfl rfl ?_
      refine w_scal (E := (fun y => [(.int .i64 y)])) h rfl sig65 (sc rfl (sn)) (fun y hy => arith_Arity_ok _ y hy) (fun _ => rfl) (fun t26 h => ?_)
      refine w_assign_d rfl rfl ?_
      refine w_nil ?_
      refine n_seq rfl ?_
      refine p_seq rfl ?_
      refine p_region rfl ?_
      refine w_faddr_b rfl fo115_0 (by decide) rfl 0 rfl ?_
      refine w_load_bd rfl szg3 hH (i := 0) rfl rfl rfl ?_
      refine w_build (cs := [.d (.int .i64 t22.Op), .d (.int .i64 0)]) rfl zero119 places119 rfl ?_
      refine alloc_z rfl zero119 hH (fun b1069 H' n' hH => ?_)
      refine w_store_b (new := [.d (.int .i64 t22.Op), .d (.int .i64 0)]) rfl szg119 hH (i := 0) rfl rfl rfl rfl rfl (Nat.le_of_ble_eq_true rfl) (fun H' hH => ?_)
      refine w_nil ?_
      refine n_seq rfl ?_
      refine p_seq rfl ?_
      refine p_region rfl ?_
      refine w_faddr_b rfl fo115_0 (by decide) rfl 0 rfl ?_
      refine w_load_bd rfl szg3 hH (i := 1) rfl rfl rfl ?_
      refine w_scal (E := (fun y => [((A2.enc (Dat.int .i64)) y)])) h rfl sig66 (sc rfl (sn)) (fun y hy => tree_asks_ok _ y hy) (fun _ => rfl) (fun t32 h => ?_)
      refine alloc_z rfl zero120 hH (fun b1070 H' n' hH => ?_)
      refine w_store_b (new := [.d (.int .i64 t32.e0), .d (.int .i64 t32.e1)]) rfl szg120 hH (i := 0) rfl rfl rfl rfl rfl (Nat.le_of_ble_eq_true rfl) (fun H' hH => ?_)
      refine w_nil ?_
      refine n_seq rfl ?_
      refine p_seq rfl ?_
      refine p_seq rfl ?_
      refine p_region rfl ?_
      refine w_move_v (w0) rfl rfl ?_
      refine w_move_v (w0) rfl rfl ?_
      refine w_len_own rfl elem117 hH (j := 3) rfl rfl ?_
      refine w_move_d rfl rfl ?_
      refine w_bin rfl rfl ?_
      refine w_view h rfl elem117 szg119 hH (j := 3) rfl rfl rfl (fun h => ?_)
      refine w_len_view rfl elem117 hH (j := 3) rfl rfl ?_
      refine w_move_d rfl rfl ?_
      refine w_nil ?_
      refine n_seq rfl ?_
      refine p_block rfl ?_
      exact jmp 3 _ rfl (jmp 5 _ rfl (jmp 6 _ rfl (jmp 7 _ rfl (jmp 8 _ rfl (jmp 18 _ rfl (jmp 19 _ rfl (jmp 20 _ rfl (jmp 38 _ rfl (jmp 39 _ rfl (jmp 40 _ rfl (ih_ (.c1 _ _ _ _ _ _ _ _ _) _ h _ _ _ _ _ _ _ (hH.sel [3, 2, 1, 0] (by decide)))))))))))))
    refine w_nil ?_
    refine n_seq rfl ?_
    refine p_seq rfl ?_
    refine p_cond_f rfl rfl ?_
    refine p_exit rfl ?_
    refine n_b ?_
    refine x_seq rfl ?_
    refine n_b ?_
    refine x_loop rfl ?_
    refine x_blk rfl ?_
    refine n_b ?_
    refine n_seq rfl ?_
    refine p_seq rfl ?_
    refine p_region rfl ?_
    refine w_move_v (w0) rfl rfl ?_
    refine w_idx_own h rfl elem117 szg119 hH (j := 0) rfl rfl rfl (fun i71 t86 h hl71 hv71 => ?_)
    refine w_faddr_e rfl fo119_1 (by decide) rfl 1 rfl ?_
    refine w_load_e rfl szg3 hH (j := 0) rfl hl71 rfl hv71 rfl ?_
    refine w_assign_d rfl rfl ?_
    refine w_nil ?_
    refine n_seq rfl ?_
    refine p_ret rfl (con_ret ?_)
    cases h
    exact pd (.inl rfl) rfl rfl
  | c1 stack n_ k d want t20 t38lo t39 t40 =>
    intro w0 b1 b2 b3 g H n hH
    refine p_loop rfl ?_
    refine p_seq rfl ?_
    refine p_region rfl ?_
    refine w_cmp h rfl rfl (fun _ h => ?_) (fun _ h => ?_)
    · refine w_nil ?_
      refine n_seq rfl ?_
      refine p_seq rfl ?_
      refine p_cond_t rfl rfl ?_
      refine p_skip rfl ?_
      refine n_cond rfl ?_
      refine n_seq rfl ?_
      refine p_seq rfl ?_
      refine p_block rfl ?_
      refine p_seq rfl ?_
      refine p_region rfl ?_
      refine w_move_d rfl rfl ?_
      refine w_idx_view h rfl elem117 szg119 hH (j := 0) rfl rfl rfl (fun i72 t43 h hl72 hv72 => ?_)
      refine w_load_e (d := (Tree_deepT.enc t43)) rfl szg119 hH (j := 0) rfl hl72 rfl hv72 rfl ?_
      refine alloc_z rfl zero119 hH (fun b1073 H' n' hH => ?_)
      refine w_assign_d rfl rfl ?_
      refine w_store_b (new := [.d (.int .i64 t43.op), .d (.int .i64 t43.nest)]) rfl szg119 hH (i := 0) rfl rfl rfl rfl rfl (Nat.le_of_ble_eq_true rfl) (fun H' hH => ?_)
      refine w_nil ?_
      refine n_seq rfl ?_
      refine p_seq rfl ?_
      refine p_region rfl ?_
      refine w_faddr_b rfl fo119_1 (by decide) rfl 1 rfl ?_
      refine w_load_bd rfl szg3 hH (i := 0) rfl rfl rfl ?_
      refine w_assign_d rfl rfl ?_
      refine w_nil ?_
      refine n_seq rfl ?_
      refine p_seq rfl ?_
      refine p_seq rfl ?_
      refine p_calm rfl (by kernel_rfl) ?_
      refine w_faddr_b rfl fo119_0 (by decide) rfl 0 rfl ?_
      refine w_load_bd rfl szg3 hH (i := 0) rfl rfl rfl ?_
      refine w_scal (E := (fun y => [(.int .i64 y)])) h rfl sig67 (sc rfl (sn)) (fun y hy => tree_level_ok _ y hy) (fun _ => rfl) (fun t49 h => ?_)
      refine w_move_d rfl rfl ?_
      refine w_iaddr_b2 (f := (Dat.int .i64)) (cs := [.d (.int .i64 want.e0), .d (.int .i64 want.e1)]) h rfl arr120 nel120 szg3 rfl rfl rfl (fun t51 o74 h hx74 => ?_)
      refine w_load_x rfl szg3 hH (i := 4) rfl rfl hx74 ?_
      refine w_cmp h rfl rfl (fun _ h => ?_) (fun _ h => ?_)
      · refine w_nil ?_
        refine n_seq rfl ?_
        refine p_cond_t rfl rfl ?_
        refine p_region rfl ?_
        refine w_move_d rfl rfl ?_
        refine w_bin rfl rfl ?_
        refine w_assign_d rfl rfl ?_
        refine w_nil ?_
        refine n_cond rfl ?_
        refine n_b ?_
        refine n_seq rfl ?_
        exact jmp 3 _ rfl (jmp 5 _ rfl (jmp 6 _ rfl (jmp 7 _ rfl (jmp 8 _ rfl (jmp 11 _ rfl (jmp 18 _ rfl (jmp 19 _ rfl (jmp 20 _ rfl (jmp 38 _ rfl (jmp 39 _ rfl (jmp 40 _ rfl (ih_ (.c2 _ _ _ _ _ _ _ _ _ _) _ h _ _ _ _ _ _ _ (hH.sel [1, 2, 3, 4] (by decide))))))))))))))
      refine w_nil ?_
      refine n_seq rfl ?_
      refine p_cond_f rfl rfl ?_
      refine p_skip rfl ?_
      refine n_b ?_
      refine n_b ?_
      refine n_seq rfl ?_
      exact jmp 3 _ rfl (jmp 5 _ rfl (jmp 6 _ rfl (jmp 7 _ rfl (jmp 8 _ rfl (jmp 11 _ rfl (jmp 18 _ rfl (jmp 19 _ rfl (jmp 20 _ rfl (jmp 38 _ rfl (jmp 39 _ rfl (jmp 40 _ rfl (ih_ (.c2 _ _ _ _ _ _ _ _ _ _) _ h _ _ _ _ _ _ _ (hH.sel [1, 2, 3, 4] (by decide))))))))))))))
    refine w_nil ?_
    refine n_seq rfl ?_
    refine p_seq rfl ?_
    refine p_cond_f rfl rfl ?_
    refine p_exit rfl ?_
    refine n_b ?_
    refine x_seq rfl ?_
    refine n_b ?_
    refine x_loop rfl ?_
    refine x_blk rfl ?_
    refine n_b ?_
    refine n_seq rfl ?_
    refine p_seq rfl ?_
    refine p_region rfl ?_
    refine w_move_v (w0) rfl rfl ?_
    refine w_move_v (w0) rfl rfl ?_
    refine w_len_own rfl elem117 hH (j := 0) rfl rfl ?_
    refine w_move_d rfl rfl ?_
    refine w_bin rfl rfl ?_
    refine w_cut_own h rfl elem117 szg119 hH (j := 0) rfl rfl lh_nh (fun t67 w1075 H' n' h hH => ?_)
    refine w_assign_v (w1075) rfl rfl ?_
    refine w_nil ?_
    refine n_seq rfl ?_
    refine p_seq rfl ?_
    refine p_seq rfl ?_
    refine p_region rfl ?_
    refine w_faddr_b rfl fo115_0 (by decide) rfl 0 rfl ?_
    refine w_load_bd rfl szg3 hH (i := 1) rfl rfl rfl ?_
    refine w_nil ?_
    refine n_seq rfl ?_
    refine p_block rfl ?_
    refine p_seq rfl ?_
    refine p_seq rfl ?_
    refine p_region rfl ?_
    refine w_cmp h rfl rfl (fun _ h => ?_) (fun _ h => ?_)
    · refine w_assign_d rfl rfl ?_
      refine w_nil ?_
      refine n_seq rfl ?_
      refine p_cond_t rfl rfl ?_
      refine p_skip rfl ?_
      refine n_cond rfl ?_
      refine n_b ?_
      refine n_seq rfl ?_
      refine p_cond_t rfl rfl ?_
      exact jmp 3 _ rfl (jmp 7 _ rfl (jmp 18 _ rfl (jmp 19 _ rfl (jmp 20 _ rfl (ih_ (.c3 _ _ _) _ h _ _ _ _ _ (hH.sel [0, 2] (by decide)))))))
    refine w_assign_d rfl rfl ?_
    refine w_nil ?_
    refine n_seq rfl ?_
    refine p_cond_f rfl rfl ?_
    refine p_seq rfl ?_
    refine p_region rfl ?_
    refine w_cmp h rfl rfl (fun _ h => ?_) (fun _ h => ?_)
    · refine w_assign_d rfl rfl ?_
      refine w_nil ?_
      refine n_seq rfl ?_
      refine p_cond_t rfl rfl ?_
      refine p_skip rfl ?_
      refine n_cond rfl ?_
      refine n_b ?_
      refine n_b ?_
      refine n_b ?_
      refine n_seq rfl ?_
      refine p_cond_t rfl rfl ?_
      exact jmp 3 _ rfl (jmp 7 _ rfl (jmp 18 _ rfl (jmp 19 _ rfl (jmp 20 _ rfl (ih_ (.c3 _ _ _) _ h _ _ _ _ _ (hH.sel [0, 2] (by decide)))))))
    refine w_assign_d rfl rfl ?_
    refine w_nil ?_
    refine n_seq rfl ?_
    refine p_cond_f rfl rfl ?_
    refine p_seq rfl ?_
    refine p_region rfl ?_
    refine w_cmp h rfl rfl (fun _ h => ?_) (fun _ h => ?_)
    · refine w_assign_d rfl rfl ?_
      refine w_nil ?_
      refine n_seq rfl ?_
      refine p_cond_t rfl rfl ?_
      refine p_skip rfl ?_
      refine n_cond rfl ?_
      refine n_b ?_
      refine n_b ?_
      refine n_b ?_
      refine n_b ?_
      refine n_b ?_
      refine n_seq rfl ?_
      refine p_cond_t rfl rfl ?_
      exact jmp 3 _ rfl (jmp 7 _ rfl (jmp 18 _ rfl (jmp 19 _ rfl (jmp 20 _ rfl (ih_ (.c3 _ _ _) _ h _ _ _ _ _ (hH.sel [0, 2] (by decide)))))))
    refine w_assign_d rfl rfl ?_
    refine w_nil ?_
    refine n_seq rfl ?_
    refine p_cond_f rfl rfl ?_
    refine p_seq rfl ?_
    refine p_region rfl ?_
    refine w_cmp h rfl rfl (fun _ h => ?_) (fun _ h => ?_)
    · refine w_assign_d rfl rfl ?_
      refine w_nil ?_
      refine n_seq rfl ?_
      refine p_cond_t rfl rfl ?_
      refine p_skip rfl ?_
      refine n_cond rfl ?_
      refine n_b ?_
      refine n_b ?_
      refine n_b ?_
      refine n_b ?_
      refine n_b ?_
      refine n_b ?_
      refine n_b ?_
      refine n_seq rfl ?_
      refine p_cond_t rfl rfl ?_
      exact jmp 3 _ rfl (jmp 7 _ rfl (jmp 18 _ rfl (jmp 19 _ rfl (jmp 20 _ rfl (ih_ (.c3 _ _ _) _ h _ _ _ _ _ (hH.sel [0, 2] (by decide)))))))
    refine w_assign_d rfl rfl ?_
    refine w_nil ?_
    refine n_seq rfl ?_
    refine p_cond_f rfl rfl ?_
    refine p_region rfl ?_
    refine w_cmp h rfl rfl (fun _ h => ?_) (fun _ h => ?_)
    · refine w_assign_d rfl rfl ?_
      refine w_nil ?_
      refine n_b ?_
      refine n_b ?_
      refine n_b ?_
      refine n_b ?_
      refine n_b ?_
      refine n_b ?_
      refine n_b ?_
      refine n_b ?_
      refine n_seq rfl ?_
      refine p_cond_t rfl rfl ?_
      exact jmp 3 _ rfl (jmp 7 _ rfl (jmp 18 _ rfl (jmp 19 _ rfl (jmp 20 _ rfl (ih_ (.c3 _ _ _) _ h _ _ _ _ _ (hH.sel [0, 2] (by decide)))))))
    refine w_assign_d rfl rfl ?_
    refine w_nil ?_
    refine n_b ?_
    refine n_b ?_
    refine n_b ?_
    refine n_b ?_
    refine n_b ?_
    refine n_b ?_
    refine n_b ?_
    refine n_b ?_
    refine n_seq rfl ?_
    refine p_cond_f rfl rfl ?_
    refine p_skip rfl ?_
    refine n_b ?_
    refine n_b ?_
    refine n_blk rfl ?_
    refine n_b ?_
    refine n_seq rfl ?_
    exact jmp 3 _ rfl (jmp 7 _ rfl (jmp 18 _ rfl (jmp 19 _ rfl (jmp 20 _ rfl (ih_ (.c4 _ _ _) _ h _ _ _ _ _ (hH.sel [0, 2] (by decide)))))))
  | c2 stack n_ k d want nest t20 t38lo t39 t40 =>
    intro w0 b1 b2 b3 g H n hH
    refine p_region rfl ?_
    refine w_faddr_b rfl fo119_1 (by decide) rfl 1 rfl ?_
    refine w_load_bd rfl szg3 hH (i := 2) rfl rfl rfl ?_
    refine w_move_d rfl rfl ?_
    refine w_max rfl rfl rfl ?_
    refine w_faddr_b rfl fo119_1 (by decide) rfl 1 rfl ?_
    refine w_store_bd rfl szg3 hH (i := 2) rfl rfl rfl rfl rfl (Nat.le_of_ble_eq_true rfl) (fun H' hH => ?_)
    refine w_nil ?_
    refine n_b ?_
    refine n_b ?_
    refine n_b ?_
    refine n_blk rfl ?_
    refine n_seq rfl ?_
    refine p_region rfl ?_
    refine w_bin rfl rfl ?_
    refine w_move_d rfl rfl ?_
    refine w_nil ?_
    refine n_b ?_
    refine n_b ?_
    refine n_b ?_
    refine n_loop rfl ?_
    exact jmp 3 _ rfl (jmp 5 _ rfl (jmp 6 _ rfl (jmp 7 _ rfl (jmp 8 _ rfl (jmp 18 _ rfl (jmp 19 _ rfl (jmp 20 _ rfl (jmp 38 _ rfl (jmp 39 _ rfl (jmp 40 _ rfl (ih_ (.c1 _ _ _ _ _ _ _ _ _) _ h _ _ _ _ _ _ _ hH)))))))))))
  | c3 stack d t20 =>
    intro w0 b1 g H n hH
    refine p_region rfl ?_
    refine w_faddr_b rfl fo119_1 (by decide) rfl 1 rfl ?_
    refine w_load_bd rfl szg3 hH (i := 1) rfl rfl rfl ?_
    refine w_bin rfl rfl ?_
    refine w_faddr_b rfl fo119_1 (by decide) rfl 1 rfl ?_
    refine w_store_bd rfl szg3 hH (i := 1) rfl rfl rfl rfl rfl (Nat.le_of_ble_eq_true rfl) (fun H' hH => ?_)
    refine w_nil ?_
    refine n_cond rfl ?_
    refine n_b ?_
    refine n_blk rfl ?_
    refine n_b ?_
    refine n_seq rfl ?_
    exact jmp 3 _ rfl (jmp 7 _ rfl (jmp 18 _ rfl (jmp 19 _ rfl (jmp 20 _ rfl (ih_ (.c4 _ _ _) _ h _ _ _ _ _ hH)))))
  | c4 stack d t20 =>
    intro w0 b1 g H n hH
    refine p_region rfl ?_
    refine w_move_v (w0) rfl rfl ?_
    refine w_load_b (v := .agg [.d (.int .i64 d.op), .d (.int .i64 d.nest)]) rfl szg119 hH (i := 1) rfl rfl rfl ?_
    refine w_bslice1 (enc := Tree_deepT.enc) (e := d) (.agg [.d (.int .i64 d.op), .d (.int .i64 d.nest)]) rfl elem117 szg119 zero119 (by decide) zd119 (fun _ => rfl) (fun _ => rfl) rfl (FS.agg (FS.d (FS.d (FS.nil hH))) (fun _ hH => FS.nil hH)) (fun w1076 H' n' hH => ?_)
    refine w_append (enc := Tree_deepT.enc) h rfl elem117 szg119 bytes119 (by decide) (fun _ => rfl) hH (j := 1) rfl rfl (shows_own hH (j := 0) rfl) (fun t83 w1077 H' n' h hH => ?_)
    refine w_assign_v (w1077) rfl rfl ?_
    refine w_nil ?_
    refine n_b ?_
    refine n_b ?_
    refine n_b ?_
    refine n_b ?_
    refine n_b ?_
    refine n_b ?_
    refine n_b ?_
    refine n_blk rfl ?_
    refine n_seq rfl ?_
    refine p_region rfl ?_
    refine w_bin rfl rfl ?_
    refine w_move_d rfl rfl ?_
    refine w_nil ?_
    refine n_b ?_
    refine n_b ?_
    refine n_b ?_
    refine n_loop rfl ?_
    exact jmp 3 _ rfl (jmp 18 _ rfl (jmp 19 _ rfl (jmp 20 _ rfl (ih_ (.c0 _ _) _ h _ _ _ _ (hH.sel [0] (by decide))))))
theorem tree_Nest_L1_ok (stack : List Tree_deepT) (t18F : List NodeT) (t19F : Int) (t20 : Int) (r : Int) (h : tree_Nest_L1 stack t18F t19F t20 = some r) (w0 : AV) (g : Nat → AV) (H : Hs) (n : Nat) (hH : HP H n [.own w0 ⟨119, 2⟩ (stack.map Tree_deepT.enc)]) : PAt C (bodyOf Tryd.f14) (.a (.b (.a (.b (.b (.b .o)))))) ⟨upd (upd (upd (upd g 3 (w0)) 18 (.d (.lst (t18F.map NodeT.enc)))) 19 (.d (.int .i64 t19F))) 20 (.d (.int .i64 t20)), H, n⟩ (PostD C Tryd.f14 [(.int .i64 r)]) := tree_Nest_L1_run_ok t18F t19F (.c0 stack t20) r h w0 g H n hH
theorem tree_Nest_L2_ok (stack : List Tree_deepT) (n_ : NodeT) (k : Int) (d : Tree_deepT) (want : A2 Int) (t18F : List NodeT) (t19F : Int) (t20 : Int) (t38lo : Int) (t39 : Int) (t40 : Int) (r : Int) (h : tree_Nest_L2 stack n_ k d want t18F t19F t20 t38lo t39 t40 = some r) (w0 : AV) (b1 : Nat) (b2 : Nat) (b3 : Nat) (g : Nat → AV) (H : Hs) (n : Nat) (hH : HP H n [.own w0 ⟨119, 2⟩ (stack.map Tree_deepT.enc), .box b1 [.d (.int .i64 n_.Op), .d (.int .i32 n_.Val), .d (.str n_.Name), .d (.int .i64 n_.At.Line), .d (.int .i64 n_.At.Col)], .box b2 [.d (.int .i64 d.op), .d (.int .i64 d.nest)], .box b3 [.d (.int .i64 want.e0), .d (.int .i64 want.e1)]]) : PAt C (bodyOf Tryd.f14) (.a (.b (.a (.b (.b (.b (.b (.a (.a (.b (.b (.a (.a (.b (.a (.b (.b (.b .o)))))))))))))))))) ⟨upd (upd (upd (upd (upd (upd (upd (upd (upd (upd (upd g 3 (w0)) 5 (.pt b1 0)) 6 (.d (.int .i64 k))) 7 (.pt b2 0)) 8 (.pt b3 0)) 18 (.d (.lst (t18F.map NodeT.enc)))) 19 (.d (.int .i64 t19F))) 20 (.d (.int .i64 t20))) 38 (tailA w0 t38lo.toNat stack.length)) 39 (.d (.int .i64 t39))) 40 (.d (.int .i64 t40)), H, n⟩ (PostD C Tryd.f14 [(.int .i64 r)]) := tree_Nest_L1_run_ok t18F t19F (.c1 stack n_ k d want t20 t38lo t39 t40) r h w0 b1 b2 b3 g H n hH
theorem tree_Nest_k3_ok (stack : List Tree_deepT) (n_ : NodeT) (k : Int) (d : Tree_deepT) (want : A2 Int) (nest : Int) (t18F : List NodeT) (t19F : Int) (t20 : Int) (t38lo : Int) (t39 : Int) (t40 : Int) (r : Int) (h : tree_Nest_k3 stack n_ k d want nest t18F t19F t20 t38lo t39 t40 = some r) (w0 : AV) (b1 : Nat) (b2 : Nat) (b3 : Nat) (g : Nat → AV) (H : Hs) (n : Nat) (hH : HP H n [.own w0 ⟨119, 2⟩ (stack.map Tree_deepT.enc), .box b1 [.d (.int .i64 n_.Op), .d (.int .i32 n_.Val), .d (.str n_.Name), .d (.int .i64 n_.At.Line), .d (.int .i64 n_.At.Col)], .box b2 [.d (.int .i64 d.op), .d (.int .i64 d.nest)], .box b3 [.d (.int .i64 want.e0), .d (.int .i64 want.e1)]]) : PAt C (bodyOf Tryd.f14) (.b (.b (.b (.a (.a (.b (.b (.a (.a (.b (.a (.b (.b (.b (.b (.a (.a (.b (.b (.a (.a (.b (.a (.b (.b (.b .o)))))))))))))))))))))))))) ⟨upd (upd (upd (upd (upd (upd (upd (upd (upd (upd (upd (upd g 3 (w0)) 5 (.pt b1 0)) 6 (.d (.int .i64 k))) 7 (.pt b2 0)) 8 (.pt b3 0)) 11 (.d (.int .i64 nest))) 18 (.d (.lst (t18F.map NodeT.enc)))) 19 (.d (.int .i64 t19F))) 20 (.d (.int .i64 t20))) 38 (tailA w0 t38lo.toNat stack.length)) 39 (.d (.int .i64 t39))) 40 (.d (.int .i64 t40)), H, n⟩ (PostD C Tryd.f14 [(.int .i64 r)]) := tree_Nest_L1_run_ok t18F t19F (.c2 stack n_ k d want nest t20 t38lo t39 t40) r h w0 b1 b2 b3 g H n hH
theorem tree_Nest_k4_ok (stack : List Tree_deepT) (d : Tree_deepT) (t18F : List NodeT) (t19F : Int) (t20 : Int) (r : Int) (h : tree_Nest_k4 stack d t18F t19F t20 = some r) (w0 : AV) (b1 : Nat) (g : Nat → AV) (H : Hs) (n : Nat) (hH : HP H n [.own w0 ⟨119, 2⟩ (stack.map Tree_deepT.enc), .box b1 [.d (.int .i64 d.op), .d (.int .i64 d.nest)]]) : PAt C (bodyOf Tryd.f14) (.a (.b (.a (.b (.a (.b (.b (.b (.b (.b (.b (.a (.a (.b (.b (.a (.a (.b (.a (.b (.b (.b .o)))))))))))))))))))))) ⟨upd (upd (upd (upd (upd g 3 (w0)) 7 (.pt b1 0)) 18 (.d (.lst (t18F.map NodeT.enc)))) 19 (.d (.int .i64 t19F))) 20 (.d (.int .i64 t20)), H, n⟩ (PostD C Tryd.f14 [(.int .i64 r)]) := tree_Nest_L1_run_ok t18F t19F (.c3 stack d t20) r h w0 b1 g H n hH
theorem tree_Nest_k5_ok (stack : List Tree_deepT) (d : Tree_deepT) (t18F : List NodeT) (t19F : Int) (t20 : Int) (r : Int) (h : tree_Nest_k5 stack d t18F t19F t20 = some r) (w0 : AV) (b1 : Nat) (g : Nat → AV) (H : Hs) (n : Nat) (hH : HP H n [.own w0 ⟨119, 2⟩ (stack.map Tree_deepT.enc), .box b1 [.d (.int .i64 d.op), .d (.int .i64 d.nest)]]) : PAt C (bodyOf Tryd.f14) (.b (.b (.b (.b (.b (.b (.b (.a (.a (.b (.b (.a (.a (.b (.a (.b (.b (.b .o)))))))))))))))))) ⟨upd (upd (upd (upd (upd g 3 (w0)) 7 (.pt b1 0)) 18 (.d (.lst (t18F.map NodeT.enc)))) 19 (.d (.int .i64 t19F))) 20 (.d (.int .i64 t20)), H, n⟩ (PostD C Tryd.f14 [(.int .i64 r)]) := tree_Nest_L1_run_ok t18F t19F (.c4 stack d t20) r h w0 b1 g H n hH
set_option maxHeartbeats 4000000 in
theorem tree_Nest_ok (e : List NodeT) (r : Int) (h : tree_Nest e = some r) : callD C 14 [(.lst (e.map NodeT.enc))] = some [(.int .i64 r)] := by
  refine callD_at (ext0 _ _) fn14 rfl ?_
  refine jmp 0 _ rfl ?_
  refine p_seq rfl ?_
  refine p_region rfl ?_
  refine w_assign_d rfl rfl ?_
  refine w_nil ?_
  refine n_seq rfl ?_
  refine p_seq rfl ?_
  refine p_seq rfl ?_
  refine p_region rfl ?_
  refine w_move_d rfl rfl ?_
  refine w_move_d rfl rfl ?_
  refine w_len_d rfl elem22 rfl ?_
  refine w_bin rfl rfl ?_
  refine w_scal (E := (fun y => [(.int .i64 y)])) h rfl sig13 (sc rfl (sc rfl (sn))) (fun y hy => tree_Span_ok _ _ y hy) (fun _ => rfl) (fun t16 h => ?_)
  refine w_cmpN h rfl rfl (fun _ h => ?_) (fun _ h => ?_)
  · refine w_nil ?_
    refine n_seq rfl ?_
    refine p_cond_f rfl rfl ?_
    refine p_skip rfl ?_
    refine n_b ?_
    refine n_b ?_
    refine n_seq rfl ?_
    refine p_seq rfl ?_
    refine p_region rfl ?_
    refine w_assign_v (.nil) rfl rfl ?_
    refine w_nil ?_
    refine n_seq rfl ?_
    refine p_seq rfl ?_
    refine p_seq rfl ?_
    refine p_region rfl ?_
    refine w_move_d rfl rfl ?_
    refine w_len_d rfl elem22 rfl ?_
    refine w_move_d rfl rfl ?_
    refine w_nil ?_
    refine n_seq rfl ?_
    refine p_block rfl ?_
    exact jmp 3 _ rfl (jmp 18 _ rfl (jmp 19 _ rfl (jmp 20 _ rfl (tree_Nest_L1_ok _ _ _ _ _ h _ _ _ _ ((HP.nil _ _).addNil (z := ⟨119, 2⟩))))))
  refine w_nil ?_
  refine n_seq rfl ?_
  refine p_cond_t rfl rfl ?_
  refine p_seq rfl ?_
  refine p_region rfl ?_
  refine w_assign_d rfl rfl ?_
  refine w_nil ?_
  refine n_seq rfl ?_
  refine p_ret rfl (con_ret ?_)
  cases h
  exact pd (.inl rfl) rfl rfl
set_option maxHeartbeats 4000000 in
theorem junctionref3_Arity_k1_ok (op : Int) (r : Int) (h : junctionref3_Arity_k1 op = some r) (g : Nat → AV) (H : Hs) (n : Nat) : PAt C (bodyOf Tryd.f68) (.b (.b (.b (.b (.a (.b (.b (.b (.b (.a (.a (.b .o)))))))))))) ⟨upd g 0 (.d (.int .i64 op)), H, n⟩ (PostD C Tryd.f68 [(.int .i64 r)]) := by
  refine p_seq rfl ?_
  refine p_region rfl ?_
  refine w_move_d rfl rfl ?_
  refine w_cmp h rfl rfl (fun _ h => ?_) (fun _ h => ?_)
  · refine w_assign_d rfl rfl ?_
    refine w_nil ?_
    refine n_seq rfl ?_
    refine p_cond_t rfl rfl ?_
    refine p_skip rfl ?_
    refine n_cond rfl ?_
    refine n_b ?_
    refine n_b ?_
    refine n_b ?_
    refine n_b ?_
    refine n_b ?_
    refine n_seq rfl ?_
    refine p_cond_t rfl rfl ?_
    refine p_seq rfl ?_
    refine p_region rfl ?_
    refine w_assign_d rfl rfl ?_
    refine w_nil ?_
    refine n_seq rfl ?_
    refine p_ret rfl (con_ret ?_)
    cases h
    exact pd (.inl rfl) rfl rfl
  refine w_assign_d rfl rfl ?_
  refine w_nil ?_
  refine n_seq rfl ?_
  refine p_cond_f rfl rfl ?_
  refine p_region rfl ?_
  refine w_move_d rfl rfl ?_
  refine w_cmp h rfl rfl (fun _ h => ?_) (fun _ h => ?_)
  · refine w_assign_d rfl rfl ?_
    refine w_nil ?_
    refine n_b ?_
    refine n_b ?_
    refine n_b ?_
    refine n_b ?_
    refine n_b ?_
    refine n_b ?_
    refine n_seq rfl ?_
    refine p_cond_t rfl rfl ?_
    refine p_seq rfl ?_
    refine p_region rfl ?_
    refine w_assign_d rfl rfl ?_
    refine w_nil ?_
    refine n_seq rfl ?_
    refine p_ret rfl (con_ret ?_)
    cases h
    exact pd (.inl rfl) rfl rfl
  refine w_assign_d rfl rfl ?_
  refine w_nil ?_
  refine n_b ?_
  refine n_b ?_
  refine n_b ?_
  refine n_b ?_
  refine n_b ?_
  refine n_b ?_
  refine n_seq rfl ?_
  refine p_cond_f rfl rfl ?_
  refine p_skip rfl ?_
  refine n_b ?_
  refine n_b ?_
  refine n_b ?_
  refine n_b ?_
  refine n_b ?_
  refine n_b ?_
  refine n_blk rfl ?_
  refine n_seq rfl ?_
  refine p_seq rfl ?_
  refine p_region rfl ?_
  refine w_assign_d rfl rfl ?_
  refine w_nil ?_
  refine n_seq rfl ?_
  refine p_ret rfl (con_ret ?_)
  cases h
  exact pd (.inl rfl) rfl rfl
set_option maxHeartbeats 4000000 in
theorem junctionref3_Arity_k2_ok (op : Int) (r : Int) (h : junctionref3_Arity_k2 op = some r) (g : Nat → AV) (H : Hs) (n : Nat) : PAt C (bodyOf Tryd.f68) (.b (.b (.a (.b (.b (.b (.b (.a (.a (.b .o)))))))))) ⟨upd g 0 (.d (.int .i64 op)), H, n⟩ (PostD C Tryd.f68 [(.int .i64 r)]) := by
  refine p_seq rfl ?_
  refine p_region rfl ?_
  refine w_move_d rfl rfl ?_
  refine w_cmp h rfl rfl (fun _ h => ?_) (fun _ h => ?_)
  · refine w_move_d rfl rfl ?_
    refine w_move_d rfl rfl ?_
    refine w_cmp h rfl rfl (fun _ h => ?_) (fun _ h => ?_)
    · refine w_pick_td rfl rfl rfl ?_
      refine w_assign_d rfl rfl ?_
      refine w_nil ?_
      refine n_seq rfl ?_
      refine p_cond_t rfl rfl ?_
      refine p_skip rfl ?_
      refine n_cond rfl ?_
      refine n_b ?_
      refine n_b ?_
      refine n_b ?_
      refine n_seq rfl ?_
      refine p_cond_t rfl rfl ?_
      refine p_seq rfl ?_
      refine p_region rfl ?_
      refine w_assign_d rfl rfl ?_
      refine w_nil ?_
      refine n_seq rfl ?_
      refine p_ret rfl (con_ret ?_)
      cases h
      exact pd (.inl rfl) rfl rfl
    refine w_pick_td rfl rfl rfl ?_
    refine w_assign_d rfl rfl ?_
    refine w_nil ?_
    refine n_seq rfl ?_
    refine p_cond_f rfl rfl ?_
    exact jmp 0 _ rfl (junctionref3_Arity_k1_ok _ _ h _ _ _)
  refine w_move_d rfl rfl ?_
  refine w_skip rfl ?_
  refine w_skip rfl ?_
  refine w_pick_fd rfl rfl rfl ?_
  refine w_assign_d rfl rfl ?_
  refine w_nil ?_
  refine n_seq rfl ?_
  refine p_cond_f rfl rfl ?_
  exact jmp 0 _ rfl (junctionref3_Arity_k1_ok _ _ h _ _ _)
set_option maxHeartbeats 4000000 in
theorem junctionref3_Arity_k3_ok (op : Int) (r : Int) (h : junctionref3_Arity_k3 op = some r) (g : Nat → AV) (H : Hs) (n : Nat) : PAt C (bodyOf Tryd.f68) (.b (.b (.b (.b (.a (.a (.b .o))))))) ⟨upd g 0 (.d (.int .i64 op)), H, n⟩ (PostD C Tryd.f68 [(.int .i64 r)]) := by
  refine p_seq rfl ?_
  refine p_seq rfl ?_
  refine p_region rfl ?_
  refine w_move_d rfl rfl ?_
  refine w_cmp h rfl rfl (fun _ h => ?_) (fun _ h => ?_)
  · refine w_move_d rfl rfl ?_
    refine w_move_d rfl rfl ?_
    refine w_cmp h rfl rfl (fun _ h => ?_) (fun _ h => ?_)
    · refine w_pick_td rfl rfl rfl ?_
      refine w_assign_d rfl rfl ?_
      refine w_nil ?_
      refine n_seq rfl ?_
      refine p_cond_t rfl rfl ?_
      refine p_skip rfl ?_
      refine n_cond rfl ?_
      refine n_b ?_
      refine n_seq rfl ?_
      refine p_cond_t rfl rfl ?_
      refine p_seq rfl ?_
      refine p_region rfl ?_
      refine w_assign_d rfl rfl ?_
      refine w_nil ?_
      refine n_seq rfl ?_
      refine p_ret rfl (con_ret ?_)
      cases h
      exact pd (.inl rfl) rfl rfl
    refine w_pick_td rfl rfl rfl ?_
    refine w_assign_d rfl rfl ?_
    refine w_nil ?_
    refine n_seq rfl ?_
    refine p_cond_f rfl rfl ?_
    exact jmp 0 _ rfl (junctionref3_Arity_k2_ok _ _ h _ _ _)
  refine w_move_d rfl rfl ?_
  refine w_skip rfl ?_
  refine w_skip rfl ?_
  refine w_pick_fd rfl rfl rfl ?_
  refine w_assign_d rfl rfl ?_
  refine w_nil ?_
  refine n_seq rfl ?_
  refine p_cond_f rfl rfl ?_
  exact jmp 0 _ rfl (junctionref3_Arity_k2_ok _ _ h _ _ _)
set_option maxHeartbeats 4000000 in
theorem junctionref3_Arity_k4_ok (op : Int) (r : Int) (h : junctionref3_Arity_k4 op = some r) (g : Nat → AV) (H : Hs) (n : Nat) : PAt C (bodyOf Tryd.f68) (.b (.b (.a (.a (.b .o))))) ⟨upd g 0 (.d (.int .i64 op)), H, n⟩ (PostD C Tryd.f68 [(.int .i64 r)]) := by
  refine p_seq rfl ?_
  refine p_region rfl ?_
  refine w_move_d rfl rfl ?_
  refine w_cmp h rfl rfl (fun _ h => ?_) (fun _ h => ?_)
  · refine w_move_d rfl rfl ?_
    refine w_move_d rfl rfl ?_
    refine w_cmp h rfl rfl (fun _ h => ?_) (fun _ h => ?_)
    · refine w_pick_td rfl rfl rfl ?_
      refine w_assign_d rfl rfl ?_
      refine w_nil ?_
      refine n_seq rfl ?_
      refine p_cond_t rfl rfl ?_
      refine p_seq rfl ?_
      refine p_region rfl ?_
      refine w_assign_d rfl rfl ?_
      refine w_nil ?_
      refine n_seq rfl ?_
      refine p_ret rfl (con_ret ?_)
      cases h
      exact pd (.inl rfl) rfl rfl
    refine w_pick_td rfl rfl rfl ?_
    refine w_assign_d rfl rfl ?_
    refine w_nil ?_
    refine n_seq rfl ?_
    refine p_cond_f rfl rfl ?_
    exact jmp 0 _ rfl (junctionref3_Arity_k3_ok _ _ h _ _ _)
  refine w_move_d rfl rfl ?_
  refine w_skip rfl ?_
  refine w_skip rfl ?_
  refine w_pick_fd rfl rfl rfl ?_
  refine w_assign_d rfl rfl ?_
  refine w_nil ?_
  refine n_seq rfl ?_
  refine p_cond_f rfl rfl ?_
  exact jmp 0 _ rfl (junctionref3_Arity_k3_ok _ _ h _ _ _)
set_option maxHeartbeats 4000000 in
theorem junctionref3_Arity_ok (op : Int) (r : Int) (h : junctionref3_Arity op = some r) : callD C 68 [(.int .i64 op)] = some [(.int .i64 r)] := by
  refine callD_at (ext0 _ _) fn68 rfl ?_
  refine jmp 0 _ rfl ?_
  refine p_seq rfl ?_
  refine p_region rfl ?_
  refine w_assign_d rfl rfl ?_
  refine w_nil ?_
  refine n_seq rfl ?_
  refine p_seq rfl ?_
  refine p_block rfl ?_
  refine p_seq rfl ?_
  refine p_region rfl ?_
  refine w_move_d rfl rfl ?_
  refine w_cmp h rfl rfl (fun _ h => ?_) (fun _ h => ?_)
  · refine w_move_d rfl rfl ?_
    refine w_move_d rfl rfl ?_
    refine w_cmp h rfl rfl (fun _ h => ?_) (fun _ h => ?_)
    · refine w_pick_td rfl rfl rfl ?_
      refine w_assign_d rfl rfl ?_
      refine w_nil ?_
      refine n_seq rfl ?_
      refine p_cond_t rfl rfl ?_
      refine p_seq rfl ?_
      refine p_region rfl ?_
      refine w_assign_d rfl rfl ?_
      refine w_nil ?_
      refine n_seq rfl ?_
      refine p_ret rfl (con_ret ?_)
      cases h
      exact pd (.inl rfl) rfl rfl
    refine w_pick_td rfl rfl rfl ?_
    refine w_assign_d rfl rfl ?_
    refine w_nil ?_
    refine n_seq rfl ?_
    refine p_cond_f rfl rfl ?_
    exact jmp 0 _ rfl (junctionref3_Arity_k4_ok _ _ h _ _ _)
  refine w_move_d rfl rfl ?_
  refine w_skip rfl ?_
  refine w_skip rfl ?_
  refine w_pick_fd rfl rfl rfl ?_
  refine w_assign_d rfl rfl ?_
  refine w_nil ?_
  refine n_seq rfl ?_
  refine p_cond_f rfl rfl ?_
  exact jmp 0 _ rfl (junctionref3_Arity_k4_ok _ _ h _ _ _)
set_option maxHeartbeats 4000000 in
theorem junctionref3_Span_L1_ok (e : List NodeT) (wanted : Int) (j : Int) (r : Int) (h : junctionref3_Span_L1 e wanted j = some r) (g : Nat → AV) (H : Hs) (n : Nat) : PAt C (bodyOf Tryd.f15) (.a (.b (.a (.b (.b (.b .o)))))) ⟨upd (upd (upd g 0 (.d (.lst (e.map NodeT.enc)))) 5 (.d (.int .i64 wanted))) 6 (.d (.int .i64 j)), H, n⟩ (PostD C Tryd.f15 [(.int .i64 r)]) := by
  refine junctionref3_Span_L1.partial_correctness e (fun wanted j r => ∀ (g : Nat → AV) (H : Hs) (n : Nat), PAt C (bodyOf Tryd.f15) (.a (.b (.a (.b (.b (.b .o)))))) ⟨upd (upd (upd g 0 (.d (.lst (e.map NodeT.enc)))) 5 (.d (.int .i64 wanted))) 6 (.d (.int .i64 j)), H, n⟩ (PostD C Tryd.f15 [(.int .i64 r)])) (fun junctionref3_Span_L1 ih_junctionref3_Span_L1 wanted j r h g H n => ?_) wanted j r h g H n
  refine p_loop rfl ?_
  refine p_seq rfl ?_
  refine p_seq rfl ?_
  refine p_region rfl ?_
  refine w_move_d rfl rfl ?_
  refine w_cmp h rfl rfl (fun _ h => ?_) (fun _ h => ?_)
  · refine w_nil ?_
    refine n_seq rfl ?_
    refine p_cond_t rfl rfl ?_
    refine p_skip rfl ?_
    refine n_cond rfl ?_
    refine n_b ?_
    refine n_seq rfl ?_
    refine p_seq rfl ?_
    refine p_block rfl ?_
    refine p_seq rfl ?_
    refine p_region rfl ?_
    refine w_move_d rfl rfl ?_
    refine w_move_d rfl rfl ?_
    refine w_idx h rfl elem22 szg115 (fun _ => rfl) rfl rfl (fun t23 h => ?_)
    refine w_faddr_d rfl fo115_0 (by decide) rfl ?_
    refine w_load_d rfl szg3 rfl rfl ?_
    refine w_scal (E := (fun y => [(.int .i64 y)])) h rfl sig68 (sc rfl (sn)) (fun y hy => junctionref3_Arity_ok _ y hy) (fun _ => rfl) (fun t26 h => ?_)
    refine w_assign_d rfl rfl ?_
    refine w_nil ?_
    refine n_seq rfl ?_
    refine p_seq rfl ?_
    refine p_seq rfl ?_
    refine p_region rfl ?_
    refine w_move_d rfl rfl ?_
    refine w_cmp h rfl rfl (fun _ h => ?_) (fun _ h => ?_)
    · refine w_nil ?_
      refine n_seq rfl ?_
      refine p_cond_t rfl rfl ?_
      refine p_seq rfl ?_
      refine p_region rfl ?_
      refine w_assign_d rfl rfl ?_
      refine w_nil ?_
      refine n_seq rfl ?_
      refine p_ret rfl (con_ret ?_)
      cases h
      exact pd (.inl rfl) rfl rfl
    refine w_nil ?_
    refine n_seq rfl ?_
    refine p_cond_f rfl rfl ?_
    refine p_skip rfl ?_
    refine n_b ?_
    refine n_b ?_
    refine n_seq rfl ?_
    refine p_seq rfl ?_
    refine p_region rfl ?_
    refine w_move_d rfl rfl ?_
    refine w_bin rfl rfl ?_
    refine w_move_d rfl rfl ?_
    refine w_bin rfl rfl ?_
    refine w_assign_d rfl rfl ?_
    refine w_nil ?_
    refine n_seq rfl ?_
    refine p_seq rfl ?_
    refine p_region rfl ?_
    refine w_move_d rfl rfl ?_
    refine w_cmp h rfl rfl (fun _ h => ?_) (fun _ h => ?_)
    · refine w_nil ?_
      refine n_seq rfl ?_
      refine p_cond_t rfl rfl ?_
      refine p_seq rfl ?_
      refine p_region rfl ?_
      refine w_move_d rfl rfl ?_
      refine w_assign_d rfl rfl ?_
      refine w_nil ?_
      refine n_seq rfl ?_
      refine p_ret rfl (con_ret ?_)
      cases h
      exact pd (.inl rfl) rfl rfl
    refine w_nil ?_
    refine n_seq rfl ?_
    refine p_cond_f rfl rfl ?_
    refine p_skip rfl ?_
    refine n_b ?_
    refine n_b ?_
    refine n_b ?_
    refine n_b ?_
    refine n_b ?_
    refine n_blk rfl ?_
    refine n_seq rfl ?_
    refine p_region rfl ?_
    refine w_move_d rfl rfl ?_
    refine w_bin rfl rfl ?_
    refine w_assign_d rfl rfl ?_
    refine w_nil ?_
    refine n_b ?_
    refine n_b ?_
    refine n_loop rfl ?_
    exact jmp 0 _ rfl (jmp 5 _ rfl (jmp 6 _ rfl (ih_junctionref3_Span_L1 _ _ _ h _ _ _)))
  refine w_nil ?_
  refine n_seq rfl ?_
  refine p_cond_f rfl rfl ?_
  refine p_exit rfl ?_
  refine n_b ?_
  refine n_b ?_
  refine x_seq rfl ?_
  refine x_loop rfl ?_
  refine x_blk rfl ?_
  refine n_b ?_
  refine n_seq rfl ?_
  refine p_seq rfl ?_
  refine p_region rfl ?_
  refine w_assign_d rfl rfl ?_
  refine w_nil ?_
  refine n_seq rfl ?_
  refine p_ret rfl (con_ret ?_)
  cases h
  exact pd (.inl rfl) rfl rfl
set_option maxHeartbeats 4000000 in
theorem junctionref3_Span_ok (e : List NodeT) (i : Int) (r : Int) (h : junctionref3_Span e i = some r) : callD C 15 [(.lst (e.map NodeT.enc)), (.int .i64 i)] = some [(.int .i64 r)] := by
  refine callD_at (ext0 _ _) fn15 rfl ?_
  refine jmp 0 _ rfl ?_
  refine jmp 1 _ rfl ?_
  refine p_seq rfl ?_
  refine p_region rfl ?_
  refine w_assign_d rfl rfl ?_
  refine w_nil ?_
  refine n_seq rfl ?_
  refine p_seq rfl ?_
  refine p_seq rfl ?_
  refine p_region rfl ?_
  refine w_move_d rfl rfl ?_
  refine w_cmp h rfl rfl (fun _ h => ?_) (fun _ h => ?_)
  · refine w_move_d rfl rfl ?_
    refine w_skip rfl ?_
    refine w_skip rfl ?_
    refine w_skip rfl ?_
    refine w_skip rfl ?_
    refine w_pick_td rfl rfl rfl ?_
    refine w_nil ?_
    refine n_seq rfl ?_
    refine p_cond_t rfl rfl ?_
    refine p_seq rfl ?_
    refine p_region rfl ?_
    refine w_assign_d rfl rfl ?_
    refine w_nil ?_
    refine n_seq rfl ?_
    refine p_ret rfl (con_ret ?_)
    cases h
    exact pd (.inl rfl) rfl rfl
  refine w_move_d rfl rfl ?_
  refine w_move_d rfl rfl ?_
  refine w_move_d rfl rfl ?_
  refine w_len_d rfl elem22 rfl ?_
  refine w_cmp h rfl rfl (fun _ h => ?_) (fun _ h => ?_)
  · refine w_pick_fd rfl rfl rfl ?_
    refine w_nil ?_
    refine n_seq rfl ?_
    refine p_cond_t rfl rfl ?_
    refine p_seq rfl ?_
    refine p_region rfl ?_
    refine w_assign_d rfl rfl ?_
    refine w_nil ?_
    refine n_seq rfl ?_
    refine p_ret rfl (con_ret ?_)
    cases h
    exact pd (.inl rfl) rfl rfl
  refine w_pick_fd rfl rfl rfl ?_
  refine w_nil ?_
  refine n_seq rfl ?_
  refine p_cond_f rfl rfl ?_
  refine p_skip rfl ?_
  refine n_b ?_
  refine n_b ?_
  refine n_seq rfl ?_
  refine p_seq rfl ?_
  refine p_region rfl ?_
  refine w_assign_d rfl rfl ?_
  refine w_nil ?_
  refine n_seq rfl ?_
  refine p_seq rfl ?_
  refine p_seq rfl ?_
  refine p_region rfl ?_
  refine w_move_d rfl rfl ?_
  refine w_assign_d rfl rfl ?_
  refine w_nil ?_
  refine n_seq rfl ?_
  refine p_block rfl ?_
  exact jmp 0 _ rfl (jmp 5 _ rfl (jmp 6 _ rfl (junctionref3_Span_L1_ok _ _ _ _ h _ _ _)))
set_option maxHeartbeats 4000000 in
theorem junctionref3_One_ok (e : List NodeT) (r : Bool) (h : junctionref3_One e = some r) : callD C 69 [(.lst (e.map NodeT.enc))] = some [(.bool r)] := by
  refine callD_at (ext0 _ _) fn69 rfl ?_
  refine jmp 0 _ rfl ?_
  refine p_seq rfl ?_
  refine p_region rfl ?_
  refine w_assign_d rfl rfl ?_
  refine w_nil ?_
  refine n_seq rfl ?_
  refine p_seq rfl ?_
  refine p_seq rfl ?_
  refine p_region rfl ?_
  refine w_move_d rfl rfl ?_
  refine w_len_d rfl elem22 rfl ?_
  refine w_cmp h rfl rfl (fun _ h => ?_) (fun _ h => ?_)
  · refine w_nil ?_
    refine n_seq rfl ?_
    refine p_cond_t rfl rfl ?_
    refine p_seq rfl ?_
    refine p_region rfl ?_
    refine w_assign_d rfl rfl ?_
    refine w_nil ?_
    refine n_seq rfl ?_
    refine p_ret rfl (con_ret ?_)
    cases h
    exact pd (.inl rfl) rfl rfl
  refine w_nil ?_
  refine n_seq rfl ?_
  refine p_cond_f rfl rfl ?_
  refine p_skip rfl ?_
  refine n_b ?_
  refine n_b ?_
  refine n_seq rfl ?_
  refine p_seq rfl ?_
  refine p_region rfl ?_
  refine w_move_d rfl rfl ?_
  refine w_move_d rfl rfl ?_
  refine w_len_d rfl elem22 rfl ?_
  refine w_bin rfl rfl ?_
  refine w_scal (E := (fun y => [(.int .i64 y)])) h rfl sig15 (sc rfl (sc rfl (sn))) (fun y hy => junctionref3_Span_ok _ _ y hy) (fun _ => rfl) (fun t11 h => ?_)
  refine w_assign_d rfl rfl ?_
  refine w_nil ?_
  refine n_seq rfl ?_
  refine p_seq rfl ?_
  refine p_region rfl ?_
  refine w_move_d rfl rfl ?_
  refine w_bin rfl rfl ?_
  refine w_assign_d rfl rfl ?_
  refine w_nil ?_
  refine n_seq rfl ?_
  refine p_ret rfl (con_ret ?_)
  cases h
  exact pd (.inl rfl) rfl rfl
set_option maxHeartbeats 4000000 in
theorem junctionref3_Asked_ok (op : Int) (r : Int × Int) (h : junctionref3_Asked op = some r) : callD C 70 [(.int .i64 op)] = some [(.int .i64 r.1), (.int .i64 r.2)] := by
  refine callD_at (ext0 _ _) fn70 rfl ?_
  refine jmp 0 _ rfl ?_
  refine p_seq rfl ?_
  refine p_region rfl ?_
  refine w_assign_d rfl rfl ?_
  refine w_assign_d rfl rfl ?_
  refine w_nil ?_
  refine n_seq rfl ?_
  refine p_seq rfl ?_
  refine p_seq rfl ?_
  refine p_region rfl ?_
  refine w_move_d rfl rfl ?_
  refine w_nil ?_
  refine n_seq rfl ?_
  refine p_block rfl ?_
  refine p_seq rfl ?_
  refine p_region rfl ?_
  refine w_cmp h rfl rfl (fun _ h => ?_) (fun _ h => ?_)
  · refine w_assign_d rfl rfl ?_
    refine w_nil ?_
    refine n_seq rfl ?_
    refine p_cond_t rfl rfl ?_
    refine p_seq rfl ?_
    refine p_region rfl ?_
    refine w_assign_d rfl rfl ?_
    refine w_assign_d rfl rfl ?_
    refine w_nil ?_
    refine n_seq rfl ?_
    refine p_ret rfl (con_ret ?_)
    cases h
    exact pd (.inl rfl) rfl rfl
  refine w_assign_d rfl rfl ?_
  refine w_nil ?_
  refine n_seq rfl ?_
  refine p_cond_f rfl rfl ?_
  refine p_seq rfl ?_
  refine p_region rfl ?_
  refine w_cmp h rfl rfl (fun _ h => ?_) (fun _ h => ?_)
  · refine w_assign_d rfl rfl ?_
    refine w_nil ?_
    refine n_seq rfl ?_
    refine p_cond_t rfl rfl ?_
    refine p_seq rfl ?_
    refine p_region rfl ?_
    refine w_assign_d rfl rfl ?_
    refine w_assign_d rfl rfl ?_
    refine w_nil ?_
    refine n_seq rfl ?_
    refine p_ret rfl (con_ret ?_)
    cases h
    exact pd (.inl rfl) rfl rfl
  refine w_assign_d rfl rfl ?_
  refine w_nil ?_
  refine n_seq rfl ?_
  refine p_cond_f rfl rfl ?_
  refine p_seq rfl ?_
  refine p_region rfl ?_
  refine w_cmp h rfl rfl (fun _ h => ?_) (fun _ h => ?_)
  · refine w_assign_d rfl rfl ?_
    refine w_nil ?_
    refine n_seq rfl ?_
    refine p_cond_t rfl rfl ?_
    refine p_seq rfl ?_
    refine p_region rfl ?_
    refine w_assign_d rfl rfl ?_
    refine w_assign_d rfl rfl ?_
    refine w_nil ?_
    refine n_seq rfl ?_
    refine p_ret rfl (con_ret ?_)
    cases h
    exact pd (.inl rfl) rfl rfl
  refine w_assign_d rfl rfl ?_
  refine w_nil ?_
  refine n_seq rfl ?_
  refine p_cond_f rfl rfl ?_
  refine p_seq rfl ?_
  refine p_seq rfl ?_
  refine p_region rfl ?_
  refine w_cmp h rfl rfl (fun _ h => ?_) (fun _ h => ?_)
  · refine w_assign_d rfl rfl ?_
    refine w_nil ?_
    refine n_seq rfl ?_
    refine p_cond_t rfl rfl ?_
    refine p_skip rfl ?_
    refine n_cond rfl ?_
    refine n_b ?_
    refine n_seq rfl ?_
    refine p_cond_t rfl rfl ?_
    refine p_seq rfl ?_
    refine p_region rfl ?_
    refine w_assign_d rfl rfl ?_
    refine w_assign_d rfl rfl ?_
    refine w_nil ?_
    refine n_seq rfl ?_
    refine p_ret rfl (con_ret ?_)
    cases h
    exact pd (.inl rfl) rfl rfl
  refine w_assign_d rfl rfl ?_
  refine w_nil ?_
  refine n_seq rfl ?_
  refine p_cond_f rfl rfl ?_
  refine p_seq rfl ?_
  refine p_region rfl ?_
  refine w_cmp h rfl rfl (fun _ h => ?_) (fun _ h => ?_)
  · refine w_assign_d rfl rfl ?_
    refine w_nil ?_
    refine n_seq rfl ?_
    refine p_cond_t rfl rfl ?_
    refine p_skip rfl ?_
    refine n_cond rfl ?_
    refine n_b ?_
    refine n_b ?_
    refine n_b ?_
    refine n_seq rfl ?_
    refine p_cond_t rfl rfl ?_
    refine p_seq rfl ?_
    refine p_region rfl ?_
    refine w_assign_d rfl rfl ?_
    refine w_assign_d rfl rfl ?_
    refine w_nil ?_
    refine n_seq rfl ?_
    refine p_ret rfl (con_ret ?_)
    cases h
    exact pd (.inl rfl) rfl rfl
  refine w_assign_d rfl rfl ?_
  refine w_nil ?_
  refine n_seq rfl ?_
  refine p_cond_f rfl rfl ?_
  refine p_seq rfl ?_
  refine p_region rfl ?_
  refine w_cmp h rfl rfl (fun _ h => ?_) (fun _ h => ?_)
  · refine w_assign_d rfl rfl ?_
    refine w_nil ?_
    refine n_seq rfl ?_
    refine p_cond_t rfl rfl ?_
    refine p_skip rfl ?_
    refine n_cond rfl ?_
    refine n_b ?_
    refine n_b ?_
    refine n_b ?_
    refine n_b ?_
    refine n_b ?_
    refine n_seq rfl ?_
    refine p_cond_t rfl rfl ?_
    refine p_seq rfl ?_
    refine p_region rfl ?_
    refine w_assign_d rfl rfl ?_
    refine w_assign_d rfl rfl ?_
    refine w_nil ?_
    refine n_seq rfl ?_
    refine p_ret rfl (con_ret ?_)
    cases h
    exact pd (.inl rfl) rfl rfl
  refine w_assign_d rfl rfl ?_
  refine w_nil ?_
  refine n_seq rfl ?_
  refine p_cond_f rfl rfl ?_
  refine p_seq rfl ?_
  refine p_region rfl ?_
  refine w_cmp h rfl rfl (fun _ h => ?_) (fun _ h => ?_)
  · refine w_assign_d rfl rfl ?_
    refine w_nil ?_
    refine n_seq rfl ?_
    refine p_cond_t rfl rfl ?_
    refine p_skip rfl ?_
    refine n_cond rfl ?_
    refine n_b ?_
    refine n_b ?_
    refine n_b ?_
    refine n_b ?_
    refine n_b ?_
    refine n_b ?_
    refine n_b ?_
    refine n_seq rfl ?_
    refine p_cond_t rfl rfl ?_
    refine p_seq rfl ?_
    refine p_region rfl ?_
    refine w_assign_d rfl rfl ?_
    refine w_assign_d rfl rfl ?_
    refine w_nil ?_
    refine n_seq rfl ?_
    refine p_ret rfl (con_ret ?_)
    cases h
    exact pd (.inl rfl) rfl rfl
  refine w_assign_d rfl rfl ?_
  refine w_nil ?_
  refine n_seq rfl ?_
  refine p_cond_f rfl rfl ?_
  refine p_seq rfl ?_
  refine p_region rfl ?_
  refine w_cmp h rfl rfl (fun _ h => ?_) (fun _ h => ?_)
  · refine w_assign_d rfl rfl ?_
    refine w_nil ?_
    refine n_seq rfl ?_
    refine p_cond_t rfl rfl ?_
    refine p_skip rfl ?_
    refine n_cond rfl ?_
    refine n_b ?_
    refine n_b ?_
    refine n_b ?_
    refine n_b ?_
    refine n_b ?_
    refine n_b ?_
    refine n_b ?_
    refine n_b ?_
    refine n_b ?_
    refine n_seq rfl ?_
    refine p_cond_t rfl rfl ?_
    refine p_seq rfl ?_
    refine p_region rfl ?_
    refine w_assign_d rfl rfl ?_
    refine w_assign_d rfl rfl ?_
    refine w_nil ?_
    refine n_seq rfl ?_
    refine p_ret rfl (con_ret ?_)
    cases h
    exact pd (.inl rfl) rfl rfl
  refine w_assign_d rfl rfl ?_
  refine w_nil ?_
  refine n_seq rfl ?_
  refine p_cond_f rfl rfl ?_
  refine p_region rfl ?_
  refine w_cmp h rfl rfl (fun _ h => ?_) (fun _ h => ?_)
  · refine w_assign_d rfl rfl ?_
    refine w_nil ?_
    refine n_b ?_
    refine n_b ?_
    refine n_b ?_
    refine n_b ?_
    refine n_b ?_
    refine n_b ?_
    refine n_b ?_
    refine n_b ?_
    refine n_b ?_
    refine n_b ?_
    refine n_seq rfl ?_
    refine p_cond_t rfl rfl ?_
    refine p_seq rfl ?_
    refine p_region rfl ?_
    refine w_assign_d rfl rfl ?_
    refine w_assign_d rfl rfl ?_
    refine w_nil ?_
    refine n_seq rfl ?_
    refine p_ret rfl (con_ret ?_)
    cases h
    exact pd (.inl rfl) rfl rfl
  refine w_assign_d rfl rfl ?_
  refine w_nil ?_
  refine n_b ?_
  refine n_b ?_
  refine n_b ?_
  refine n_b ?_
  refine n_b ?_
  refine n_b ?_
  refine n_b ?_
  refine n_b ?_
  refine n_b ?_
  refine n_b ?_
  refine n_seq rfl ?_
  refine p_cond_f rfl rfl ?_
  refine p_seq rfl ?_
  refine p_seq rfl ?_
  refine p_region rfl ?_
  refine w_cmp h rfl rfl (fun _ h => ?_) (fun _ h => ?_)
  · refine w_assign_d rfl rfl ?_
    refine w_nil ?_
    refine n_seq rfl ?_
    refine p_cond_t rfl rfl ?_
    refine p_skip rfl ?_
    refine n_cond rfl ?_
    refine n_b ?_
    refine n_seq rfl ?_
    refine p_cond_t rfl rfl ?_
    refine p_seq rfl ?_
    refine p_region rfl ?_
    refine w_assign_d rfl rfl ?_
    refine w_assign_d rfl rfl ?_
    refine w_nil ?_
    refine n_seq rfl ?_
    refine p_ret rfl (con_ret ?_)
    cases h
    exact pd (.inl rfl) rfl rfl
  refine w_assign_d rfl rfl ?_
  refine w_nil ?_
  refine n_seq rfl ?_
  refine p_cond_f rfl rfl ?_
  refine p_region rfl ?_
  refine w_cmp h rfl rfl (fun _ h => ?_) (fun _ h => ?_)
  · refine w_assign_d rfl rfl ?_
    refine w_nil ?_
    refine n_b ?_
    refine n_b ?_
    refine n_seq rfl ?_
    refine p_cond_t rfl rfl ?_
    refine p_seq rfl ?_
    refine p_region rfl ?_
    refine w_assign_d rfl rfl ?_
    refine w_assign_d rfl rfl ?_
    refine w_nil ?_
    refine n_seq rfl ?_
    refine p_ret rfl (con_ret ?_)
    cases h
    exact pd (.inl rfl) rfl rfl
  refine w_assign_d rfl rfl ?_
  refine w_nil ?_
  refine n_b ?_
  refine n_b ?_
  refine n_seq rfl ?_
  refine p_cond_f rfl rfl ?_
  refine p_seq rfl ?_
  refine p_seq rfl ?_
  refine p_region rfl ?_
  refine w_cmp h rfl rfl (fun _ h => ?_) (fun _ h => ?_)
  · refine w_assign_d rfl rfl ?_
    refine w_nil ?_
    refine n_seq rfl ?_
    refine p_cond_t rfl rfl ?_
    refine p_skip rfl ?_
    refine n_cond rfl ?_
    refine n_b ?_
    refine n_seq rfl ?_
    refine p_cond_t rfl rfl ?_
    refine p_seq rfl ?_
    refine p_region rfl ?_
    refine w_assign_d rfl rfl ?_
    refine w_assign_d rfl rfl ?_
    refine w_nil ?_
    refine n_seq rfl ?_
    refine p_ret rfl (con_ret ?_)
    cases h
    exact pd (.inl rfl) rfl rfl
  refine w_assign_d rfl rfl ?_
  refine w_nil ?_
  refine n_seq rfl ?_
  refine p_cond_f rfl rfl ?_
  refine p_seq rfl ?_
  refine p_region rfl ?_
  refine w_cmp h rfl rfl (fun _ h => ?_) (fun _ h => ?_)
  · refine w_assign_d rfl rfl ?_
    refine w_nil ?_
    refine n_seq rfl ?_
    refine p_cond_t rfl rfl ?_
    refine p_skip rfl ?_
    refine n_cond rfl ?_
    refine n_b ?_
    refine n_b ?_
    refine n_b ?_
    refine n_seq rfl ?_
    refine p_cond_t rfl rfl ?_
    refine p_seq rfl ?_
    refine p_region rfl ?_
    refine w_assign_d rfl rfl ?_
    refine w_assign_d rfl rfl ?_
    refine w_nil ?_
    refine n_seq rfl ?_
    refine p_ret rfl (con_ret ?_)
    cases h
    exact pd (.inl rfl) rfl rfl
  refine w_assign_d rfl rfl ?_
  refine w_nil ?_
  refine n_seq rfl ?_
  refine p_cond_f rfl rfl ?_
  refine p_region rfl ?_
  refine w_cmp h rfl rfl (fun _ h => ?_) (fun _ h => ?_)
  · refine w_assign_d rfl rfl ?_
    refine w_nil ?_
    refine n_b ?_
    refine n_b ?_
    refine n_b ?_
    refine n_b ?_
    refine n_seq rfl ?_
    refine p_cond_t rfl rfl ?_
    refine p_seq rfl ?_
    refine p_region rfl ?_
    refine w_assign_d rfl rfl ?_
    refine w_assign_d rfl rfl ?_
    refine w_nil ?_
    refine n_seq rfl ?_
    refine p_ret rfl (con_ret ?_)
    cases h
    exact pd (.inl rfl) rfl rfl
  refine w_assign_d rfl rfl ?_
  refine w_nil ?_
  refine n_b ?_
  refine n_b ?_
  refine n_b ?_
  refine n_b ?_
  refine n_seq rfl ?_
  refine p_cond_f rfl rfl ?_
  refine p_seq rfl ?_
  refine p_region rfl ?_
  refine w_cmp h rfl rfl (fun _ h => ?_) (fun _ h => ?_)
  · refine w_assign_d rfl rfl ?_
    refine w_nil ?_
    refine n_seq rfl ?_
    refine p_cond_t rfl rfl ?_
    refine p_seq rfl ?_
    refine p_region rfl ?_
    refine w_assign_d rfl rfl ?_
    refine w_assign_d rfl rfl ?_
    refine w_nil ?_
    refine n_seq rfl ?_
    refine p_ret rfl (con_ret ?_)
    cases h
    exact pd (.inl rfl) rfl rfl
  refine w_assign_d rfl rfl ?_
  refine w_nil ?_
  refine n_seq rfl ?_
  refine p_cond_f rfl rfl ?_
  refine p_skip rfl ?_
  refine n_b ?_
  refine n_b ?_
  refine n_b ?_
  refine n_b ?_
  refine n_b ?_
  refine n_b ?_
  refine n_b ?_
  refine n_b ?_
  refine n_b ?_
  refine n_b ?_
  refine n_b ?_
  refine n_b ?_
  refine n_b ?_
  refine n_b ?_
  refine n_blk rfl ?_
  refine n_b ?_
  refine n_seq rfl ?_
  refine p_seq rfl ?_
  refine p_region rfl ?_
  refine w_assign_d rfl rfl ?_
  refine w_assign_d rfl rfl ?_
  refine w_nil ?_
  refine n_seq rfl ?_
  refine p_ret rfl (con_ret ?_)
  cases h
  exact pd (.inl rfl) rfl rfl
set_option maxHeartbeats 4000000 in
theorem junctionref3_Level_ok (op : Int) (r : Int) (h : junctionref3_Level op = some r) : callD C 71 [(.int .i64 op)] = some [(.int .i64 r)] := by
  refine callD_at (ext0 _ _) fn71 rfl ?_
  refine jmp 0 _ rfl ?_
  refine p_seq rfl ?_
  refine p_region rfl ?_
  refine w_assign_d rfl rfl ?_
  refine w_nil ?_
  refine n_seq rfl ?_
  refine p_seq rfl ?_
  refine p_seq rfl ?_
  refine p_region rfl ?_
  refine w_move_d rfl rfl ?_
  refine w_nil ?_
  refine n_seq rfl ?_
  refine p_block rfl ?_
  refine p_seq rfl ?_
  refine p_region rfl ?_
  refine w_cmp h rfl rfl (fun _ h => ?_) (fun _ h => ?_)
  · refine w_assign_d rfl rfl ?_
    refine w_nil ?_
    refine n_seq rfl ?_
    refine p_cond_t rfl rfl ?_
    refine p_seq rfl ?_
    refine p_region rfl ?_
    refine w_assign_d rfl rfl ?_
    refine w_nil ?_
    refine n_seq rfl ?_
    refine p_ret rfl (con_ret ?_)
    cases h
    exact pd (.inl rfl) rfl rfl
  refine w_assign_d rfl rfl ?_
  refine w_nil ?_
  refine n_seq rfl ?_
  refine p_cond_f rfl rfl ?_
  refine p_seq rfl ?_
  refine p_region rfl ?_
  refine w_cmp h rfl rfl (fun _ h => ?_) (fun _ h => ?_)
  · refine w_assign_d rfl rfl ?_
    refine w_nil ?_
    refine n_seq rfl ?_
    refine p_cond_t rfl rfl ?_
    refine p_seq rfl ?_
    refine p_region rfl ?_
    refine w_assign_d rfl rfl ?_
    refine w_nil ?_
    refine n_seq rfl ?_
    refine p_ret rfl (con_ret ?_)
    cases h
    exact pd (.inl rfl) rfl rfl
  refine w_assign_d rfl rfl ?_
  refine w_nil ?_
  refine n_seq rfl ?_
  refine p_cond_f rfl rfl ?_
  refine p_seq rfl ?_
  refine p_region rfl ?_
  refine w_cmp h rfl rfl (fun _ h => ?_) (fun _ h => ?_)
  · refine w_assign_d rfl rfl ?_
    refine w_nil ?_
    refine n_seq rfl ?_
    refine p_cond_t rfl rfl ?_
    refine p_seq rfl ?_
    refine p_region rfl ?_
    refine w_assign_d rfl rfl ?_
    refine w_nil ?_
    refine n_seq rfl ?_
    refine p_ret rfl (con_ret ?_)
    cases h
    exact pd (.inl rfl) rfl rfl
  refine w_assign_d rfl rfl ?_
  refine w_nil ?_
  refine n_seq rfl ?_
  refine p_cond_f rfl rfl ?_
  refine p_seq rfl ?_
  refine p_seq rfl ?_
  refine p_region rfl ?_
  refine w_cmp h rfl rfl (fun _ h => ?_) (fun _ h => ?_)
  · refine w_assign_d rfl rfl ?_
    refine w_nil ?_
    refine n_seq rfl ?_
    refine p_cond_t rfl rfl ?_
    refine p_skip rfl ?_
    refine n_cond rfl ?_
    refine n_b ?_
    refine n_seq rfl ?_
    refine p_cond_t rfl rfl ?_
    refine p_seq rfl ?_
    refine p_region rfl ?_
    refine w_assign_d rfl rfl ?_
    refine w_nil ?_
    refine n_seq rfl ?_
    refine p_ret rfl (con_ret ?_)
    cases h
    exact pd (.inl rfl) rfl rfl
  refine w_assign_d rfl rfl ?_
  refine w_nil ?_
  refine n_seq rfl ?_
  refine p_cond_f rfl rfl ?_
  refine p_seq rfl ?_
  refine p_region rfl ?_
  refine w_cmp h rfl rfl (fun _ h => ?_) (fun _ h => ?_)
  · refine w_assign_d rfl rfl ?_
    refine w_nil ?_
    refine n_seq rfl ?_
    refine p_cond_t rfl rfl ?_
    refine p_skip rfl ?_
    refine n_cond rfl ?_
    refine n_b ?_
    refine n_b ?_
    refine n_b ?_
    refine n_seq rfl ?_
    refine p_cond_t rfl rfl ?_
    refine p_seq rfl ?_
    refine p_region rfl ?_
    refine w_assign_d rfl rfl ?_
    refine w_nil ?_
    refine n_seq rfl ?_
    refine p_ret rfl (con_ret ?_)
    cases h
    exact pd (.inl rfl) rfl rfl
  refine w_assign_d rfl rfl ?_
  refine w_nil ?_
  refine n_seq rfl ?_
  refine p_cond_f rfl rfl ?_
  refine p_seq rfl ?_
  refine p_region rfl ?_
  refine w_cmp h rfl rfl (fun _ h => ?_) (fun _ h => ?_)
  · refine w_assign_d rfl rfl ?_
    refine w_nil ?_
    refine n_seq rfl ?_
    refine p_cond_t rfl rfl ?_
    refine p_skip rfl ?_
    refine n_cond rfl ?_
    refine n_b ?_
    refine n_b ?_
    refine n_b ?_
    refine n_b ?_
    refine n_b ?_
    refine n_seq rfl ?_
    refine p_cond_t rfl rfl ?_
    refine p_seq rfl ?_
    refine p_region rfl ?_
    refine w_assign_d rfl rfl ?_
    refine w_nil ?_
    refine n_seq rfl ?_
    refine p_ret rfl (con_ret ?_)
    cases h
    exact pd (.inl rfl) rfl rfl
  refine w_assign_d rfl rfl ?_
  refine w_nil ?_
  refine n_seq rfl ?_
  refine p_cond_f rfl rfl ?_
  refine p_seq rfl ?_
  refine p_region rfl ?_
  refine w_cmp h rfl rfl (fun _ h => ?_) (fun _ h => ?_)
  · refine w_assign_d rfl rfl ?_
    refine w_nil ?_
    refine n_seq rfl ?_
    refine p_cond_t rfl rfl ?_
    refine p_skip rfl ?_
    refine n_cond rfl ?_
    refine n_b ?_
    refine n_b ?_
    refine n_b ?_
    refine n_b ?_
    refine n_b ?_
    refine n_b ?_
    refine n_b ?_
    refine n_seq rfl ?_
    refine p_cond_t rfl rfl ?_
    refine p_seq rfl ?_
    refine p_region rfl ?_
    refine w_assign_d rfl rfl ?_
    refine w_nil ?_
    refine n_seq rfl ?_
    refine p_ret rfl (con_ret ?_)
    cases h
    exact pd (.inl rfl) rfl rfl
  refine w_assign_d rfl rfl ?_
  refine w_nil ?_
  refine n_seq rfl ?_
  refine p_cond_f rfl rfl ?_
  refine p_seq rfl ?_
  refine p_region rfl ?_
  refine w_cmp h rfl rfl (fun _ h => ?_) (fun _ h => ?_)
  · refine w_assign_d rfl rfl ?_
    refine w_nil ?_
    refine n_seq rfl ?_
    refine p_cond_t rfl rfl ?_
    refine p_skip rfl ?_
    refine n_cond rfl ?_
    refine n_b ?_
    refine n_b ?_
    refine n_b ?_
    refine n_b ?_
    refine n_b ?_
    refine n_b ?_
    refine n_b ?_
    refine n_b ?_
    refine n_b ?_
    refine n_seq rfl ?_
    refine p_cond_t rfl rfl ?_
    refine p_seq rfl ?_
    refine p_region rfl ?_
    refine w_assign_d rfl rfl ?_
    refine w_nil ?_
    refine n_seq rfl ?_
    refine p_ret rfl (con_ret ?_)
    cases h
    exact pd (.inl rfl) rfl rfl
  refine w_assign_d rfl rfl ?_
  refine w_nil ?_
  refine n_seq rfl ?_
  refine p_cond_f rfl rfl ?_
  refine p_region rfl ?_
  refine w_cmp h rfl rfl (fun _ h => ?_) (fun _ h => ?_)
  · refine w_assign_d rfl rfl ?_
    refine w_nil ?_
    refine n_b ?_
    refine n_b ?_
    refine n_b ?_
    refine n_b ?_
    refine n_b ?_
    refine n_b ?_
    refine n_b ?_
    refine n_b ?_
    refine n_b ?_
    refine n_b ?_
    refine n_seq rfl ?_
    refine p_cond_t rfl rfl ?_
    refine p_seq rfl ?_
    refine p_region rfl ?_
    refine w_assign_d rfl rfl ?_
    refine w_nil ?_
    refine n_seq rfl ?_
    refine p_ret rfl (con_ret ?_)
    cases h
    exact pd (.inl rfl) rfl rfl
  refine w_assign_d rfl rfl ?_
  refine w_nil ?_
  refine n_b ?_
  refine n_b ?_
  refine n_b ?_
  refine n_b ?_
  refine n_b ?_
  refine n_b ?_
  refine n_b ?_
  refine n_b ?_
  refine n_b ?_
  refine n_b ?_
  refine n_seq rfl ?_
  refine p_cond_f rfl rfl ?_
  refine p_seq rfl ?_
  refine p_seq rfl ?_
  refine p_region rfl ?_
  refine w_cmp h rfl rfl (fun _ h => ?_) (fun _ h => ?_)
  · refine w_assign_d rfl rfl ?_
    refine w_nil ?_
    refine n_seq rfl ?_
    refine p_cond_t rfl rfl ?_
    refine p_skip rfl ?_
    refine n_cond rfl ?_
    refine n_b ?_
    refine n_seq rfl ?_
    refine p_cond_t rfl rfl ?_
    refine p_seq rfl ?_
    refine p_region rfl ?_
    refine w_assign_d rfl rfl ?_
    refine w_nil ?_
    refine n_seq rfl ?_
    refine p_ret rfl (con_ret ?_)
    cases h
    exact pd (.inl rfl) rfl rfl
  refine w_assign_d rfl rfl ?_
  refine w_nil ?_
  refine n_seq rfl ?_
  refine p_cond_f rfl rfl ?_
  refine p_region rfl ?_
  refine w_cmp h rfl rfl (fun _ h => ?_) (fun _ h => ?_)
  · refine w_assign_d rfl rfl ?_
    refine w_nil ?_
    refine n_b ?_
    refine n_b ?_
    refine n_seq rfl ?_
    refine p_cond_t rfl rfl ?_
    refine p_seq rfl ?_
    refine p_region rfl ?_
    refine w_assign_d rfl rfl ?_
    refine w_nil ?_
    refine n_seq rfl ?_
    refine p_ret rfl (con_ret ?_)
    cases h
    exact pd (.inl rfl) rfl rfl
  refine w_assign_d rfl rfl ?_
  refine w_nil ?_
  refine n_b ?_
  refine n_b ?_
  refine n_seq rfl ?_
  refine p_cond_f rfl rfl ?_
  refine p_seq rfl ?_
  refine p_seq rfl ?_
  refine p_region rfl ?_
  refine w_cmp h rfl rfl (fun _ h => ?_) (fun _ h => ?_)
  · refine w_assign_d rfl rfl ?_
    refine w_nil ?_
    refine n_seq rfl ?_
    refine p_cond_t rfl rfl ?_
    refine p_skip rfl ?_
    refine n_cond rfl ?_
    refine n_b ?_
    refine n_seq rfl ?_
    refine p_cond_t rfl rfl ?_
    refine p_seq rfl ?_
    refine p_region rfl ?_
    refine w_assign_d rfl rfl ?_
    refine w_nil ?_
    refine n_seq rfl ?_
    refine p_ret rfl (con_ret ?_)
    cases h
    exact pd (.inl rfl) rfl rfl
  refine w_assign_d rfl rfl ?_
  refine w_nil ?_
  refine n_seq rfl ?_
  refine p_cond_f rfl rfl ?_
  refine p_seq rfl ?_
  refine p_region rfl ?_
  refine w_cmp h rfl rfl (fun _ h => ?_) (fun _ h => ?_)
  · refine w_assign_d rfl rfl ?_
    refine w_nil ?_
    refine n_seq rfl ?_
    refine p_cond_t rfl rfl ?_
    refine p_skip rfl ?_
    refine n_cond rfl ?_
    refine n_b ?_
    refine n_b ?_
    refine n_b ?_
    refine n_seq rfl ?_
    refine p_cond_t rfl rfl ?_
    refine p_seq rfl ?_
    refine p_region rfl ?_
    refine w_assign_d rfl rfl ?_
    refine w_nil ?_
    refine n_seq rfl ?_
    refine p_ret rfl (con_ret ?_)
    cases h
    exact pd (.inl rfl) rfl rfl
  refine w_assign_d rfl rfl ?_
  refine w_nil ?_
  refine n_seq rfl ?_
  refine p_cond_f rfl rfl ?_
  refine p_region rfl ?_
  refine w_cmp h rfl rfl (fun _ h => ?_) (fun _ h => ?_)
  · refine w_assign_d rfl rfl ?_
    refine w_nil ?_
    refine n_b ?_
    refine n_b ?_
    refine n_b ?_
    refine n_b ?_
    refine n_seq rfl ?_
    refine p_cond_t rfl rfl ?_
    refine p_seq rfl ?_
    refine p_region rfl ?_
    refine w_assign_d rfl rfl ?_
    refine w_nil ?_
    refine n_seq rfl ?_
    refine p_ret rfl (con_ret ?_)
    cases h
    exact pd (.inl rfl) rfl rfl
  refine w_assign_d rfl rfl ?_
  refine w_nil ?_
  refine n_b ?_
  refine n_b ?_
  refine n_b ?_
  refine n_b ?_
  refine n_seq rfl ?_
  refine p_cond_f rfl rfl ?_
  refine p_seq rfl ?_
  refine p_region rfl ?_
  refine w_cmp h rfl rfl (fun _ h => ?_) (fun _ h => ?_)
  · refine w_assign_d rfl rfl ?_
    refine w_nil ?_
    refine n_seq rfl ?_
    refine p_cond_t rfl rfl ?_
    refine p_seq rfl ?_
    refine p_region rfl ?_
    refine w_assign_d rfl rfl ?_
    refine w_nil ?_
    refine n_seq rfl ?_
    refine p_ret rfl (con_ret ?_)
    cases h
    exact pd (.inl rfl) rfl rfl
  refine w_assign_d rfl rfl ?_
  refine w_nil ?_
  refine n_seq rfl ?_
  refine p_cond_f rfl rfl ?_
  refine p_skip rfl ?_
  refine n_b ?_
  refine n_b ?_
  refine n_b ?_
  refine n_b ?_
  refine n_b ?_
  refine n_b ?_
  refine n_b ?_
  refine n_b ?_
  refine n_b ?_
  refine n_b ?_
  refine n_b ?_
  refine n_b ?_
  refine n_b ?_
  refine n_b ?_
  refine n_blk rfl ?_
  refine n_b ?_
  refine n_seq rfl ?_
  refine p_seq rfl ?_
  refine p_region rfl ?_
  refine w_assign_d rfl rfl ?_
  refine w_nil ?_
  refine n_seq rfl ?_
  refine p_ret rfl (con_ret ?_)
  cases h
  exact pd (.inl rfl) rfl rfl
def junctionref3_Nest_L1_m (eF : List NodeT) : junctionref3_Nest_L1_S → Int → Prop := fun st r => match st with
    | .c0 nests ops i => ∀ (w0 : AV) (w1 : AV) (g : Nat → AV) (H : Hs) (n : Nat) (hH : HP H n [.own w0 ⟨3, 1⟩ (nests.map (Dat.int .i64)), .own w1 ⟨3, 1⟩ (ops.map (Dat.int .i64))]), PAt C (bodyOf Tryd.f16) (.a (.b (.a (.b (.b (.b (.b (.b .o)))))))) ⟨upd (upd (upd (upd g 0 (.d (.lst (eF.map NodeT.enc)))) 4 (w0)) 5 (w1)) 6 (.d (.int .i64 i)), H, n⟩ (PostD C Tryd.f16 [(.int .i64 r)])
    | .c1 nests ops i op a x y own k => ∀ (w0 : AV) (w1 : AV) (g : Nat → AV) (H : Hs) (n : Nat) (hH : HP H n [.own w0 ⟨3, 1⟩ (nests.map (Dat.int .i64)), .own w1 ⟨3, 1⟩ (ops.map (Dat.int .i64))]), PAt C (bodyOf Tryd.f16) (.a (.b (.a (.b (.b (.b (.b (.a (.a (.b (.a (.a (.b (.a (.b (.b (.b (.b (.b .o))))))))))))))))))) ⟨upd (upd (upd (upd (upd (upd (upd (upd (upd (upd g 0 (.d (.lst (eF.map NodeT.enc)))) 4 (w0)) 5 (w1)) 6 (.d (.int .i64 i))) 7 (.d (.int .i64 op))) 8 (.d (.int .i64 a))) 9 (.d (.int .i64 x))) 10 (.d (.int .i64 y))) 11 (.d (.int .i64 own))) 12 (.d (.int .i64 k)), H, n⟩ (PostD C Tryd.f16 [(.int .i64 r)])
    | .c2 nests ops i op a x y own k n_ asked => ∀ (w0 : AV) (w1 : AV) (g : Nat → AV) (H : Hs) (n : Nat) (hH : HP H n [.own w0 ⟨3, 1⟩ (nests.map (Dat.int .i64)), .own w1 ⟨3, 1⟩ (ops.map (Dat.int .i64))]), PAt C (bodyOf Tryd.f16) (.b (.b (.b (.a (.a (.b (.a (.a (.b (.a (.b (.b (.b (.b (.a (.a (.b (.a (.a (.b (.a (.b (.b (.b (.b (.b .o)))))))))))))))))))))))))) ⟨upd (upd (upd (upd (upd (upd (upd (upd (upd (upd (upd (upd g 0 (.d (.lst (eF.map NodeT.enc)))) 4 (w0)) 5 (w1)) 6 (.d (.int .i64 i))) 7 (.d (.int .i64 op))) 8 (.d (.int .i64 a))) 9 (.d (.int .i64 x))) 10 (.d (.int .i64 y))) 11 (.d (.int .i64 own))) 12 (.d (.int .i64 k))) 13 (.d (.int .i64 n_))) 14 (.d (.int .i64 asked)), H, n⟩ (PostD C Tryd.f16 [(.int .i64 r)])
    | .c3 nests ops i op a x y own k v => ∀ (w0 : AV) (w1 : AV) (g : Nat → AV) (H : Hs) (n : Nat) (hH : HP H n [.own w0 ⟨3, 1⟩ (nests.map (Dat.int .i64)), .own w1 ⟨3, 1⟩ (ops.map (Dat.int .i64))]), PAt C (bodyOf Tryd.f16) (.b (.b (.b (.b (.b (.a (.a (.b (.a (.a (.b (.a (.b (.b (.b (.b (.a (.a (.b (.a (.a (.b (.a (.b (.b (.b (.b (.b .o)))))))))))))))))))))))))))) ⟨upd (upd (upd (upd (upd (upd (upd (upd (upd (upd (upd g 0 (.d (.lst (eF.map NodeT.enc)))) 4 (w0)) 5 (w1)) 6 (.d (.int .i64 i))) 7 (.d (.int .i64 op))) 8 (.d (.int .i64 a))) 9 (.d (.int .i64 x))) 10 (.d (.int .i64 y))) 11 (.d (.int .i64 own))) 12 (.d (.int .i64 k))) 15 (.d (.int .i64 v)), H, n⟩ (PostD C Tryd.f16 [(.int .i64 r)])
    | .c4 nests ops i op a x y own k => ∀ (w0 : AV) (w1 : AV) (g : Nat → AV) (H : Hs) (n : Nat) (hH : HP H n [.own w0 ⟨3, 1⟩ (nests.map (Dat.int .i64)), .own w1 ⟨3, 1⟩ (ops.map (Dat.int .i64))]), PAt C (bodyOf Tryd.f16) (.b (.b (.a (.a (.b (.a (.b (.b (.b (.b (.a (.a (.b (.a (.a (.b (.a (.b (.b (.b (.b (.b .o)))))))))))))))))))))) ⟨upd (upd (upd (upd (upd (upd (upd (upd (upd (upd g 0 (.d (.lst (eF.map NodeT.enc)))) 4 (w0)) 5 (w1)) 6 (.d (.int .i64 i))) 7 (.d (.int .i64 op))) 8 (.d (.int .i64 a))) 9 (.d (.int .i64 x))) 10 (.d (.int .i64 y))) 11 (.d (.int .i64 own))) 12 (.d (.int .i64 k)), H, n⟩ (PostD C Tryd.f16 [(.int .i64 r)])
    | .c5 nests ops i op a own => ∀ (w0 : AV) (w1 : AV) (g : Nat → AV) (H : Hs) (n : Nat) (hH : HP H n [.own w0 ⟨3, 1⟩ (nests.map (Dat.int .i64)), .own w1 ⟨3, 1⟩ (ops.map (Dat.int .i64))]), PAt C (bodyOf Tryd.f16) (.a (.b (.a (.b (.b (.b (.b (.b (.a (.a (.b (.a (.a (.b (.a (.b (.b (.b (.b (.b .o)))))))))))))))))))) ⟨upd (upd (upd (upd (upd (upd (upd g 0 (.d (.lst (eF.map NodeT.enc)))) 4 (w0)) 5 (w1)) 6 (.d (.int .i64 i))) 7 (.d (.int .i64 op))) 8 (.d (.int .i64 a))) 11 (.d (.int .i64 own)), H, n⟩ (PostD C Tryd.f16 [(.int .i64 r)])
    | .c6 nests ops i op a own => ∀ (w0 : AV) (w1 : AV) (g : Nat → AV) (H : Hs) (n : Nat) (hH : HP H n [.own w0 ⟨3, 1⟩ (nests.map (Dat.int .i64)), .own w1 ⟨3, 1⟩ (ops.map (Dat.int .i64))]), PAt C (bodyOf Tryd.f16) (.b (.b (.b (.b (.b (.b (.a (.a (.b (.a (.a (.b (.a (.b (.b (.b (.b (.b .o)))))))))))))))))) ⟨upd (upd (upd (upd (upd (upd (upd g 0 (.d (.lst (eF.map NodeT.enc)))) 4 (w0)) 5 (w1)) 6 (.d (.int .i64 i))) 7 (.d (.int .i64 op))) 8 (.d (.int .i64 a))) 11 (.d (.int .i64 own)), H, n⟩ (PostD C Tryd.f16 [(.int .i64 r)])
set_option maxHeartbeats 4000000 in
theorem junctionref3_Nest_L1_run_ok (eF : List NodeT) (st : junctionref3_Nest_L1_S) (r : Int) (h : junctionref3_Nest_L1_run eF st = some r) : junctionref3_Nest_L1_m eF st r := by
  refine junctionref3_Nest_L1_run.partial_correctness eF (junctionref3_Nest_L1_m eF) (fun junctionref3_Nest_L1_run' ih_ st r h => ?_) st r h
  cases st with
  | c0 nests ops i =>
    intro w0 w1 g H n hH
    refine p_loop rfl ?_
    refine p_seq rfl ?_
    refine p_seq rfl ?_
    refine p_region rfl ?_
    refine w_move_d rfl rfl ?_
    refine w_move_d rfl rfl ?_
    refine w_len_d rfl elem22 rfl ?_
    refine w_cmp h rfl rfl (fun _ h => ?_) (fun _ h => ?_)
    · refine w_nil ?_
      refine n_seq rfl ?_
      refine p_cond_t rfl rfl ?_
      refine p_skip rfl ?_
      refine n_cond rfl ?_
      refine n_b ?_
      refine n_seq rfl ?_
      refine p_seq rfl ?_
      refine p_block rfl ?_
      refine p_seq rfl ?_
      refine p_region rfl ?_
      refine w_move_d rfl rfl ?_
      refine w_move_d rfl rfl ?_
      refine w_idx h rfl elem22 szg115 (fun _ => rfl) rfl rfl (fun t28 h => ?_)
      refine w_faddr_d rfl fo115_0 (by decide) rfl ?_
      refine w_load_d rfl szg3 rfl rfl ?_
      refine w_assign_d rfl rfl ?_
      refine w_nil ?_
      refine n_seq rfl ?_
      refine p_seq rfl ?_
      refine p_region rfl ?_
      refine w_move_d rfl rfl ?_
      refine w_scal (E := (fun y => [(.int .i64 y)])) h rfl sig68 (sc rfl (sn)) (fun y hy => junctionref3_Arity_ok _ y hy) (fun _ => rfl) (fun t32 h => ?_)
      refine w_assign_d rfl rfl ?_
      refine w_nil ?_
      refine n_seq rfl ?_
      refine p_seq rfl ?_
      refine p_region rfl ?_
      refine w_move_d rfl rfl ?_
      refine w_scal (E := (fun y => [(.int .i64 y.1), (.int .i64 y.2)])) h rfl sig70 (sc rfl (sn)) (fun y hy => junctionref3_Asked_ok _ y hy) (fun _ => rfl) (fun t35 h => ?_)
      refine w_move_v (.tup [.d (.int .i64 t35.1), .d (.int .i64 t35.2)]) rfl rfl ?_
      refine w_extract_d rfl rfl rfl ?_
      refine w_extract_d rfl rfl rfl ?_
      refine w_assign_d rfl rfl ?_
      refine w_assign_d rfl rfl ?_
      refine w_nil ?_
      refine n_seq rfl ?_
      refine p_seq rfl ?_
      refine p_region rfl ?_
      refine w_assign_d rfl rfl ?_
      refine w_nil ?_
      refine n_seq rfl ?_
      refine p_seq rfl ?_
      refine p_seq rfl ?_
      refine p_region rfl ?_
      refine w_assign_d rfl rfl ?_
      refine w_nil ?_
      refine n_seq rfl ?_
      refine p_block rfl ?_
      exact jmp 0 _ rfl (jmp 4 _ rfl (jmp 5 _ rfl (jmp 6 _ rfl (jmp 7 _ rfl (jmp 8 _ rfl (jmp 9 _ rfl (jmp 10 _ rfl (jmp 11 _ rfl (jmp 12 _ rfl (ih_ (.c1 _ _ _ _ _ _ _ _ _) _ h _ _ _ _ _ hH))))))))))
    refine w_nil ?_
    refine n_seq rfl ?_
    refine p_cond_f rfl rfl ?_
    refine p_exit rfl ?_
    refine n_b ?_
    refine n_b ?_
    refine x_seq rfl ?_
    refine x_loop rfl ?_
    refine x_blk rfl ?_
    refine n_b ?_
    refine n_seq rfl ?_
    refine p_seq rfl ?_
    refine p_region rfl ?_
    refine w_move_v (w0) rfl rfl ?_
    refine w_idx_own h rfl elem122 szg3 hH (j := 0) rfl rfl rfl (fun i89 t105 h hl89 hv89 => ?_)
    refine w_load_e rfl szg3 hH (j := 0) rfl hl89 rfl hv89 rfl ?_
    refine w_assign_d rfl rfl ?_
    refine w_nil ?_
    refine n_seq rfl ?_
    refine p_ret rfl (con_ret ?_)
    cases h
    exact pd (.inl rfl) rfl rfl
  | c1 nests ops i op a x y own k =>
    intro w0 w1 g H n hH
    refine p_loop rfl ?_
    refine p_seq rfl ?_
    refine p_seq rfl ?_
    refine p_region rfl ?_
    refine w_move_d rfl rfl ?_
    refine w_move_d rfl rfl ?_
    refine w_cmp h rfl rfl (fun _ h => ?_) (fun _ h => ?_)
    · refine w_nil ?_
      refine n_seq rfl ?_
      refine p_cond_t rfl rfl ?_
      refine p_skip rfl ?_
      refine n_cond rfl ?_
      refine n_b ?_
      refine n_seq rfl ?_
      refine p_seq rfl ?_
      refine p_block rfl ?_
      refine p_seq rfl ?_
      refine p_region rfl ?_
      refine w_move_v (w0) rfl rfl ?_
      refine w_len_own rfl elem122 hH (j := 0) rfl rfl ?_
      refine w_move_d rfl rfl ?_
      refine w_bin rfl rfl ?_
      refine w_move_d rfl rfl ?_
      refine w_bin rfl rfl ?_
      refine w_assign_d rfl rfl ?_
      refine w_nil ?_
      refine n_seq rfl ?_
      refine p_seq rfl ?_
      refine p_region rfl ?_
      refine w_move_d rfl rfl ?_
      refine w_assign_d rfl rfl ?_
      refine w_nil ?_
      refine n_seq rfl ?_
      refine p_seq rfl ?_
      refine p_seq rfl ?_
      refine p_region rfl ?_
      refine w_move_d rfl rfl ?_
      refine w_cmp h rfl rfl (fun _ h => ?_) (fun _ h => ?_)
      · refine w_nil ?_
        refine n_seq rfl ?_
        refine p_cond_t rfl rfl ?_
        refine p_region rfl ?_
        refine w_move_d rfl rfl ?_
        refine w_assign_d rfl rfl ?_
        refine w_nil ?_
        refine n_cond rfl ?_
        refine n_b ?_
        refine n_seq rfl ?_
        exact jmp 0 _ rfl (jmp 4 _ rfl (jmp 5 _ rfl (jmp 6 _ rfl (jmp 7 _ rfl (jmp 8 _ rfl (jmp 9 _ rfl (jmp 10 _ rfl (jmp 11 _ rfl (jmp 12 _ rfl (jmp 13 _ rfl (jmp 14 _ rfl (ih_ (.c2 _ _ _ _ _ _ _ _ _ _ _) _ h _ _ _ _ _ hH))))))))))))
      refine w_nil ?_
      refine n_seq rfl ?_
      refine p_cond_f rfl rfl ?_
      refine p_skip rfl ?_
      refine n_b ?_
      refine n_b ?_
      refine n_seq rfl ?_
      exact jmp 0 _ rfl (jmp 4 _ rfl (jmp 5 _ rfl (jmp 6 _ rfl (jmp 7 _ rfl (jmp 8 _ rfl (jmp 9 _ rfl (jmp 10 _ rfl (jmp 11 _ rfl (jmp 12 _ rfl (jmp 13 _ rfl (jmp 14 _ rfl (ih_ (.c2 _ _ _ _ _ _ _ _ _ _ _) _ h _ _ _ _ _ hH))))))))))))
    refine w_nil ?_
    refine n_seq rfl ?_
    refine p_cond_f rfl rfl ?_
    refine p_exit rfl ?_
    refine n_b ?_
    refine n_b ?_
    refine x_seq rfl ?_
    refine x_loop rfl ?_
    refine x_blk rfl ?_
    refine n_b ?_
    refine n_seq rfl ?_
    refine p_seq rfl ?_
    refine p_seq rfl ?_
    refine p_region rfl ?_
    refine w_move_d rfl rfl ?_
    refine w_cmp h rfl rfl (fun _ h => ?_) (fun _ h => ?_)
    · refine w_move_d rfl rfl ?_
      refine w_move_d rfl rfl ?_
      refine w_cmp h rfl rfl (fun _ h => ?_) (fun _ h => ?_)
      · refine w_pick_td rfl rfl rfl ?_
        refine w_move_d rfl rfl ?_
        refine w_skip rfl ?_
        refine w_skip rfl ?_
        refine w_pick_td rfl rfl rfl ?_
        refine w_move_d rfl rfl ?_
        refine w_skip rfl ?_
        refine w_skip rfl ?_
        refine w_pick_td rfl rfl rfl ?_
        refine w_nil ?_
        refine n_seq rfl ?_
        refine p_cond_t rfl rfl ?_
        exact jmp 0 _ rfl (jmp 4 _ rfl (jmp 5 _ rfl (jmp 6 _ rfl (jmp 7 _ rfl (jmp 8 _ rfl (jmp 11 _ rfl (ih_ (.c5 _ _ _ _ _ _) _ h _ _ _ _ _ hH)))))))
      refine w_pick_td rfl rfl rfl ?_
      refine w_move_d rfl rfl ?_
      refine w_move_d rfl rfl ?_
      refine w_cmp h rfl rfl (fun _ h => ?_) (fun _ h => ?_)
      · refine w_pick_fd rfl rfl rfl ?_
        refine w_move_d rfl rfl ?_
        refine w_skip rfl ?_
        refine w_skip rfl ?_
        refine w_pick_td rfl rfl rfl ?_
        refine w_nil ?_
        refine n_seq rfl ?_
        refine p_cond_t rfl rfl ?_
        exact jmp 0 _ rfl (jmp 4 _ rfl (jmp 5 _ rfl (jmp 6 _ rfl (jmp 7 _ rfl (jmp 8 _ rfl (jmp 11 _ rfl (ih_ (.c5 _ _ _ _ _ _) _ h _ _ _ _ _ hH)))))))
      refine w_pick_fd rfl rfl rfl ?_
      refine w_move_d rfl rfl ?_
      refine w_move_d rfl rfl ?_
      refine w_cmp h rfl rfl (fun _ h => ?_) (fun _ h => ?_)
      · refine w_pick_fd rfl rfl rfl ?_
        refine w_nil ?_
        refine n_seq rfl ?_
        refine p_cond_t rfl rfl ?_
        exact jmp 0 _ rfl (jmp 4 _ rfl (jmp 5 _ rfl (jmp 6 _ rfl (jmp 7 _ rfl (jmp 8 _ rfl (jmp 11 _ rfl (ih_ (.c5 _ _ _ _ _ _) _ h _ _ _ _ _ hH)))))))
      refine w_pick_fd rfl rfl rfl ?_
      refine w_nil ?_
      refine n_seq rfl ?_
      refine p_cond_f rfl rfl ?_
      refine p_skip rfl ?_
      refine n_b ?_
      refine n_b ?_
      refine n_seq rfl ?_
      exact jmp 0 _ rfl (jmp 4 _ rfl (jmp 5 _ rfl (jmp 6 _ rfl (jmp 7 _ rfl (jmp 8 _ rfl (jmp 11 _ rfl (ih_ (.c6 _ _ _ _ _ _) _ h _ _ _ _ _ hH)))))))
    refine w_move_d rfl rfl ?_
    refine w_skip rfl ?_
    refine w_skip rfl ?_
    refine w_pick_fd rfl rfl rfl ?_
    refine w_move_d rfl rfl ?_
    refine w_move_d rfl rfl ?_
    refine w_cmp h rfl rfl (fun _ h => ?_) (fun _ h => ?_)
    · refine w_pick_fd rfl rfl rfl ?_
      refine w_move_d rfl rfl ?_
      refine w_skip rfl ?_
      refine w_skip rfl ?_
      refine w_pick_td rfl rfl rfl ?_
      refine w_nil ?_
      refine n_seq rfl ?_
      refine p_cond_t rfl rfl ?_
      exact jmp 0 _ rfl (jmp 4 _ rfl (jmp 5 _ rfl (jmp 6 _ rfl (jmp 7 _ rfl (jmp 8 _ rfl (jmp 11 _ rfl (ih_ (.c5 _ _ _ _ _ _) _ h _ _ _ _ _ hH)))))))
    refine w_pick_fd rfl rfl rfl ?_
    refine w_move_d rfl rfl ?_
    refine w_move_d rfl rfl ?_
    refine w_cmp h rfl rfl (fun _ h => ?_) (fun _ h => ?_)
    · refine w_pick_fd rfl rfl rfl ?_
      refine w_nil ?_
      refine n_seq rfl ?_
      refine p_cond_t rfl rfl ?_
      exact jmp 0 _ rfl (jmp 4 _ rfl (jmp 5 _ rfl (jmp 6 _ rfl (jmp 7 _ rfl (jmp 8 _ rfl (jmp 11 _ rfl (ih_ (.c5 _ _ _ _ _ _) _ h _ _ _ _ _ hH)))))))
    refine w_pick_fd rfl rfl rfl ?_
    refine w_nil ?_
    refine n_seq rfl ?_
    refine p_cond_f rfl rfl ?_
    refine p_skip rfl ?_
    refine n_b ?_
    refine n_b ?_
    refine n_seq rfl ?_
    exact jmp 0 _ rfl (jmp 4 _ rfl (jmp 5 _ rfl (jmp 6 _ rfl (jmp 7 _ rfl (jmp 8 _ rfl (jmp 11 _ rfl (ih_ (.c6 _ _ _ _ _ _) _ h _ _ _ _ _ hH)))))))
  | c2 nests ops i op a x y own k n_ asked =>
    intro w0 w1 g H n hH
    refine p_seq rfl ?_
    refine p_region rfl ?_
    refine w_move_v (w0) rfl rfl ?_
    refine w_move_d rfl rfl ?_
    refine w_idx_own h rfl elem122 szg3 hH (j := 0) rfl rfl rfl (fun i90 t55 h hl90 hv90 => ?_)
    refine w_load_e rfl szg3 hH (j := 0) rfl hl90 rfl hv90 rfl ?_
    refine w_assign_d rfl rfl ?_
    refine w_nil ?_
    refine n_seq rfl ?_
    refine p_seq rfl ?_
    refine p_seq rfl ?_
    refine p_region rfl ?_
    refine w_move_v (w1) rfl rfl ?_
    refine w_move_d rfl rfl ?_
    refine w_idx_own h rfl elem122 szg3 hH (j := 1) rfl rfl rfl (fun i91 t59 h hl91 hv91 => ?_)
    refine w_load_e rfl szg3 hH (j := 1) rfl hl91 rfl hv91 rfl ?_
    refine w_scal (E := (fun y => [(.int .i64 y)])) h rfl sig71 (sc rfl (sn)) (fun y hy => junctionref3_Level_ok _ y hy) (fun _ => rfl) (fun t61 h => ?_)
    refine w_move_d rfl rfl ?_
    refine w_cmp h rfl rfl (fun _ h => ?_) (fun _ h => ?_)
    · refine w_nil ?_
      refine n_seq rfl ?_
      refine p_cond_t rfl rfl ?_
      refine p_region rfl ?_
      refine w_move_d rfl rfl ?_
      refine w_bin rfl rfl ?_
      refine w_assign_d rfl rfl ?_
      refine w_nil ?_
      refine n_cond rfl ?_
      refine n_b ?_
      refine n_seq rfl ?_
      exact jmp 0 _ rfl (jmp 4 _ rfl (jmp 5 _ rfl (jmp 6 _ rfl (jmp 7 _ rfl (jmp 8 _ rfl (jmp 9 _ rfl (jmp 10 _ rfl (jmp 11 _ rfl (jmp 12 _ rfl (jmp 15 _ rfl (ih_ (.c3 _ _ _ _ _ _ _ _ _ _) _ h _ _ _ _ _ hH)))))))))))
    refine w_nil ?_
    refine n_seq rfl ?_
    refine p_cond_f rfl rfl ?_
    refine p_skip rfl ?_
    refine n_b ?_
    refine n_b ?_
    refine n_seq rfl ?_
    exact jmp 0 _ rfl (jmp 4 _ rfl (jmp 5 _ rfl (jmp 6 _ rfl (jmp 7 _ rfl (jmp 8 _ rfl (jmp 9 _ rfl (jmp 10 _ rfl (jmp 11 _ rfl (jmp 12 _ rfl (jmp 15 _ rfl (ih_ (.c3 _ _ _ _ _ _ _ _ _ _) _ h _ _ _ _ _ hH)))))))))))
  | c3 nests ops i op a x y own k v =>
    intro w0 w1 g H n hH
    refine p_seq rfl ?_
    refine p_region rfl ?_
    refine w_move_d rfl rfl ?_
    refine w_move_d rfl rfl ?_
    refine w_cmp h rfl rfl (fun _ h => ?_) (fun _ h => ?_)
    · refine w_nil ?_
      refine n_seq rfl ?_
      refine p_cond_t rfl rfl ?_
      refine p_region rfl ?_
      refine w_move_d rfl rfl ?_
      refine w_assign_d rfl rfl ?_
      refine w_nil ?_
      refine n_cond rfl ?_
      refine n_b ?_
      refine n_b ?_
      refine n_b ?_
      refine n_b ?_
      refine n_b ?_
      refine n_b ?_
      refine n_blk rfl ?_
      refine n_seq rfl ?_
      exact jmp 0 _ rfl (jmp 4 _ rfl (jmp 5 _ rfl (jmp 6 _ rfl (jmp 7 _ rfl (jmp 8 _ rfl (jmp 9 _ rfl (jmp 10 _ rfl (jmp 11 _ rfl (jmp 12 _ rfl (ih_ (.c4 _ _ _ _ _ _ _ _ _) _ h _ _ _ _ _ hH))))))))))
    refine w_nil ?_
    refine n_seq rfl ?_
    refine p_cond_f rfl rfl ?_
    refine p_skip rfl ?_
    refine n_b ?_
    refine n_b ?_
    refine n_b ?_
    refine n_b ?_
    refine n_b ?_
    refine n_b ?_
    refine n_b ?_
    refine n_blk rfl ?_
    refine n_seq rfl ?_
    exact jmp 0 _ rfl (jmp 4 _ rfl (jmp 5 _ rfl (jmp 6 _ rfl (jmp 7 _ rfl (jmp 8 _ rfl (jmp 9 _ rfl (jmp 10 _ rfl (jmp 11 _ rfl (jmp 12 _ rfl (ih_ (.c4 _ _ _ _ _ _ _ _ _) _ h _ _ _ _ _ hH))))))))))
  | c4 nests ops i op a x y own k =>
    intro w0 w1 g H n hH
    refine p_region rfl ?_
    refine w_move_d rfl rfl ?_
    refine w_bin rfl rfl ?_
    refine w_assign_d rfl rfl ?_
    refine w_nil ?_
    refine n_b ?_
    refine n_b ?_
    refine n_loop rfl ?_
    exact jmp 0 _ rfl (jmp 4 _ rfl (jmp 5 _ rfl (jmp 6 _ rfl (jmp 7 _ rfl (jmp 8 _ rfl (jmp 9 _ rfl (jmp 10 _ rfl (jmp 11 _ rfl (jmp 12 _ rfl (ih_ (.c1 _ _ _ _ _ _ _ _ _) _ h _ _ _ _ _ hH))))))))))
  | c5 nests ops i op a own =>
    intro w0 w1 g H n hH
    refine p_region rfl ?_
    refine w_move_d rfl rfl ?_
    refine w_bin rfl rfl ?_
    refine w_assign_d rfl rfl ?_
    refine w_nil ?_
    refine n_cond rfl ?_
    refine n_b ?_
    refine n_seq rfl ?_
    exact jmp 0 _ rfl (jmp 4 _ rfl (jmp 5 _ rfl (jmp 6 _ rfl (jmp 7 _ rfl (jmp 8 _ rfl (jmp 11 _ rfl (ih_ (.c6 _ _ _ _ _ _) _ h _ _ _ _ _ hH)))))))
  | c6 nests ops i op a own =>
    intro w0 w1 g H n hH
    refine p_seq rfl ?_
    refine p_region rfl ?_
    refine w_move_v (w0) rfl rfl ?_
    refine w_move_v (w0) rfl rfl ?_
    refine w_len_own rfl elem122 hH (j := 0) rfl rfl ?_
    refine w_move_d rfl rfl ?_
    refine w_bin rfl rfl ?_
    refine w_cut_own h rfl elem122 szg3 hH (j := 0) rfl rfl lh_nh (fun t91 w1092 H' n' h hH => ?_)
    refine w_move_d rfl rfl ?_
    refine w_bslice (enc := (Dat.int .i64)) (xs := [own]) [.d (.int .i64 own)] rfl elem122 szg3 zero3 ⟨by decide, Nat.le_of_ble_eq_true rfl⟩ zd3 (fun _ => rfl) (fun _ => rfl) rfl rfl hH (fun w1093 H' n' hH => ?_)
    refine w_append (enc := (Dat.int .i64)) h rfl elem122 szg3 bytes3 (by decide) (fun _ => rfl) hH (j := 1) rfl rfl (shows_own hH (j := 0) rfl) (fun t94 w1094 H' n' h hH => ?_)
    refine w_assign_v (w1094) rfl rfl ?_
    refine w_nil ?_
    refine n_seq rfl ?_
    refine p_region rfl ?_
    refine w_move_v (w1) rfl rfl ?_
    refine w_move_v (w1) rfl rfl ?_
    refine w_len_own rfl elem122 hH (j := 2) rfl rfl ?_
    refine w_move_d rfl rfl ?_
    refine w_bin rfl rfl ?_
    refine w_cut_own h rfl elem122 szg3 hH (j := 2) rfl rfl lh_nh (fun t100 w1095 H' n' h hH => ?_)
    refine w_move_d rfl rfl ?_
    refine w_bslice (enc := (Dat.int .i64)) (xs := [op]) [.d (.int .i64 op)] rfl elem122 szg3 zero3 ⟨by decide, Nat.le_of_ble_eq_true rfl⟩ zd3 (fun _ => rfl) (fun _ => rfl) rfl rfl hH (fun w1096 H' n' hH => ?_)
    refine w_append (enc := (Dat.int .i64)) h rfl elem122 szg3 bytes3 (by decide) (fun _ => rfl) hH (j := 3) rfl rfl (shows_own hH (j := 0) rfl) (fun t103 w1097 H' n' h hH => ?_)
    refine w_assign_v (w1097) rfl rfl ?_
    refine w_nil ?_
    refine n_b ?_
    refine n_b ?_
    refine n_b ?_
    refine n_b ?_
    refine n_b ?_
    refine n_b ?_
    refine n_b ?_
    refine n_blk rfl ?_
    refine n_seq rfl ?_
    refine p_region rfl ?_
    refine w_move_d rfl rfl ?_
    refine w_bin rfl rfl ?_
    refine w_assign_d rfl rfl ?_
    refine w_nil ?_
    refine n_b ?_
    refine n_b ?_
    refine n_loop rfl ?_
    exact jmp 0 _ rfl (jmp 4 _ rfl (jmp 5 _ rfl (jmp 6 _ rfl (ih_ (.c0 _ _ _) _ h _ _ _ _ _ (hH.sel [2, 0] (by decide))))))
theorem junctionref3_Nest_L1_ok (eF : List NodeT) (nests : List Int) (ops : List Int) (i : Int) (r : Int) (h : junctionref3_Nest_L1 eF nests ops i = some r) (w0 : AV) (w1 : AV) (g : Nat → AV) (H : Hs) (n : Nat) (hH : HP H n [.own w0 ⟨3, 1⟩ (nests.map (Dat.int .i64)), .own w1 ⟨3, 1⟩ (ops.map (Dat.int .i64))]) : PAt C (bodyOf Tryd.f16) (.a (.b (.a (.b (.b (.b (.b (.b .o)))))))) ⟨upd (upd (upd (upd g 0 (.d (.lst (eF.map NodeT.enc)))) 4 (w0)) 5 (w1)) 6 (.d (.int .i64 i)), H, n⟩ (PostD C Tryd.f16 [(.int .i64 r)]) := junctionref3_Nest_L1_run_ok eF (.c0 nests ops i) r h w0 w1 g H n hH
theorem junctionref3_Nest_L3_ok (eF : List NodeT) (nests : List Int) (ops : List Int) (i : Int) (op : Int) (a : Int) (x : Int) (y : Int) (own : Int) (k : Int) (r : Int) (h : junctionref3_Nest_L3 eF nests ops i op a x y own k = some r) (w0 : AV) (w1 : AV) (g : Nat → AV) (H : Hs) (n : Nat) (hH : HP H n [.own w0 ⟨3, 1⟩ (nests.map (Dat.int .i64)), .own w1 ⟨3, 1⟩ (ops.map (Dat.int .i64))]) : PAt C (bodyOf Tryd.f16) (.a (.b (.a (.b (.b (.b (.b (.a (.a (.b (.a (.a (.b (.a (.b (.b (.b (.b (.b .o))))))))))))))))))) ⟨upd (upd (upd (upd (upd (upd (upd (upd (upd (upd g 0 (.d (.lst (eF.map NodeT.enc)))) 4 (w0)) 5 (w1)) 6 (.d (.int .i64 i))) 7 (.d (.int .i64 op))) 8 (.d (.int .i64 a))) 9 (.d (.int .i64 x))) 10 (.d (.int .i64 y))) 11 (.d (.int .i64 own))) 12 (.d (.int .i64 k)), H, n⟩ (PostD C Tryd.f16 [(.int .i64 r)]) := junctionref3_Nest_L1_run_ok eF (.c1 nests ops i op a x y own k) r h w0 w1 g H n hH
theorem junctionref3_Nest_k4_ok (eF : List NodeT) (nests : List Int) (ops : List Int) (i : Int) (op : Int) (a : Int) (x : Int) (y : Int) (own : Int) (k : Int) (n_ : Int) (asked : Int) (r : Int) (h : junctionref3_Nest_k4 eF nests ops i op a x y own k n_ asked = some r) (w0 : AV) (w1 : AV) (g : Nat → AV) (H : Hs) (n : Nat) (hH : HP H n [.own w0 ⟨3, 1⟩ (nests.map (Dat.int .i64)), .own w1 ⟨3, 1⟩ (ops.map (Dat.int .i64))]) : PAt C (bodyOf Tryd.f16) (.b (.b (.b (.a (.a (.b (.a (.a (.b (.a (.b (.b (.b (.b (.a (.a (.b (.a (.a (.b (.a (.b (.b (.b (.b (.b .o)))))))))))))))))))))))))) ⟨upd (upd (upd (upd (upd (upd (upd (upd (upd (upd (upd (upd g 0 (.d (.lst (eF.map NodeT.enc)))) 4 (w0)) 5 (w1)) 6 (.d (.int .i64 i))) 7 (.d (.int .i64 op))) 8 (.d (.int .i64 a))) 9 (.d (.int .i64 x))) 10 (.d (.int .i64 y))) 11 (.d (.int .i64 own))) 12 (.d (.int .i64 k))) 13 (.d (.int .i64 n_))) 14 (.d (.int .i64 asked)), H, n⟩ (PostD C Tryd.f16 [(.int .i64 r)]) := junctionref3_Nest_L1_run_ok eF (.c2 nests ops i op a x y own k n_ asked) r h w0 w1 g H n hH
theorem junctionref3_Nest_k8_ok (eF : List NodeT) (nests : List Int) (ops : List Int) (i : Int) (op : Int) (a : Int) (x : Int) (y : Int) (own : Int) (k : Int) (v : Int) (r : Int) (h : junctionref3_Nest_k8 eF nests ops i op a x y own k v = some r) (w0 : AV) (w1 : AV) (g : Nat → AV) (H : Hs) (n : Nat) (hH : HP H n [.own w0 ⟨3, 1⟩ (nests.map (Dat.int .i64)), .own w1 ⟨3, 1⟩ (ops.map (Dat.int .i64))]) : PAt C (bodyOf Tryd.f16) (.b (.b (.b (.b (.b (.a (.a (.b (.a (.a (.b (.a (.b (.b (.b (.b (.a (.a (.b (.a (.a (.b (.a (.b (.b (.b (.b (.b .o)))))))))))))))))))))))))))) ⟨upd (upd (upd (upd (upd (upd (upd (upd (upd (upd (upd g 0 (.d (.lst (eF.map NodeT.enc)))) 4 (w0)) 5 (w1)) 6 (.d (.int .i64 i))) 7 (.d (.int .i64 op))) 8 (.d (.int .i64 a))) 9 (.d (.int .i64 x))) 10 (.d (.int .i64 y))) 11 (.d (.int .i64 own))) 12 (.d (.int .i64 k))) 15 (.d (.int .i64 v)), H, n⟩ (PostD C Tryd.f16 [(.int .i64 r)]) := junctionref3_Nest_L1_run_ok eF (.c3 nests ops i op a x y own k v) r h w0 w1 g H n hH
theorem junctionref3_Nest_k7_ok (eF : List NodeT) (nests : List Int) (ops : List Int) (i : Int) (op : Int) (a : Int) (x : Int) (y : Int) (own : Int) (k : Int) (r : Int) (h : junctionref3_Nest_k7 eF nests ops i op a x y own k = some r) (w0 : AV) (w1 : AV) (g : Nat → AV) (H : Hs) (n : Nat) (hH : HP H n [.own w0 ⟨3, 1⟩ (nests.map (Dat.int .i64)), .own w1 ⟨3, 1⟩ (ops.map (Dat.int .i64))]) : PAt C (bodyOf Tryd.f16) (.b (.b (.a (.a (.b (.a (.b (.b (.b (.b (.a (.a (.b (.a (.a (.b (.a (.b (.b (.b (.b (.b .o)))))))))))))))))))))) ⟨upd (upd (upd (upd (upd (upd (upd (upd (upd (upd g 0 (.d (.lst (eF.map NodeT.enc)))) 4 (w0)) 5 (w1)) 6 (.d (.int .i64 i))) 7 (.d (.int .i64 op))) 8 (.d (.int .i64 a))) 9 (.d (.int .i64 x))) 10 (.d (.int .i64 y))) 11 (.d (.int .i64 own))) 12 (.d (.int .i64 k)), H, n⟩ (PostD C Tryd.f16 [(.int .i64 r)]) := junctionref3_Nest_L1_run_ok eF (.c4 nests ops i op a x y own k) r h w0 w1 g H n hH
theorem junctionref3_Nest_k5_ok (eF : List NodeT) (nests : List Int) (ops : List Int) (i : Int) (op : Int) (a : Int) (own : Int) (r : Int) (h : junctionref3_Nest_k5 eF nests ops i op a own = some r) (w0 : AV) (w1 : AV) (g : Nat → AV) (H : Hs) (n : Nat) (hH : HP H n [.own w0 ⟨3, 1⟩ (nests.map (Dat.int .i64)), .own w1 ⟨3, 1⟩ (ops.map (Dat.int .i64))]) : PAt C (bodyOf Tryd.f16) (.a (.b (.a (.b (.b (.b (.b (.b (.a (.a (.b (.a (.a (.b (.a (.b (.b (.b (.b (.b .o)))))))))))))))))))) ⟨upd (upd (upd (upd (upd (upd (upd g 0 (.d (.lst (eF.map NodeT.enc)))) 4 (w0)) 5 (w1)) 6 (.d (.int .i64 i))) 7 (.d (.int .i64 op))) 8 (.d (.int .i64 a))) 11 (.d (.int .i64 own)), H, n⟩ (PostD C Tryd.f16 [(.int .i64 r)]) := junctionref3_Nest_L1_run_ok eF (.c5 nests ops i op a own) r h w0 w1 g H n hH
theorem junctionref3_Nest_k6_ok (eF : List NodeT) (nests : List Int) (ops : List Int) (i : Int) (op : Int) (a : Int) (own : Int) (r : Int) (h : junctionref3_Nest_k6 eF nests ops i op a own = some r) (w0 : AV) (w1 : AV) (g : Nat → AV) (H : Hs) (n : Nat) (hH : HP H n [.own w0 ⟨3, 1⟩ (nests.map (Dat.int .i64)), .own w1 ⟨3, 1⟩ (ops.map (Dat.int .i64))]) : PAt C (bodyOf Tryd.f16) (.b (.b (.b (.b (.b (.b (.a (.a (.b (.a (.a (.b (.a (.b (.b (.b (.b (.b .o)))))))))))))))))) ⟨upd (upd (upd (upd (upd (upd (upd g 0 (.d (.lst (eF.map NodeT.enc)))) 4 (w0)) 5 (w1)) 6 (.d (.int .i64 i))) 7 (.d (.int .i64 op))) 8 (.d (.int .i64 a))) 11 (.d (.int .i64 own)), H, n⟩ (PostD C Tryd.f16 [(.int .i64 r)]) := junctionref3_Nest_L1_run_ok eF (.c6 nests ops i op a own) r h w0 w1 g H n hH
set_option maxHeartbeats 4000000 in
theorem junctionref3_Nest_k2_ok (e : List NodeT) (ok : Bool) (r : Int) (h : junctionref3_Nest_k2 e ok = some r) (g : Nat → AV) (H : Hs) (n : Nat) : PAt C (bodyOf Tryd.f16) (.b (.b .o)) ⟨upd (upd g 0 (.d (.lst (e.map NodeT.enc)))) 3 (.d (.bool ok)), H, n⟩ (PostD C Tryd.f16 [(.int .i64 r)]) := by
  refine p_seq rfl ?_
  refine p_seq rfl ?_
  refine p_region rfl ?_
  refine w_move_d rfl rfl ?_
  refine w_un rfl rfl rfl ?_
  refine w_nil ?_
  refine n_seq rfl ?_
  refine p_condB rfl h rfl (fun _ h => ?_) (fun _ h => ?_)
  · refine p_seq rfl ?_
    refine p_region rfl ?_
    refine w_assign_d rfl rfl ?_
    refine w_nil ?_
    refine n_seq rfl ?_
    refine p_ret rfl (con_ret ?_)
    cases h
    exact pd (.inl rfl) rfl rfl
  refine p_skip rfl ?_
  refine n_b ?_
  refine n_b ?_
  refine n_seq rfl ?_
  refine p_seq rfl ?_
  refine p_region rfl ?_
  refine w_assign_v (.nil) rfl rfl ?_
  refine w_nil ?_
  refine n_seq rfl ?_
  refine p_seq rfl ?_
  refine p_region rfl ?_
  refine w_assign_v (.nil) rfl rfl ?_
  refine w_nil ?_
  refine n_seq rfl ?_
  refine p_seq rfl ?_
  refine p_seq rfl ?_
  refine p_region rfl ?_
  refine w_assign_d rfl rfl ?_
  refine w_nil ?_
  refine n_seq rfl ?_
  refine p_block rfl ?_
  exact jmp 0 _ rfl (jmp 4 _ rfl (jmp 5 _ rfl (jmp 6 _ rfl (junctionref3_Nest_L1_ok _ _ _ _ _ h _ _ _ _ _ ((((HP.nil _ _).addNil (z := ⟨3, 1⟩)).addNil (z := ⟨3, 1⟩)).sel [1, 0] (by decide))))))
set_option maxHeartbeats 4000000 in
theorem junctionref3_Nest_ok (e : List NodeT) (r : Int) (h : junctionref3_Nest e = some r) : callD C 16 [(.lst (e.map NodeT.enc))] = some [(.int .i64 r)] := by
  refine callD_at (ext0 _ _) fn16 rfl ?_
  refine jmp 0 _ rfl ?_
  refine p_seq rfl ?_
  refine p_region rfl ?_
  refine w_assign_d rfl rfl ?_
  refine w_nil ?_
  refine n_seq rfl ?_
  refine p_seq rfl ?_
  refine p_region rfl ?_
  refine w_move_d rfl rfl ?_
  refine w_scal (E := (fun y => [(.bool y)])) h rfl sig69 (sc rfl (sn)) (fun y hy => junctionref3_One_ok _ y hy) (fun _ => rfl) (fun t17 h => ?_)
  revert h; cases t17 <;> intro h
  · replace h := (if_neg Bool.false_ne_true).symm.trans h
    refine w_assign_d rfl rfl ?_
    refine w_nil ?_
    refine n_seq rfl ?_
    exact jmp 0 _ rfl (jmp 3 _ rfl (junctionref3_Nest_k2_ok _ _ _ h _ _ _))
  replace h := (if_pos rfl).symm.trans h
  refine w_assign_d rfl rfl ?_
  refine w_nil ?_
  refine n_seq rfl ?_
  exact jmp 0 _ rfl (jmp 3 _ rfl (junctionref3_Nest_k2_ok _ _ _ h _ _ _))
set_option maxHeartbeats 4000000 in
theorem junctionlaw3_nodes_L1_ok (a : List NodeT) (b : List NodeT) (i : Int) (r : Bool) (h : junctionlaw3_nodes_L1 a b i = some r) (g : Nat → AV) (H : Hs) (n : Nat) : PAt C (bodyOf Tryd.f17) (.a (.b (.a (.b (.b .o))))) ⟨upd (upd (upd g 0 (.d (.lst (a.map NodeT.enc)))) 1 (.d (.lst (b.map NodeT.enc)))) 5 (.d (.int .i64 i)), H, n⟩ (PostD C Tryd.f17 [(.bool r)]) := by
  refine junctionlaw3_nodes_L1.partial_correctness a b (fun i r => ∀ (g : Nat → AV) (H : Hs) (n : Nat), PAt C (bodyOf Tryd.f17) (.a (.b (.a (.b (.b .o))))) ⟨upd (upd (upd g 0 (.d (.lst (a.map NodeT.enc)))) 1 (.d (.lst (b.map NodeT.enc)))) 5 (.d (.int .i64 i)), H, n⟩ (PostD C Tryd.f17 [(.bool r)])) (fun junctionlaw3_nodes_L1 ih_junctionlaw3_nodes_L1 i r h g H n => ?_) i r h g H n
  refine p_loop rfl ?_
  refine p_seq rfl ?_
  refine p_seq rfl ?_
  refine p_region rfl ?_
  refine w_move_d rfl rfl ?_
  refine w_move_d rfl rfl ?_
  refine w_len_d rfl elem22 rfl ?_
  refine w_cmp h rfl rfl (fun _ h => ?_) (fun _ h => ?_)
  · refine w_nil ?_
    refine n_seq rfl ?_
    refine p_cond_t rfl rfl ?_
    refine p_skip rfl ?_
    refine n_cond rfl ?_
    refine n_b ?_
    refine n_seq rfl ?_
    refine p_seq rfl ?_
    refine p_block rfl ?_
    refine p_seq rfl ?_
    refine p_calm rfl (by kernel_rfl) ?_
    refine w_move_d rfl rfl ?_
    refine w_move_d rfl rfl ?_
    refine w_idx h rfl elem22 szg115 (fun _ => rfl) rfl rfl (fun t19 h => ?_)
    refine w_load_d (d := (NodeT.enc t19)) rfl szg115 rfl rfl ?_
    refine w_move_d rfl rfl ?_
    refine w_move_d rfl rfl ?_
    refine w_idx h rfl elem22 szg115 (fun _ => rfl) rfl rfl (fun t23 h => ?_)
    refine w_load_d (d := (NodeT.enc t23)) rfl szg115 rfl rfl ?_
    refine w_split (b := (!(decide (t19.Op = t23.Op) && (decide (t19.Val = t23.Val) && (decide (t19.Name = t23.Name) && (decide (t19.At.Line = t23.At.Line) && (decide (t19.At.Col = t23.At.Col) && true))))))) h rfl (o_neqS isst115 eqs115 rfl rfl rfl) rfl (fun _ => rfl) (fun _ h => ?_) (fun _ h => ?_)
    · refine w_nil ?_
      refine n_seq rfl ?_
      refine p_cond_t rfl rfl ?_
      refine p_seq rfl ?_
      refine p_region rfl ?_
      refine w_assign_d rfl rfl ?_
      refine w_nil ?_
      refine n_seq rfl ?_
      refine p_ret rfl (con_ret ?_)
      cases h
      exact pd (.inl rfl) rfl rfl
    refine w_nil ?_
    refine n_seq rfl ?_
    refine p_cond_f rfl rfl ?_
    refine p_skip rfl ?_
    refine n_b ?_
    refine n_b ?_
    refine n_blk rfl ?_
    refine n_seq rfl ?_
    refine p_region rfl ?_
    refine w_move_d rfl rfl ?_
    refine w_bin rfl rfl ?_
    refine w_assign_d rfl rfl ?_
    refine w_nil ?_
    refine n_b ?_
    refine n_b ?_
    refine n_loop rfl ?_
    exact jmp 0 _ rfl (jmp 1 _ rfl (jmp 5 _ rfl (ih_junctionlaw3_nodes_L1 _ _ h _ _ _)))
  refine w_nil ?_
  refine n_seq rfl ?_
  refine p_cond_f rfl rfl ?_
  refine p_exit rfl ?_
  refine n_b ?_
  refine n_b ?_
  refine x_seq rfl ?_
  refine x_loop rfl ?_
  refine x_blk rfl ?_
  refine n_b ?_
  refine n_seq rfl ?_
  refine p_seq rfl ?_
  refine p_region rfl ?_
  refine w_assign_d rfl rfl ?_
  refine w_nil ?_
  refine n_seq rfl ?_
  refine p_ret rfl (con_ret ?_)
  cases h
  exact pd (.inl rfl) rfl rfl
set_option maxHeartbeats 4000000 in
theorem junctionlaw3_nodes_ok (a : List NodeT) (b : List NodeT) (r : Bool) (h : junctionlaw3_nodes a b = some r) : callD C 17 [(.lst (a.map NodeT.enc)), (.lst (b.map NodeT.enc))] = some [(.bool r)] := by
  refine callD_at (ext0 _ _) fn17 rfl ?_
  refine jmp 0 _ rfl ?_
  refine jmp 1 _ rfl ?_
  refine p_seq rfl ?_
  refine p_region rfl ?_
  refine w_assign_d rfl rfl ?_
  refine w_nil ?_
  refine n_seq rfl ?_
  refine p_seq rfl ?_
  refine p_seq rfl ?_
  refine p_region rfl ?_
  refine w_move_d rfl rfl ?_
  refine w_len_d rfl elem22 rfl ?_
  refine w_move_d rfl rfl ?_
  refine w_len_d rfl elem22 rfl ?_
  refine w_cmpN h rfl rfl (fun _ h => ?_) (fun _ h => ?_)
  · refine w_nil ?_
    refine n_seq rfl ?_
    refine p_cond_f rfl rfl ?_
    refine p_skip rfl ?_
    refine n_b ?_
    refine n_b ?_
    refine n_seq rfl ?_
    refine p_seq rfl ?_
    refine p_seq rfl ?_
    refine p_region rfl ?_
    refine w_assign_d rfl rfl ?_
    refine w_nil ?_
    refine n_seq rfl ?_
    refine p_block rfl ?_
    exact jmp 0 _ rfl (jmp 1 _ rfl (jmp 5 _ rfl (junctionlaw3_nodes_L1_ok _ _ _ _ h _ _ _)))
  refine w_nil ?_
  refine n_seq rfl ?_
  refine p_cond_t rfl rfl ?_
  refine p_seq rfl ?_
  refine p_region rfl ?_
  refine w_assign_d rfl rfl ?_
  refine w_nil ?_
  refine n_seq rfl ?_
  refine p_ret rfl (con_ret ?_)
  cases h
  exact pd (.inl rfl) rfl rfl
set_option maxHeartbeats 4000000 in
theorem junctionlaw3_TreeMeasures_ok (e : List NodeT) (i : Int) (r : Bool) (h : junctionlaw3_TreeMeasures e i = some r) : callD C 3 [(.lst (e.map NodeT.enc)), (.int .i64 i)] = some [(.bool r)] := by
  refine callD_at (ext0 _ _) fn3 rfl ?_
  refine jmp 0 _ rfl ?_
  refine jmp 1 _ rfl ?_
  refine p_seq rfl ?_
  refine p_region rfl ?_
  refine w_assign_d rfl rfl ?_
  refine w_nil ?_
  refine n_seq rfl ?_
  refine p_seq rfl ?_
  refine p_region rfl ?_
  refine w_move_d rfl rfl ?_
  refine w_dat (E := (fun y => [(.lst (y.map NodeT.enc))])) h rfl sig12 rfl rfl (fun y hy => junctionlaw3_roomy_ok _ y hy) (fun t9 h => ?_)
  refine w_assign_d rfl rfl ?_
  refine w_nil ?_
  refine n_seq rfl ?_
  refine p_seq rfl ?_
  refine p_region rfl ?_
  refine w_move_d rfl rfl ?_
  refine w_move_d rfl rfl ?_
  refine w_len_d rfl elem22 rfl ?_
  refine w_cut h rfl elem22 szg115 (fun _ => rfl) rfl (lh_nh) (fun t13 h => ?_)
  refine w_move_d rfl rfl ?_
  refine w_scal (E := (fun y => [(.int .i64 y)])) h rfl sig13 (sc rfl (sc rfl (sn))) (fun y hy => tree_Span_ok _ _ y hy) (fun _ => rfl) (fun t15 h => ?_)
  refine w_assign_d rfl rfl ?_
  refine w_nil ?_
  refine n_seq rfl ?_
  refine p_seq rfl ?_
  refine p_region rfl ?_
  refine w_move_d rfl rfl ?_
  refine w_move_d rfl rfl ?_
  refine w_len_d rfl elem22 rfl ?_
  refine w_cut h rfl elem22 szg115 (fun _ => rfl) rfl (lh_nh) (fun t19 h => ?_)
  refine w_scal (E := (fun y => [(.int .i64 y)])) h rfl sig14 (sc rfl (sn)) (fun y hy => tree_Nest_ok _ y hy) (fun _ => rfl) (fun t20 h => ?_)
  refine w_assign_d rfl rfl ?_
  refine w_nil ?_
  refine n_seq rfl ?_
  refine p_seq rfl ?_
  refine p_region rfl ?_
  refine w_move_d rfl rfl ?_
  refine w_move_d rfl rfl ?_
  refine w_move_d rfl rfl ?_
  refine w_scal (E := (fun y => [(.int .i64 y)])) h rfl sig15 (sc rfl (sc rfl (sn))) (fun y hy => junctionref3_Span_ok _ _ y hy) (fun _ => rfl) (fun t24 h => ?_)
  refine w_cmp h rfl rfl (fun _ h => ?_) (fun _ h => ?_)
  · refine w_move_d rfl rfl ?_
    refine w_move_d rfl rfl ?_
    refine w_move_d rfl rfl ?_
    refine w_scal (E := (fun y => [(.int .i64 y)])) h rfl sig16 (sc rfl (sn)) (fun y hy => junctionref3_Nest_ok _ y hy) (fun _ => rfl) (fun t29 h => ?_)
    refine w_cmp h rfl rfl (fun _ h => ?_) (fun _ h => ?_)
    · refine w_pick_td rfl rfl rfl ?_
      refine w_move_d rfl rfl ?_
      refine w_move_d rfl rfl ?_
      refine w_move_d rfl rfl ?_
      refine w_dat (E := (fun y => [(.lst (y.map NodeT.enc))])) h rfl sig12 rfl rfl (fun y hy => junctionlaw3_roomy_ok _ y hy) (fun t35 h => ?_)
      refine w_scal (E := (fun y => [(.bool y)])) h rfl sig17 (sc rfl (sc rfl (sn))) (fun y hy => junctionlaw3_nodes_ok _ _ y hy) (fun _ => rfl) (fun t36 h => ?_)
      refine w_pick_td rfl rfl rfl ?_
      refine w_assign_d rfl rfl ?_
      refine w_nil ?_
      refine n_seq rfl ?_
      refine p_ret rfl (con_ret ?_)
      cases h
      exact pd (.inl rfl) rfl rfl
    refine w_pick_td rfl rfl rfl ?_
    refine w_move_d rfl rfl ?_
    refine w_skip rfl ?_
    refine w_skip rfl ?_
    refine w_skip rfl ?_
    refine w_skip rfl ?_
    refine w_pick_fd rfl rfl rfl ?_
    refine w_assign_d rfl rfl ?_
    refine w_nil ?_
    refine n_seq rfl ?_
    refine p_ret rfl (con_ret ?_)
    cases h
    exact pd (.inl rfl) rfl rfl
  refine w_move_d rfl rfl ?_
  refine w_skip rfl ?_
  refine w_skip rfl ?_
  refine w_skip rfl ?_
  refine w_skip rfl ?_
  refine w_pick_fd rfl rfl rfl ?_
  refine w_move_d rfl rfl ?_
  refine w_skip rfl ?_
  refine w_skip rfl ?_
  refine w_skip rfl ?_
  refine w_skip rfl ?_
  refine w_pick_fd rfl rfl rfl ?_
  refine w_assign_d rfl rfl ?_
  refine w_nil ?_
  refine n_seq rfl ?_
  refine p_ret rfl (con_ret ?_)
  cases h
  exact pd (.inl rfl) rfl rfl
end Go.Proofs.YtdcpfmjnkcodiaaDoor.W
