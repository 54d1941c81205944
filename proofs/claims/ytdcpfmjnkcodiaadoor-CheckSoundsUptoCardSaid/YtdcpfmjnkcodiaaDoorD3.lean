/- The abstract machine computes these functions. Printed by decomp.py. -/
import Derived.Test.YtdcpfmjnkcodiaaDoorC2
import Derived.Test.YtdcpfmjnkcodiaaDoorD2
namespace Go.Proofs.YtdcpfmjnkcodiaaDoor.We
open Go Go.Jv
set_option maxHeartbeats 4000000
open Go.Proofs
set_option maxHeartbeats 4000000
theorem lex_duration_L1_run_ok (e0_unitF : ByteArray) (e0_worthF : Int) (e1_unitF : ByteArray) (e1_worthF : Int) (e2_unitF : ByteArray) (e2_worthF : Int) (st : lex_duration_L1_S) (r : Int × Bool) (h : lex_duration_L1_run e0_unitF e0_worthF e1_unitF e1_worthF e2_unitF e2_worthF st = some r) : lex_duration_L1_m e0_unitF e0_worthF e1_unitF e1_worthF e2_unitF e2_worthF st r := by
 refine lex_duration_L1_run.partial_correctness e0_unitF e0_worthF e1_unitF e1_worthF e2_unitF e2_worthF (lex_duration_L1_m e0_unitF e0_worthF e1_unitF e1_worthF e2_unitF e2_worthF) (fun lex_duration_L1_run' ih_ st r h => ?_) st r h
 cases st with
 | c0 s_ v any t16 =>
  intro g H n
  refine Po (Ps (Pr rfl ?_))
  refine Wc h rfl ?_ ?_ <;> intro _ h
  refine Wn (Ns (Ps (Ct (Pk (Nc (Ns (Ps (Pb (Ps ?_)))))))))
  refine Pr rfl ?_
  refine w_index3a (f := fun v => [.d (.str v.unit), .d (.int .i64 v.worth)]) (w := (⟨(⟨e0_unitF, e0_worthF⟩ : Anon_unit_worthT), (⟨e1_unitF, e1_worthF⟩ : Anon_unit_worthT), (⟨e2_unitF, e2_worthF⟩ : Anon_unit_worthT)⟩ : (A3 Anon_unit_worthT))) h rfl arr329 szg328 rfl (fun _ => rfl) rfl (fun t18 h => ?_)
  refine alloc_z rfl zero328 (HP.nil _ _) (fun b7644 H' n' hH => ?_)
  refine w_store_b (new := [.d (.str t18.unit), .d (.int .i64 t18.worth)]) rfl szg328 hH (i := 0) rfl rfl rfl rfl rfl (Nat.le_of_ble_eq_true rfl) (fun H' hH => ?_)
  refine Wn (Ns (Ps (Pr rfl (Wm rfl (Fb fo328_0 (by decide) rfl 0 rfl (Lb szg9 hH (i := 0) rfl rfl rfl ?_))))))
  refine w_scal (E := (fun y => [(.str y.1), (.str y.2.1), (.bool y.2.2)])) h rfl sig253 (sc rfl (sc rfl (sn))) (fun y hy => strings_Cut_ok _ _ y hy) (fun _ => rfl) (fun t23 h => ?_)
  refine w_move_v (.tup [.d (.str t23.1), .d (.str t23.2.1), .d (.bool t23.2.2)]) rfl rfl (w_extract_d rfl rfl rfl (w_extract_d rfl rfl rfl ?_))
  refine w_split (b := t23.2.2) h rfl (o_extract rfl rfl) rfl (fun _ => ⟨rfl, rfl⟩) (fun _ h => ?_) (fun _ h => ?_)
  refine Wa rfl (Wa rfl (Wa rfl (Wn (Ns ?_))))
  exact jm 0 (jm 4 (jm 5 (jm 7 (jm 8 (jm 9 (jm 10 (jm 15 (jm 16 (ih_ (.c1 _ _ _ _ _ _ _ _) _ h b7644 _ _ _ hH)))))))))
  refine Wa rfl (Wa rfl (Wa rfl (Wn (Ns ?_))))
  exact jm 0 (jm 4 (jm 5 (jm 7 (jm 8 (jm 9 (jm 10 (jm 15 (jm 16 (ih_ (.c1 _ _ _ _ _ _ _ _) _ h b7644 _ _ _ hH)))))))))
  refine Wn (Ns (Ps (Cf (Px rfl (Nb (Xs (Nb (Xl (Xb ?_)))))))))
  refine Nb (Ns (Ps (Pr rfl (Wm rfl (Wm rfl (Wm rfl ?_))))))
  revert h; cases any <;> intro h
  replace h := if0 h
  refine Wk (Wk (Wf rfl rfl (Wa rfl (Wa rfl (Wn (Ns ?_))))))
  cases h; exact Pq rfl rfl
  replace h := if1 h
  refine Wm rfl (Wb rfl (Wt rfl rfl (Wa rfl (Wa rfl (Wn (Ns ?_))))))
  cases h; exact Pq rfl rfl
 | c1 s_ v any u head rest ok t16 =>
  intro b0 g H n hH
  refine Ps (Ps (Pr rfl (Wm rfl ?_)))
  refine w_split (b := (!ok)) h rfl (o_un rfl rfl) rfl (fun _ => ⟨rfl, rfl⟩) (fun _ h => ?_) (fun _ h => ?_)
  refine Wn (Ns (Ct (Px rfl (Nc (Nb (Xs (Nb (Nb (Xb ?_)))))))))
  refine Ns ?_
  exact jm 0 (jm 4 (jm 5 (jm 15 (jm 16 (ih_ (.c3 _ _ _ _) _ h _ _ _)))))
  refine Wn (Ns (Cf (Pk (Nb (Nb (Ns (Ps (Pr rfl (Wm rfl ?_)))))))))
  refine w_scal (E := (fun y => [(.int .i64 y.1), (.bool y.2)])) h rfl sig233 (sc rfl (sc rfl (sc rfl (sn)))) (fun y hy => lex_digits_ok _ _ _ y hy) (fun _ => rfl) (fun t31 h => ?_)
  refine w_move_v (.tup [.d (.int .i64 t31.1), .d (.bool t31.2)]) rfl rfl (w_extract_d rfl rfl rfl ?_)
  refine w_split (b := t31.2) h rfl (o_extract rfl rfl) rfl (fun _ => ⟨rfl, rfl⟩) (fun _ h => ?_) (fun _ h => ?_)
  refine Wa rfl (Wa rfl (Wn (Ns ?_)))
  exact jm 4 (jm 7 (jm 9 (jm 10 (jm 11 (jm 15 (jm 16 (ih_ (.c2 _ _ _ _ _ _) _ h b0 _ _ _ hH)))))))
  refine Wa rfl (Wa rfl (Wn (Ns ?_)))
  exact jm 4 (jm 7 (jm 9 (jm 10 (jm 11 (jm 15 (jm 16 (ih_ (.c2 _ _ _ _ _ _) _ h b0 _ _ _ hH)))))))
 | c2 v u rest ok n_ t16 =>
  intro b0 g H n hH
  refine Ps (Ps (Pr rfl (Wm rfl ?_)))
  refine w_split (b := (!ok)) h rfl (o_un rfl rfl) rfl (fun _ => ⟨rfl, rfl⟩) (fun _ h => ?_) (fun _ h => ?_)
  refine Wn (Ns (Ct (Ps (Pr rfl (Wa rfl (Wa rfl (Wn (Ns ?_))))))))
  cases h; exact Pq rfl rfl
  refine Wn (Ns (Cf (Pk (Nb (Nb (Ns (Pr rfl (Wm rfl (Wm rfl ?_)))))))))
  refine Fb fo328_1 (by decide) rfl 1 rfl (Lb szg2 hH (i := 0) rfl rfl rfl (Wb rfl (Wb rfl (Wm rfl (Wa rfl (Wa rfl (Wa rfl (Wn (Nb ?_)))))))))
  refine Nb (Nb (Nb (Nb (Nk (Ns ?_)))))
  exact jm 0 (jm 4 (jm 5 (jm 15 (jm 16 (ih_ (.c3 _ _ _ _) _ h _ _ _)))))
 | c3 s_ v any t16 =>
  intro g H n
  refine Pr rfl (Wb rfl (Wm rfl (Wn (Nb (Nb (Nb (Nl ?_)))))))
  exact jm 0 (jm 4 (jm 5 (jm 15 (jm 16 (ih_ (.c0 _ _ _ _) _ h _ _ _)))))
theorem lex_duration_L1_ok (s_ : ByteArray) (v : Int) (any : Bool) (e0_unitF : ByteArray) (e0_worthF : Int) (e1_unitF : ByteArray) (e1_worthF : Int) (e2_unitF : ByteArray) (e2_worthF : Int) (t16 : Int) (r : Int × Bool) (h : lex_duration_L1 s_ v any e0_unitF e0_worthF e1_unitF e1_worthF e2_unitF e2_worthF t16 = some r) : lex_duration_L1_m e0_unitF e0_worthF e1_unitF e1_worthF e2_unitF e2_worthF (.c0 s_ v any t16) r := lex_duration_L1_run_ok e0_unitF e0_worthF e1_unitF e1_worthF e2_unitF e2_worthF (.c0 s_ v any t16) r h
theorem lex_duration_ok (s_ : ByteArray) (r : Int × Bool) (h : lex_duration s_ = some r) : callD C 235 [(.str s_)] = some [(.int .i64 r.1), (.bool r.2)] := by
 refine callD_at (ext0 _ _ rfl) fn235 rfl (jmp 0 (.d (.str s_)) rfl (Ps (Pr rfl (Wa rfl (Wa rfl (Wn (Ns (Ps (Pr rfl ?_)))))))))
 refine Wa rfl (Wa rfl (Wn (Ns (Ps (Ps (Pr rfl (w_build (cs := [.d (.str ⟨#[104]⟩), .d (.int .i64 3600)]) rfl zero328 places328 rfl (w_build (cs := [.d (.str ⟨#[109]⟩), .d (.int .i64 60)]) rfl zero328 places328 rfl (w_build (cs := [.d (.str ⟨#[115]⟩), .d (.int .i64 1)]) rfl zero328 places328 rfl ?_)))))))))
 refine w_buildA (cs := [.d (.str ⟨#[104]⟩), .d (.int .i64 3600), .d (.str ⟨#[109]⟩), .d (.int .i64 60), .d (.str ⟨#[115]⟩), .d (.int .i64 1)]) rfl zero329 arr329 szg328 rfl (Wm rfl (Wn (Ns (Pb ?_))))
 exact jm 0 (jm 4 (jm 5 (jm 15 (jm 16 (lex_duration_L1_ok _ _ _ _ _ _ _ _ _ _ _ h _ _ _)))))
theorem lex_Number_k3_ok (v : Int) (ok : Bool) (r : Int × Int) (h : lex_Number_k3 v ok = some r) (g : Nat → AV) (H : Hs) (n : Nat) : PAt C (bodyOf Tryd.f196) (.b (.b (.b .o))) ⟨upd (upd g 4 (.d (.int .i64 v))) 5 (.d (.bool ok)), H, n⟩ (PostD C Tryd.f196 [(.int .i32 r.1), (.int .i64 r.2)]) := by
 refine Ps (Pb (Ps (Pr rfl (Wm rfl ?_))))
 refine w_split (b := (!ok)) h rfl (o_un rfl rfl) rfl (fun _ => ⟨rfl, rfl⟩) (fun _ h => ?_) (fun _ h => ?_)
 refine Wa rfl (Wn (Ns (Ct (Ps (Pr rfl (Wa rfl (Wa rfl (Wn (Ns ?_)))))))))
 cases h; exact Pq rfl rfl
 refine Wa rfl (Wn (Ns (Cf (Ps (Pr rfl (Wm rfl ?_))))))
 refine Wc h rfl ?_ ?_ <;> intro _ h
 refine Wa rfl (Wn (Ns (Ct (Ps (Pr rfl (Wa rfl (Wa rfl (Wn (Ns ?_)))))))))
 cases h; exact Pq rfl rfl
 refine Wa rfl (Wn (Ns (Cf (Pk (Nb (Nb (Nb (Nb (Nk ?_)))))))))
 refine Ns (Ps (Pr rfl (Wm rfl (w_conv rfl (c_int ty2 ty21) (Wa rfl (Wa rfl (Wn (Ns ?_))))))))
 cases h; exact Pq rfl rfl
theorem lex_Number_k2_ok (text : ByteArray) (hex : ByteArray) (is : Bool) (r : Int × Int) (h : lex_Number_k2 text hex is = some r) (g : Nat → AV) (H : Hs) (n : Nat) : PAt C (bodyOf Tryd.f196) (.b (.a (.b (.a (.b (.b .o)))))) ⟨upd (upd (upd g 0 (.d (.str text))) 6 (.d (.str hex))) 7 (.d (.bool is)), H, n⟩ (PostD C Tryd.f196 [(.int .i32 r.1), (.int .i64 r.2)]) := by
 refine Ps (Pr rfl (Wm rfl (Wn (Ns ?_))))
 refine p_condB rfl h rfl (fun _ h => ?_) (fun _ h => ?_)
 refine Pr rfl (Wm rfl ?_)
 refine w_scal (E := (fun y => [(.int .i64 y.1), (.bool y.2)])) h rfl sig233 (sc rfl (sc rfl (sc rfl (sn)))) (fun y hy => lex_digits_ok _ _ _ y hy) (fun _ => rfl) (fun t23 h => ?_)
 refine w_move_v (.tup [.d (.int .i64 t23.1), .d (.bool t23.2)]) rfl rfl (w_extract_d rfl rfl rfl ?_)
 refine w_split (b := t23.2) h rfl (o_extract rfl rfl) rfl (fun _ => ⟨rfl, rfl⟩) (fun _ h => ?_) (fun _ h => ?_)
 refine Wa rfl (Wa rfl (Wn (Nc (Nb (Nb (Nc (Nb (Ns ?_))))))))
 exact jm 4 (jm 5 (lex_Number_k3_ok _ _ _ h _ _ _))
 refine Wa rfl (Wa rfl (Wn (Nc (Nb (Nb (Nc (Nb (Ns ?_))))))))
 exact jm 4 (jm 5 (lex_Number_k3_ok _ _ _ h _ _ _))
 refine Pr rfl (Wm rfl ?_)
 refine w_scal (E := (fun y => [(.int .i64 y.1), (.bool y.2)])) h rfl sig235 (sc rfl (sn)) (fun y hy => lex_duration_ok _ y hy) (fun _ => rfl) (fun t28 h => ?_)
 refine w_move_v (.tup [.d (.int .i64 t28.1), .d (.bool t28.2)]) rfl rfl (w_extract_d rfl rfl rfl ?_)
 refine w_split (b := t28.2) h rfl (o_extract rfl rfl) rfl (fun _ => ⟨rfl, rfl⟩) (fun _ h => ?_) (fun _ h => ?_)
 refine Wa rfl (Wa rfl (Wn (Nb (Nb (Nb (Nc (Nb (Ns ?_))))))))
 exact jm 4 (jm 5 (lex_Number_k3_ok _ _ _ h _ _ _))
 refine Wa rfl (Wa rfl (Wn (Nb (Nb (Nb (Nc (Nb (Ns ?_))))))))
 exact jm 4 (jm 5 (lex_Number_k3_ok _ _ _ h _ _ _))
theorem lex_Number_k1_ok (text : ByteArray) (v : Int) (ok : Bool) (r : Int × Int) (h : lex_Number_k1 text v ok = some r) (g : Nat → AV) (H : Hs) (n : Nat) : PAt C (bodyOf Tryd.f196) (.b (.b .o)) ⟨upd (upd (upd g 0 (.d (.str text))) 4 (.d (.int .i64 v))) 5 (.d (.bool ok)), H, n⟩ (PostD C Tryd.f196 [(.int .i32 r.1), (.int .i64 r.2)]) := by
 refine Ps (Ps (Pr rfl (Wm rfl ?_)))
 refine w_split (b := (!ok)) h rfl (o_un rfl rfl) rfl (fun _ => ⟨rfl, rfl⟩) (fun _ h => ?_) (fun _ h => ?_)
 refine Wn (Ns (Ct (Ps (Pr rfl (Wm rfl ?_)))))
 refine w_scal (E := (fun y => [(.str y.1), (.bool y.2)])) h rfl sig234 (sc rfl (sc rfl (sn))) (fun y hy => strings_CutPrefix_ok _ _ y hy) (fun _ => rfl) (fun t17 h => ?_)
 refine w_move_v (.tup [.d (.str t17.1), .d (.bool t17.2)]) rfl rfl (w_extract_d rfl rfl rfl ?_)
 refine w_split (b := t17.2) h rfl (o_extract rfl rfl) rfl (fun _ => ⟨rfl, rfl⟩) (fun _ h => ?_) (fun _ h => ?_)
 refine Wa rfl (Wa rfl (Wn (Ns ?_)))
 exact jm 0 (jm 6 (jm 7 (lex_Number_k2_ok _ _ _ _ h _ _ _)))
 refine Wa rfl (Wa rfl (Wn (Ns ?_)))
 exact jm 0 (jm 6 (jm 7 (lex_Number_k2_ok _ _ _ _ h _ _ _)))
 refine Wn (Ns (Cf (Pk (Nb (Nb (Ns ?_))))))
 exact jm 4 (jm 5 (lex_Number_k3_ok _ _ _ h _ _ _))
theorem lex_Number_ok (text : ByteArray) (r : Int × Int) (h : lex_Number text = some r) : callD C 196 [(.str text)] = some [(.int .i32 r.1), (.int .i64 r.2)] := by
 refine callD_at (ext0 _ _ rfl) fn196 rfl (jmp 0 (.d (.str text)) rfl (Ps (Pr rfl (Wa rfl (Wa rfl (Wn (Ns (Ps (Pr rfl ?_)))))))))
 refine Wm rfl ?_
 refine w_scal (E := (fun y => [(.int .i64 y.1), (.bool y.2)])) h rfl sig233 (sc rfl (sc rfl (sc rfl (sn)))) (fun y hy => lex_digits_ok _ _ _ y hy) (fun _ => rfl) (fun t10 h => ?_)
 refine w_move_v (.tup [.d (.int .i64 t10.1), .d (.bool t10.2)]) rfl rfl (w_extract_d rfl rfl rfl ?_)
 refine w_split (b := t10.2) h rfl (o_extract rfl rfl) rfl (fun _ => ⟨rfl, rfl⟩) (fun _ h => ?_) (fun _ h => ?_)
 refine Wa rfl (Wa rfl (Wn (Ns ?_)))
 exact jm 0 (jm 4 (jm 5 (lex_Number_k1_ok _ _ _ _ h _ _ _)))
 refine Wa rfl (Wa rfl (Wn (Ns ?_)))
 exact jm 0 (jm 4 (jm 5 (lex_Number_k1_ok _ _ _ _ h _ _ _)))
theorem lex_KindOf_k1_ok (text : ByteArray) (r : Int) (h : lex_KindOf_k1 text = some r) (g : Nat → AV) (H : Hs) (n : Nat) : PAt C (bodyOf Tryd.f145) (.b (.b (.b (.b .o)))) ⟨upd g 0 (.d (.str text)), H, n⟩ (PostD C Tryd.f145 [(.int .i64 r)]) := by
 refine Ps (Ps (Pr rfl (Wm rfl ?_)))
 refine w_scal (E := (fun y => [(.int .i32 y.1), (.int .i64 y.2)])) h rfl sig196 (sc rfl (sn)) (fun y hy => lex_Number_ok _ y hy) (fun _ => rfl) (fun t30 h => ?_)
 refine w_move_v (.tup [.d (.int .i32 t30.1), .d (.int .i64 t30.2)]) rfl rfl (w_extract_d rfl rfl rfl (w_extract_d rfl rfl rfl (Wa rfl (Wa rfl (Wn (Ns (Ps (Pr rfl (Wm rfl ?_)))))))))
 refine Wc h rfl ?_ ?_ <;> intro _ h
 refine Wn (Ns (Ct (Ps (Pr rfl (Wa rfl (Wn (Ns ?_)))))))
 cases h; exact Pq rfl rfl
 refine Wn (Ns (Cf (Pk (Nb (Nb (Nb (Ns (Ps (Pr rfl ?_)))))))))
 refine Wa rfl (Wn (Ns ?_))
 cases h; exact Pq rfl rfl
theorem lex_KindOf_ok (text : ByteArray) (r : Int) (h : lex_KindOf text = some r) : callD C 145 [(.str text)] = some [(.int .i64 r)] := by
 refine callD_at (ext0 _ _ rfl) fn145 rfl (jmp 0 (.d (.str text)) rfl (Ps (Pr rfl (Wa rfl (Wn (Ns (Ps (Ps (Pr rfl ?_)))))))))
 refine Wm rfl ?_
 refine w_scal (E := eI) h rfl sig193 (sc rfl (sn)) (fun y hy => lex_kind_ok _ y hy) (fun _ => rfl) (fun t7 h => ?_)
 refine Wa rfl (Wn (Ns (Ps (Pr rfl (Wm rfl ?_)))))
 refine Wd h rfl ?_ ?_ <;> intro _ h
 refine Wn (Ns (Cf (Pk (Nb (Nb (Nb (Ns (Ps (Ps ?_)))))))))
 refine Pr rfl (Wm rfl ?_)
 refine Wc h rfl ?_ ?_ <;> intro _ h
 refine Wn (Ns (Ct (Ps (Pr rfl (Wa rfl (Wn (Ns ?_)))))))
 cases h; exact Pq rfl rfl
 refine Wn (Ns (Cf (Pk (Nb (Nb (Ns (Ps (Ps (Pr rfl ?_)))))))))
 refine Wm rfl ?_
 refine w_sidx h rfl ty9 rfl rfl (fun t14 h => ?_)
 refine w_scal (E := eB) h rfl sig194 (sc rfl (sn)) (fun y hy => lex_letter_ok _ y hy) (fun _ => rfl) (fun t15 h => ?_)
 revert h; cases t15 <;> intro h
 replace h := if0 h
 refine Wm rfl (Wk (Wk (Wk (Wf rfl rfl (Wm rfl (Wk (Wk (Wk (Wk ?_)))))))))
 refine Wk (Wf rfl rfl (Wn (Ns (Cf (Pk (Nb (Nb (Ns ?_))))))))
 exact jm 0 (lex_KindOf_k1_ok _ _ h _ _ _)
 replace h := if1 h
 refine Wm rfl (Wm rfl (w_len_s rfl (dsc ty9) rfl ?_))
 refine Wc h rfl ?_ ?_ <;> intro _ h
 refine Wt rfl rfl (Wm rfl (Wm rfl ?_))
 refine w_scal (E := eI) h rfl sig195 (sc rfl (sn)) (fun y hy => lex_run_ok _ y hy) (fun _ => rfl) (fun t23 h => ?_)
 refine Wm rfl (w_len_s rfl (dsc ty9) rfl ?_)
 refine Wc h rfl ?_ ?_ <;> intro _ h
 refine Wt rfl rfl (Wn (Ns (Ct (Ps (Pr rfl (Wa rfl (Wn (Ns ?_))))))))
 cases h; exact Pq rfl rfl
 refine Wt rfl rfl (Wn (Ns (Cf (Pk (Nb (Nb (Ns ?_)))))))
 exact jm 0 (lex_KindOf_k1_ok _ _ h _ _ _)
 refine Wt rfl rfl (Wm rfl (Wk (Wk (Wk (Wk (Wk (Wf rfl rfl (Wn (Ns ?_)))))))))
 refine Cf (Pk (Nb (Nb (Ns ?_))))
 exact jm 0 (lex_KindOf_k1_ok _ _ h _ _ _)
 refine Wn (Ns (Ct (Ps (Pr rfl (Wm rfl (Wa rfl (Wn (Ns ?_))))))))
 cases h; exact Pq rfl rfl
def c_things_L4_M (l : List ByteArray) (t71 : List TStageT) (t72 : Int) (t73 : Int) (t10000 : TypedT) (r : (List ByteArray) × TypedT) : Prop := ∀ (w0 be0 L g H n) (hH : HP H n (o9_1 w0 l :: .box be0 (TypedT.av t10000) :: L)), PAt C (bodyOf Tryd.f175) (.a (.b (.a (.b (.b (.b (.b (.b .o)))))))) ⟨upd (upd (upd (upd g 3 (w0)) 71 (.d (.lst (t71.map TStageT.enc)))) 72 (.d (.int .i64 t72))) 73 (.d (.int .i64 t73)), H, n⟩ (PostR C Tryd.f175 (fun rs H' n' => ∃ (w'0 : AV), rs = [w'0] ∧ HP H' n' (o9_1 w'0 r.1 :: .box be0 (TypedT.av r.2) :: L)))
theorem c_things_L4_ok (l : List ByteArray) (t71 : List TStageT) (t72 : Int) (t73 : Int) (t10000 : TypedT) (r : (List ByteArray) × TypedT) (h : c_things_L4 l t71 t72 t73 t10000 = some r) : c_things_L4_M l t71 t72 t73 t10000 r := by
 refine c_things_L4.partial_correctness t71 t72 t10000 (fun l t73 r => c_things_L4_M l t71 t72 t73 t10000 r) (fun c_things_L4 ih_c_things_L4 l t73 r h w0 be0 L g H n hH => ?_) l t73 r h
 refine Po (Ps (Pr rfl ?_))
 refine Wc h rfl ?_ ?_ <;> intro _ h
 refine Wn (Ns (Ps (Ct (Pk (Nc (Ns (Ps (Pb (Ps ?_)))))))))
 refine Pr rfl ?_
 refine w_idx h rfl elem93 szg196 (fun _ => rfl) rfl rfl (fun t75 h => ?_)
 refine w_load_d (d := (TStageT.enc t75)) szg196 rfl rfl ?_
 refine alloc_z rfl zero196 hH (fun b7682 H' n' hH => ?_)
 refine w_store_b (new := (TStageT.av t75)) rfl szg196 hH (i := 0) rfl rfl rfl rfl rfl (Nat.le_of_ble_eq_true rfl) (fun H' hH => ?_)
 refine Wn (Ns (Pr rfl (w_move_v (w0) rfl rfl (Fb fo196_0 (by decide) rfl 0 rfl (Lb szg9 hH (i := 0) rfl rfl rfl ?_)))))
 refine w_bslice (enc := Dat.str) (xs := [t75.Name]) [.d (.str t75.Name)] rfl elem91 szg9 zero9 ⟨by decide, Nat.le_of_ble_eq_true rfl⟩ zd9 (fun _ => rfl) (fun _ => rfl) rfl rfl hH (fun w7683 H' n' hH => ?_)
 refine w_append (enc := Dat.str) h rfl elem91 szg9 bytes9 (by decide) (fun _ => rfl) hH (j := 2) rfl rfl (shows_own hH (j := 0) rfl) (fun t81 w7684 H' n' h hH => ?_)
 refine w_assign_v (w7684) rfl rfl (Wn (Nb (Nk (Ns (Pr rfl (Wb rfl (Wm rfl (Wn (Nb ?_)))))))))
 refine Nb (Nb (Nl ?_))
 exact jm 3 (jm 71 (jm 72 (jm 73 (ih_c_things_L4 _ _ _ h w7684 _ _ _ _ _ (hH.selG 4 [0, 3] (by decide) (by decide) (gc rfl (gc rfl (gt rfl))))))))
 refine Wn (Ns (Ps (Cf (Px rfl (Nb (Xs (Nb (Xl (Xb ?_)))))))))
 refine Nb (Ns (Ps (Pr rfl (w_move_v (w0) rfl rfl (w_assign_v (w0) rfl rfl (Wn (Ns ?_)))))))
 refine Pt (Cr ?_)
 cases h
 exact prF (.inl rfl) (ra_tmp (w0) rfl (ra_nil)) ⟨w0, rfl, hH⟩
def c_things_L3_M (t : TypedT) (l : List ByteArray) (t56 : List VarT) (t57 : Int) (t58 : Int) (r : (List ByteArray) × TypedT) : Prop := ∀ (w1 be0 L g H n) (hH : HP H n (.box be0 (TypedT.av t) :: o9_1 w1 l :: L)), PAt C (bodyOf Tryd.f175) (.a (.b (.a (.b (.b (.b (.b .o))))))) ⟨upd (upd (upd (upd (upd g 0 (.pt be0 0)) 3 (w1)) 56 (.d (.lst (t56.map VarT.enc)))) 57 (.d (.int .i64 t57))) 58 (.d (.int .i64 t58)), H, n⟩ (PostR C Tryd.f175 (fun rs H' n' => ∃ (w'0 : AV), rs = [w'0] ∧ HP H' n' (o9_1 w'0 r.1 :: .box be0 (TypedT.av r.2) :: L)))
theorem c_things_L3_ok (t : TypedT) (l : List ByteArray) (t56 : List VarT) (t57 : Int) (t58 : Int) (r : (List ByteArray) × TypedT) (h : c_things_L3 t l t56 t57 t58 = some r) : c_things_L3_M t l t56 t57 t58 r := by
 refine c_things_L3.partial_correctness t t56 t57 (fun l t58 r => c_things_L3_M t l t56 t57 t58 r) (fun c_things_L3 ih_c_things_L3 l t58 r h w1 be0 L g H n hH => ?_) l t58 r h
 refine Po (Ps (Pr rfl ?_))
 refine Wc h rfl ?_ ?_ <;> intro _ h
 refine Wn (Ns (Ps (Ct (Pk (Nc (Ns (Ps (Pb (Ps ?_)))))))))
 refine Pr rfl ?_
 refine w_idx h rfl elem92 szg193 (fun _ => rfl) rfl rfl (fun t60 h => ?_)
 refine w_load_d (d := (VarT.enc t60)) szg193 rfl rfl ?_
 refine alloc_z rfl zero193 hH (fun b7679 H' n' hH => ?_)
 refine w_store_b (new := (VarT.av t60)) rfl szg193 hH (i := 0) rfl rfl rfl rfl rfl (Nat.le_of_ble_eq_true rfl) (fun H' hH => ?_)
 refine Wn (Ns (Pr rfl (w_move_v (w1) rfl rfl (Fb fo193_0 (by decide) rfl 0 rfl (Lb szg9 hH (i := 0) rfl rfl rfl ?_)))))
 refine w_bslice (enc := Dat.str) (xs := [t60.Name]) [.d (.str t60.Name)] rfl elem91 szg9 zero9 ⟨by decide, Nat.le_of_ble_eq_true rfl⟩ zd9 (fun _ => rfl) (fun _ => rfl) rfl rfl hH (fun w7680 H' n' hH => ?_)
 refine w_append (enc := Dat.str) h rfl elem91 szg9 bytes9 (by decide) (fun _ => rfl) hH (j := 3) rfl rfl (shows_own hH (j := 0) rfl) (fun t66 w7681 H' n' h hH => ?_)
 refine w_assign_v (w7681) rfl rfl (Wn (Nb (Nk (Ns (Pr rfl (Wb rfl (Wm rfl (Wn (Nb ?_)))))))))
 refine Nb (Nb (Nl ?_))
 exact jm 0 (jm 3 (jm 56 (jm 57 (jm 58 (ih_c_things_L3 _ _ _ h w7681 _ _ _ _ _ (hH.selG 4 [3, 0] (by decide) (by decide) (gc rfl (gc rfl (gt rfl)))))))))
 refine Wn (Ns (Ps (Cf (Px rfl (Nb (Xs (Nb (Xl (Xb ?_)))))))))
 refine Nb (Ns (Ps (Ps (Pr rfl (w_move_v (.pt be0 0) rfl rfl (Wq rfl (Fb fo95_6 (by decide) rfl 7 rfl (Lb szg93 hH (i := 0) rfl rfl rfl (w_len_d elem93 rfl ?_)))))))))
 refine Wm rfl (Wn (Ns (Pb ?_)))
 exact jm 3 (jm 71 (jm 72 (jm 73 (c_things_L4_ok _ _ _ _ _ _ h w1 _ _ _ _ _ (hH.selG 2 [1, 0] (by decide) (by decide) (gc rfl (gc rfl (gt rfl))))))))
def c_things_L2_M (t : TypedT) (l : List ByteArray) (t41 : List DetT) (t42 : Int) (t43 : Int) (r : (List ByteArray) × TypedT) : Prop := ∀ (w1 be0 L g H n) (hH : HP H n (.box be0 (TypedT.av t) :: o9_1 w1 l :: L)), PAt C (bodyOf Tryd.f175) (.a (.b (.a (.b (.b (.b .o)))))) ⟨upd (upd (upd (upd (upd g 0 (.pt be0 0)) 3 (w1)) 41 (.d (.lst (t41.map DetT.enc)))) 42 (.d (.int .i64 t42))) 43 (.d (.int .i64 t43)), H, n⟩ (PostR C Tryd.f175 (fun rs H' n' => ∃ (w'0 : AV), rs = [w'0] ∧ HP H' n' (o9_1 w'0 r.1 :: .box be0 (TypedT.av r.2) :: L)))
theorem c_things_L2_ok (t : TypedT) (l : List ByteArray) (t41 : List DetT) (t42 : Int) (t43 : Int) (r : (List ByteArray) × TypedT) (h : c_things_L2 t l t41 t42 t43 = some r) : c_things_L2_M t l t41 t42 t43 r := by
 refine c_things_L2.partial_correctness t t41 t42 (fun l t43 r => c_things_L2_M t l t41 t42 t43 r) (fun c_things_L2 ih_c_things_L2 l t43 r h w1 be0 L g H n hH => ?_) l t43 r h
 refine Po (Ps (Pr rfl ?_))
 refine Wc h rfl ?_ ?_ <;> intro _ h
 refine Wn (Ns (Ps (Ct (Pk (Nc (Ns (Ps (Pb (Ps ?_)))))))))
 refine Pr rfl ?_
 refine w_idx h rfl elem90 szg207 (fun _ => rfl) rfl rfl (fun t45 h => ?_)
 refine w_load_d (d := (DetT.enc t45)) szg207 rfl rfl ?_
 refine alloc_z rfl zero207 hH (fun b7676 H' n' hH => ?_)
 refine w_store_b (new := (DetT.av t45)) rfl szg207 hH (i := 0) rfl rfl rfl rfl rfl (Nat.le_of_ble_eq_true rfl) (fun H' hH => ?_)
 refine Wn (Ns (Pr rfl (w_move_v (w1) rfl rfl (Fb fo207_0 (by decide) rfl 0 rfl (Lb szg9 hH (i := 0) rfl rfl rfl ?_)))))
 refine w_bslice (enc := Dat.str) (xs := [t45.Name]) [.d (.str t45.Name)] rfl elem91 szg9 zero9 ⟨by decide, Nat.le_of_ble_eq_true rfl⟩ zd9 (fun _ => rfl) (fun _ => rfl) rfl rfl hH (fun w7677 H' n' hH => ?_)
 refine w_append (enc := Dat.str) h rfl elem91 szg9 bytes9 (by decide) (fun _ => rfl) hH (j := 3) rfl rfl (shows_own hH (j := 0) rfl) (fun t51 w7678 H' n' h hH => ?_)
 refine w_assign_v (w7678) rfl rfl (Wn (Nb (Nk (Ns (Pr rfl (Wb rfl (Wm rfl (Wn (Nb ?_)))))))))
 refine Nb (Nb (Nl ?_))
 exact jm 0 (jm 3 (jm 41 (jm 42 (jm 43 (ih_c_things_L2 _ _ _ h w7678 _ _ _ _ _ (hH.selG 4 [3, 0] (by decide) (by decide) (gc rfl (gc rfl (gt rfl)))))))))
 refine Wn (Ns (Ps (Cf (Px rfl (Nb (Xs (Nb (Xl (Xb ?_)))))))))
 refine Nb (Ns (Ps (Ps (Pr rfl (w_move_v (.pt be0 0) rfl rfl (Wq rfl (Fb fo95_5 (by decide) rfl 6 rfl (Lb szg92 hH (i := 0) rfl rfl rfl (w_len_d elem92 rfl ?_)))))))))
 refine Wm rfl (Wn (Ns (Pb ?_)))
 exact jm 0 (jm 3 (jm 56 (jm 57 (jm 58 (c_things_L3_ok _ _ _ _ _ _ h w1 _ _ _ _ _ hH)))))
def c_things_L1_M (t : TypedT) (l : List ByteArray) (t26 : List GroupT) (t27 : Int) (t28 : Int) (r : (List ByteArray) × TypedT) : Prop := ∀ (w1 be0 L g H n) (hH : HP H n (.box be0 (TypedT.av t) :: o9_1 w1 l :: L)), PAt C (bodyOf Tryd.f175) (.a (.b (.a (.b (.b .o))))) ⟨upd (upd (upd (upd (upd g 0 (.pt be0 0)) 3 (w1)) 26 (.d (.lst (t26.map GroupT.enc)))) 27 (.d (.int .i64 t27))) 28 (.d (.int .i64 t28)), H, n⟩ (PostR C Tryd.f175 (fun rs H' n' => ∃ (w'0 : AV), rs = [w'0] ∧ HP H' n' (o9_1 w'0 r.1 :: .box be0 (TypedT.av r.2) :: L)))
theorem c_things_L1_ok (t : TypedT) (l : List ByteArray) (t26 : List GroupT) (t27 : Int) (t28 : Int) (r : (List ByteArray) × TypedT) (h : c_things_L1 t l t26 t27 t28 = some r) : c_things_L1_M t l t26 t27 t28 r := by
 refine c_things_L1.partial_correctness t t26 t27 (fun l t28 r => c_things_L1_M t l t26 t27 t28 r) (fun c_things_L1 ih_c_things_L1 l t28 r h w1 be0 L g H n hH => ?_) l t28 r h
 refine Po (Ps (Pr rfl ?_))
 refine Wc h rfl ?_ ?_ <;> intro _ h
 refine Wn (Ns (Ps (Ct (Pk (Nc (Ns (Ps (Pb (Ps ?_)))))))))
 refine Pr rfl ?_
 refine w_idx h rfl elem86 szg200 (fun _ => rfl) rfl rfl (fun t30 h => ?_)
 refine w_load_d (d := (GroupT.enc t30)) szg200 rfl rfl ?_
 refine alloc_z rfl zero200 hH (fun b7673 H' n' hH => ?_)
 refine w_store_b (new := (GroupT.av t30)) rfl szg200 hH (i := 0) rfl rfl rfl rfl rfl (Nat.le_of_ble_eq_true rfl) (fun H' hH => ?_)
 refine Wn (Ns (Pr rfl (w_move_v (w1) rfl rfl (Fb fo200_0 (by decide) rfl 0 rfl (Lb szg9 hH (i := 0) rfl rfl rfl ?_)))))
 refine w_bslice (enc := Dat.str) (xs := [t30.Name]) [.d (.str t30.Name)] rfl elem91 szg9 zero9 ⟨by decide, Nat.le_of_ble_eq_true rfl⟩ zd9 (fun _ => rfl) (fun _ => rfl) rfl rfl hH (fun w7674 H' n' hH => ?_)
 refine w_append (enc := Dat.str) h rfl elem91 szg9 bytes9 (by decide) (fun _ => rfl) hH (j := 3) rfl rfl (shows_own hH (j := 0) rfl) (fun t36 w7675 H' n' h hH => ?_)
 refine w_assign_v (w7675) rfl rfl (Wn (Nb (Nk (Ns (Pr rfl (Wb rfl (Wm rfl (Wn (Nb ?_)))))))))
 refine Nb (Nb (Nl ?_))
 exact jm 0 (jm 3 (jm 26 (jm 27 (jm 28 (ih_c_things_L1 _ _ _ h w7675 _ _ _ _ _ (hH.selG 4 [3, 0] (by decide) (by decide) (gc rfl (gc rfl (gt rfl)))))))))
 refine Wn (Ns (Ps (Cf (Px rfl (Nb (Xs (Nb (Xl (Xb ?_)))))))))
 refine Nb (Ns (Ps (Ps (Pr rfl (w_move_v (.pt be0 0) rfl rfl (Wq rfl (Fb fo95_2 (by decide) rfl 3 rfl (Lb szg90 hH (i := 0) rfl rfl rfl (w_len_d elem90 rfl ?_)))))))))
 refine Wm rfl (Wn (Ns (Pb ?_)))
 exact jm 0 (jm 3 (jm 41 (jm 42 (jm 43 (c_things_L2_ok _ _ _ _ _ _ h w1 _ _ _ _ _ hH)))))
theorem c_things_ok (t : TypedT) (r : (List ByteArray) × TypedT) (h : c_things t = some r) (be0 : Nat) (H : Hs) (n : Nat) (L : List Jv.Item) (hH : HP H n (.box be0 (TypedT.av t) :: L)) : Raw C 175 [.pt be0 0] H n (fun rs H' n' => ∃ (w'0 : AV), rs = [w'0] ∧ HP H' n' (o9_1 w'0 r.1 :: .box be0 (TypedT.av r.2) :: L)) := by
 refine raw_at fn175 rfl (jmp 0 (.pt be0 0) rfl (Ps (Pr rfl (w_assign_v (.nil) rfl rfl (Wn (Ns (Ps (p_fts (pz := [(3, 8), (4, 8)]) rfl rfl (by kernel_rfl) (by kernel_rfl) (x_op (v := .pt be0 0) (noFt) rfl (o_move) ⟨rfl, rfl⟩ ?_)))))))))
 refine x_op (v := .pt be0 0) (noFt) rfl (o_ncheck_pt rfl) ⟨rfl, rfl⟩ (x_op (v := .pt be0 4) (noFt) rfl (o_faddr fo95_3 (by decide) rfl) ⟨rfl, rfl⟩ (x_op (v := .d (.lst (t.Timers.map Dat.str))) (.of [be0] []) rfl (o_load_b szg91 hH (i := 0) rfl rfl rfl) ⟨rfl, rfl⟩ ?_))
 have hH := hH.addNil (z := ⟨9, 1⟩)
 refine x_append (enc := Dat.str) (.d (.lst (t.Timers.map Dat.str))) h rfl elem91 szg9 bytes9 (by decide) (fun _ => rfl) hH (j := 0) rfl rfl rfl shows_d (fun t16 w7671 i6671 H' n6671 h hH hoff6671 hn6671 hi6671 => ?_)
 have hof6671_0 := hoff6671.box (k := 0) rfl
 have hof6671 := hoff6671.2
 clear hoff6671
 refine x_op (v := .pt be0 0) (noFt) rfl (o_move) ⟨rfl, rfl⟩ (x_op (v := .pt be0 0) (noFt) rfl (o_ncheck_pt rfl) ⟨rfl, rfl⟩ (x_op (v := .pt be0 5) (noFt) rfl (o_faddr fo95_4 (by decide) rfl) ⟨rfl, rfl⟩ (x_op (v := .d (.lst (t.Counters.map Dat.str))) (.of [be0] []) rfl (o_load_b szg91 hH (i := 1) rfl rfl rfl) ⟨rfl, rfl⟩ ?_)))
 refine x_append (enc := Dat.str) (.d (.lst (t.Counters.map Dat.str))) h rfl elem91 szg9 bytes9 (by decide) (fun _ => rfl) hH (j := 0) rfl rfl rfl shows_d (fun t21 w7672 i6672 H' n6672 h hH hoff6672 hn6672 hi6672 => ?_)
 have hof6672_0 := hoff6672.box (k := 0) rfl
 have hof6672 := hoff6672.2
 clear hoff6672
 refine x_op (v := w7672) (noFt) rfl (o_assign) ⟨rfl, rfl⟩ (x_nil (n := 11) rfl (pkc 7 2 rfl rfl rfl rfl nc_rr (pkc 6 2 rfl rfl rfl rfl (nc_of (by grind [idOf]) (by grind [idOf]) (by grind [idOf])) (pkn))) (Ns (Ps (Ps (Pr rfl (w_move_v (.pt be0 0) rfl rfl (Wq rfl (Fb fo95_1 (by decide) rfl 1 rfl (Fb fo89_0 (by decide) rfl 1 rfl ?_)))))))))
 refine Lb szg86 hH (i := 1) rfl rfl rfl (w_len_d elem86 rfl (Wm rfl (Wn (Ns (Pb ?_)))))
 exact jm 0 (jm 3 (jm 26 (jm 27 (jm 28 (c_things_L1_ok _ _ _ _ _ _ h w7672 _ _ _ _ _ (hH.selG 2 [1, 0] (by decide) (by decide) (gc rfl (gc rfl (gt rfl)))))))))
def c_named_L1_m (tF : TypedT) (t10F : List ByteArray) (t11F : Int) : c_named_L1_S → (Bool × TypedT) → Prop := fun st r => match st with
  | .c0 seen t12 => ∀ (m1 : Nat) (w2 be0 L g H n) (hH : HP H n (.box be0 (TypedT.av tF) :: .mp m1 (eM Dat.str (Dat.int .i64) seen) :: o9_1 w2 t10F :: L)), PAt C (bodyOf Tryd.f115) (.a (.b (.a (.b (.b .o))))) ⟨upd (upd (upd (upd (upd g 0 (.pt be0 0)) 3 (.mp m1)) 10 (w2)) 11 (.d (.int .i64 t11F))) 12 (.d (.int .i64 t12)), H, n⟩ (PostR C Tryd.f115 (fun rs H' n' => rs = [.d (.bool r.1)] ∧ HP H' n' (.box be0 (TypedT.av r.2) :: L)))
  | .c1 seen i s_ twice t12 => ∀ (m1 : Nat) (w2 be0 L g H n) (hH : HP H n (.box be0 (TypedT.av tF) :: .mp m1 (eM Dat.str (Dat.int .i64) seen) :: o9_1 w2 t10F :: L)), PAt C (bodyOf Tryd.f115) (.b (.a (.b (.a (.a (.b (.b (.a (.a (.b (.a (.b (.b .o))))))))))))) ⟨upd (upd (upd (upd (upd (upd (upd (upd g 0 (.pt be0 0)) 3 (.mp m1)) 4 (.d (.int .i64 i))) 5 (.d (.str s_))) 7 (.d (.bool twice))) 10 (w2)) 11 (.d (.int .i64 t11F))) 12 (.d (.int .i64 t12)), H, n⟩ (PostR C Tryd.f115 (fun rs H' n' => rs = [.d (.bool r.1)] ∧ HP H' n' (.box be0 (TypedT.av r.2) :: L)))
theorem c_named_L1_run_ok (tF : TypedT) (t10F : List ByteArray) (t11F : Int) (st : c_named_L1_S) (r : Bool × TypedT) (h : c_named_L1_run tF t10F t11F st = some r) : c_named_L1_m tF t10F t11F st r := by
 refine c_named_L1_run.partial_correctness tF t10F t11F (c_named_L1_m tF t10F t11F) (fun c_named_L1_run' ih_ st r h => ?_) st r h
 cases st with
 | c0 seen t12 =>
  intro m1 w2 be0 L g H n hH
  refine Po (Ps (Pr rfl ?_))
  refine Wc h rfl ?_ ?_ <;> intro _ h
  refine Wn (Ns (Ps (Ct (Pk (Nc (Ns (Ps (Pb (Ps ?_)))))))))
  refine Pr rfl (Wm rfl ?_)
  refine w_idx_own h rfl elem91 szg9 hH (j := 2) rfl rfl rfl (fun i6692 t15 h hl6692 hv6692 => ?_)
  refine w_load_e rfl szg9 hH (j := 2) rfl hl6692 rfl hv6692 rfl (Wa rfl (Wa rfl (Wn (Ns (Ps (Ps (Pr rfl (w_move_v (.mp m1) rfl rfl (Wm rfl ?_)))))))))
  refine w_look2 (eK := Dat.str) (eV := (Dat.int .i64)) (zv := (0 : Int)) rfl same_str mapT266 (kok_str ty9) zdE3 hH (j := 1) rfl rfl rfl (w_move_v (.tup [.d (.int .i64 ((mget seen t15).getD (0 : Int))), .d (.bool ((mget seen t15).isSome))]) rfl rfl (w_extract_d rfl rfl rfl ?_))
  refine w_split (b := (mget seen t15).isSome) h rfl (o_extract rfl rfl) rfl (fun _ => ⟨rfl, rfl⟩) (fun _ h => ?_) (fun _ h => ?_)
  refine Wa rfl (Wa rfl (Wn (Ns ?_)))
  exact jm 0 (jm 3 (jm 4 (jm 5 (jm 7 (jm 10 (jm 11 (jm 12 (ih_ (.c1 _ _ _ _ _) _ h m1 w2 _ _ _ _ _ hH))))))))
  refine Wa rfl (Wa rfl (Wn (Ns ?_)))
  exact jm 0 (jm 3 (jm 4 (jm 5 (jm 7 (jm 10 (jm 11 (jm 12 (ih_ (.c1 _ _ _ _ _) _ h m1 w2 _ _ _ _ _ hH))))))))
  refine Wn (Ns (Ps (Cf (Px rfl (Nb (Xs (Nb (Xl (Xb ?_)))))))))
  refine Nb (Ns (Ps (Pr rfl (w_move_v (.pt be0 0) rfl rfl (Wq rfl (Fb fo95_0 (by decide) rfl 0 rfl (Lb szg9 hH (i := 0) rfl rfl rfl ?_)))))))
  refine w_scal (E := eI) h rfl sig145 (sc rfl (sn)) (fun y hy => lex_KindOf_ok _ y hy) (fun _ => rfl) (fun t37 h => ?_)
  refine Wb rfl (Wa rfl (Wn (Ns ?_)))
  refine Pt (Cr ?_)
  cases h
  exact prF (.inl rfl) (ra_tmp (.d (.bool (decide (t37 = 1)))) rfl (ra_nil)) ⟨rfl, (hH.selG 3 [0] (by decide) (by decide) (gc rfl (gt rfl)))⟩
 | c1 seen i s_ twice t12 =>
  intro m1 w2 be0 L g H n hH
  refine Ps (Pr rfl (Wm rfl (Wm rfl ?_)))
  revert h; cases twice <;> intro h
  replace h := if0 h
  refine Wm rfl ?_
  refine w_scal (E := eI) h rfl sig145 (sc rfl (sn)) (fun y hy => lex_KindOf_ok _ y hy) (fun _ => rfl) (fun t26 h => ?_)
  refine Wd h rfl ?_ ?_ <;> intro _ h
  refine Wf rfl rfl (Wn (Ns (Cf (Pk (Nb (Nb (Nb (Ns (Pr rfl ?_)))))))))
  refine w_move_v (.mp m1) rfl rfl (Wm rfl (Wm rfl ?_))
  refine w_mput (eK := Dat.str) (eV := (Dat.int .i64)) (w := i) (.d (.int .i64 i)) rfl same_str mapT266 (kok_str ty9) rfl (FS.d (FS.nil hH)) (j := 1) rfl rfl rfl (fun H' hH => ?_)
  refine Wn (Nb (Nb (Nk (Ns (Pr rfl (Wb rfl (Wm rfl (Wn (Nb ?_)))))))))
  refine Nb (Nb (Nl ?_))
  exact jm 0 (jm 3 (jm 10 (jm 11 (jm 12 (ih_ (.c0 _ _) _ h m1 w2 _ _ _ _ _ hH)))))
  refine Wf rfl rfl (Wn (Ns (Ct (Ps (Pr rfl (Wa rfl (Wn (Ns ?_))))))))
  refine Pt (Cr ?_)
  cases h
  exact prF (.inl rfl) (ra_tmp (.d (.bool false)) rfl (ra_nil)) ⟨rfl, (hH.selG 3 [0] (by decide) (by decide) (gc rfl (gt rfl)))⟩
  replace h := if1 h
  refine Wk (Wk (Wk (Wt rfl rfl (Wn (Ns (Ct (Ps (Pr rfl (Wa rfl ?_)))))))))
  refine Wn (Ns ?_)
  refine Pt (Cr ?_)
  cases h
  exact prF (.inl rfl) (ra_tmp (.d (.bool false)) rfl (ra_nil)) ⟨rfl, (hH.selG 3 [0] (by decide) (by decide) (gc rfl (gt rfl)))⟩
theorem c_named_L1_ok (tF : TypedT) (seen : List (ByteArray × Int)) (t10F : List ByteArray) (t11F : Int) (t12 : Int) (r : Bool × TypedT) (h : c_named_L1 tF seen t10F t11F t12 = some r) : c_named_L1_m tF t10F t11F (.c0 seen t12) r := c_named_L1_run_ok tF t10F t11F (.c0 seen t12) r h
theorem c_named_ok (t : TypedT) (r : Bool × TypedT) (h : c_named t = some r) (be0 : Nat) (H : Hs) (n : Nat) (L : List Jv.Item) (hH : HP H n (.box be0 (TypedT.av t) :: L)) : Raw C 115 [.pt be0 0] H n (fun rs H' n' => rs = [.d (.bool r.1)] ∧ HP H' n' (.box be0 (TypedT.av r.2) :: L)) := by
 refine raw_at fn115 rfl (jmp 0 (.pt be0 0) rfl (Ps (Pr rfl (Wa rfl (Wn (Ns (Ps (Pr rfl ?_))))))))
 refine w_mkmap rfl mapT266 hH (fun m7690 H' n' hH => ?_)
 refine w_assign_v (.mp m7690) rfl rfl (Wn (Ns (Ps (Ps (Pr rfl (w_move_v (.pt be0 0) rfl rfl ?_))))))
 refine w_raw [.pt be0 0] h rfl rfl sig175 rfl (fun y hy => c_things_ok _ y hy be0 _ _ (.mp m7690 (eM Dat.str (Dat.int .i64) []) :: L) (hH.selG 2 [1, 0] (by decide) (by decide) (gc rfl (gc rfl (gt rfl))))) (fun t10 rs H' n' h hP => ?_)
 obtain ⟨w6691_0, rfl, hH⟩ := hP
 refine w_len_own rfl elem91 hH (j := 0) rfl rfl (Wm rfl (Wn (Ns (Pb ?_))))
 exact jm 0 (jm 3 (jm 10 (jm 11 (jm 12 (c_named_L1_ok _ _ _ _ _ _ h m7690 w6691_0 _ _ _ _ _ (hH.selG 3 [1, 2, 0] (by decide) (by decide) (gc rfl (gc rfl (gc rfl (gt rfl))))))))))
def c_nodes_L3_M (n_ : Int) (t34 : List TNextT) (t35 : Int) (t36 : Int) (r : Int) : Prop := ∀ (g : Nat → AV) (H : Hs) (n : Nat), PAt C (bodyOf Tryd.f116) (.a (.b (.a (.b (.b (.b .o)))))) ⟨upd (upd (upd (upd g 3 (.d (.int .i64 n_))) 34 (.d (.lst (t34.map TNextT.enc)))) 35 (.d (.int .i64 t35))) 36 (.d (.int .i64 t36)), H, n⟩ (PostD C Tryd.f116 [(.int .i64 r)])
theorem c_nodes_L3_ok (n_ : Int) (t34 : List TNextT) (t35 : Int) (t36 : Int) (r : Int) (h : c_nodes_L3 n_ t34 t35 t36 = some r) : c_nodes_L3_M n_ t34 t35 t36 r := by
 refine c_nodes_L3.partial_correctness t34 t35 (fun n_ t36 r => c_nodes_L3_M n_ t34 t35 t36 r) (fun c_nodes_L3 ih_c_nodes_L3 n_ t36 r h g H n => ?_) n_ t36 r h
 refine Po (Ps (Pr rfl ?_))
 refine Wc h rfl ?_ ?_ <;> intro _ h
 refine Wn (Ns (Ps (Ct (Pk (Nc (Ns (Ps (Pb (Ps ?_)))))))))
 refine Pr rfl ?_
 refine w_idx h rfl elem194 szg198 (fun _ => rfl) rfl rfl (fun t38 h => ?_)
 refine w_load_d (d := (TNextT.enc t38)) szg198 rfl rfl ?_
 refine alloc_z rfl zero198 (HP.nil _ _) (fun b7698 H' n' hH => ?_)
 refine w_store_b (new := (TNextT.av t38)) rfl szg198 hH (i := 0) rfl rfl rfl rfl rfl (Nat.le_of_ble_eq_true rfl) (fun H' hH => ?_)
 refine Wn (Ns (Pr rfl (Wm rfl (Fb fo198_1 (by decide) rfl 1 rfl (Lb szg22 hH (i := 0) rfl rfl rfl (w_len_d elem22 rfl (Wb rfl (Wa rfl (Wn ?_)))))))))
 refine Nb (Nk (Ns (Pr rfl (Wb rfl (Wm rfl (Wn (Nb (Nb (Nb ?_)))))))))
 refine Nl ?_
 exact jm 3 (jm 34 (jm 35 (jm 36 (ih_c_nodes_L3 _ _ _ h _ _ _))))
 refine Wn (Ns (Ps (Cf (Px rfl (Nb (Xs (Nb (Xl (Xb ?_)))))))))
 refine Nb (Ns (Ps (Pr rfl (Wm rfl (Wa rfl (Wn (Ns ?_)))))))
 cases h; exact Pq rfl rfl
def c_nodes_L1_m (s_F : TStageT) (t16F : A3 (List StmtT)) : c_nodes_L1_S → Int → Prop := fun st r => match st with
  | .c0 n_ t17 => ∀ (b0 g H n) (hH : HP H n [.box b0 (TStageT.av s_F)]), PAt C (bodyOf Tryd.f116) (.a (.b (.a (.b (.b .o))))) ⟨upd (upd (upd (upd g 1 (.pt b0 0)) 3 (.d (.int .i64 n_))) 16 (.agg [.d (.lst (t16F.e0.map StmtT.enc)), .d (.lst (t16F.e1.map StmtT.enc)), .d (.lst (t16F.e2.map StmtT.enc))])) 17 (.d (.int .i64 t17)), H, n⟩ (PostD C Tryd.f116 [(.int .i64 r)])
  | .c1 n_ t17 t20 t21 t22 => ∀ (b0 g H n) (hH : HP H n [.box b0 (TStageT.av s_F)]), PAt C (bodyOf Tryd.f116) (.a (.b (.b (.a (.a (.b (.b (.a (.a (.b (.a (.b (.b .o))))))))))))) ⟨upd (upd (upd (upd (upd (upd (upd g 1 (.pt b0 0)) 3 (.d (.int .i64 n_))) 16 (.agg [.d (.lst (t16F.e0.map StmtT.enc)), .d (.lst (t16F.e1.map StmtT.enc)), .d (.lst (t16F.e2.map StmtT.enc))])) 17 (.d (.int .i64 t17))) 20 (.d (.lst (t20.map StmtT.enc)))) 21 (.d (.int .i64 t21))) 22 (.d (.int .i64 t22)), H, n⟩ (PostD C Tryd.f116 [(.int .i64 r)])
theorem c_nodes_L1_run_ok (s_F : TStageT) (t16F : A3 (List StmtT)) (st : c_nodes_L1_S) (r : Int) (h : c_nodes_L1_run s_F t16F st = some r) : c_nodes_L1_m s_F t16F st r := by
 refine c_nodes_L1_run.partial_correctness s_F t16F (c_nodes_L1_m s_F t16F) (fun c_nodes_L1_run' ih_ st r h => ?_) st r h
 cases st with
 | c0 n_ t17 =>
  intro b0 g H n hH
  refine Po (Ps (Pr rfl ?_))
  refine Wc h rfl ?_ ?_ <;> intro _ h
  refine Wn (Ns (Ps (Ct (Pk (Nc (Ns (Ps (Pb (Ps ?_)))))))))
  refine Pr rfl ?_
  refine w_index3 (f := (eL StmtT.enc)) (w := t16F) h rfl arr268 szg58 (.inr rfl) rfl (fun _ => rfl) (fun _ => rfl) (fun t19 h => ?_)
  refine Wa rfl (Wn (Ns (Ps (Pr rfl (Wm rfl (w_len_d elem58 rfl (Wm rfl (Wn (Ns ?_)))))))))
  refine Pb ?_
  exact jm 1 (jm 3 (jm 16 (jm 17 (jm 20 (jm 21 (jm 22 (ih_ (.c1 _ _ _ _ _) _ h b0 _ _ _ hH)))))))
  refine Wn (Ns (Ps (Cf (Px rfl (Nb (Xs (Nb (Xl (Xb ?_)))))))))
  refine Nb (Ns (Ps (Ps (Pr rfl (Fb fo196_6 (by decide) rfl 6 rfl (Lb szg194 hH (i := 0) rfl rfl rfl (w_len_d elem194 rfl (Wm rfl (Wn ?_)))))))))
  refine Ns (Pb ?_)
  exact jm 3 (jm 34 (jm 35 (jm 36 (c_nodes_L3_ok _ _ _ _ _ h _ _ _))))
 | c1 n_ t17 t20 t21 t22 =>
  intro b0 g H n hH
  refine Po (Ps (Pr rfl ?_))
  refine Wc h rfl ?_ ?_ <;> intro _ h
  refine Wn (Ns (Ps (Ct (Pk (Nc (Ns (Ps (Pb (Ps ?_)))))))))
  refine Pr rfl ?_
  refine w_idx h rfl elem58 szg140 (fun _ => rfl) rfl rfl (fun t24 h => ?_)
  refine w_load_d (d := (StmtT.enc t24)) szg140 rfl rfl ?_
  refine alloc_z rfl zero140 hH (fun b7697 H' n' hH => ?_)
  refine w_store_b (new := (StmtT.av t24)) rfl szg140 hH (i := 0) rfl rfl rfl rfl rfl (Nat.le_of_ble_eq_true rfl) (fun H' hH => ?_)
  refine Wn (Ns (Pr rfl (Wm rfl (Fb fo140_3 (by decide) rfl 3 rfl (Lb szg22 hH (i := 0) rfl rfl rfl (w_len_d elem22 rfl (Wb rfl (Wa rfl (Wn ?_)))))))))
  refine Nb (Nk (Ns (Pr rfl (Wb rfl (Wm rfl (Wn (Nb (Nb (Nb ?_)))))))))
  refine Nl ?_
  exact jm 1 (jm 3 (jm 16 (jm 17 (jm 20 (jm 21 (jm 22 (ih_ (.c1 _ _ _ _ _) _ h b0 _ _ _ (hH.selG 2 [1] (by decide) (by decide) (gc rfl (gt rfl))))))))))
  refine Wn (Ns (Ps (Cf (Px rfl (Nb (Xs (Nb (Xl (Xb ?_)))))))))
  refine Nb (Nb (Nk (Ns (Pr rfl (Wb rfl (Wm rfl (Wn (Nb (Nb ?_)))))))))
  refine Nb (Nl ?_)
  exact jm 1 (jm 3 (jm 16 (jm 17 (ih_ (.c0 _ _) _ h b0 _ _ _ hH))))
end Go.Proofs.YtdcpfmjnkcodiaaDoor.We
namespace Go.Proofs.YtdcpfmjnkcodiaaDoor.We
open Go Go.Jv
set_option maxHeartbeats 4000000
open Go.Proofs
set_option maxHeartbeats 4000000
theorem c_nodes_L1_ok (s_F : TStageT) (n_ : Int) (t16F : A3 (List StmtT)) (t17 : Int) (r : Int) (h : c_nodes_L1 s_F n_ t16F t17 = some r) : c_nodes_L1_m s_F t16F (.c0 n_ t17) r := c_nodes_L1_run_ok s_F t16F (.c0 n_ t17) r h
theorem c_nodes_ok (s_ : TStageT) (r : Int) (h : c_nodes s_ = some r) : callD C 116 [(TStageT.enc s_)] = some [(.int .i64 r)] := by
 refine callD_at (ext0 _ _ rfl) fn116 rfl (jmp 0 (.d (TStageT.enc s_)) rfl (Ps (Pr rfl ?_)))
 refine w_box (cs := (TStageT.av s_)) rfl szg196 rfl rfl rfl (HP.nil _ _) (fun b7696 H' n' hH => ?_)
 refine Wa rfl (Wn (Ns (Ps (Pr rfl (Wa rfl (Wn (Ns (Ps (Ps ?_)))))))))
 refine Pr rfl (Fb fo196_3 (by decide) rfl 3 rfl (Lb szg58 hH (i := 0) rfl rfl rfl (Fb fo196_4 (by decide) rfl 4 rfl (Lb szg58 hH (i := 0) rfl rfl rfl (Fb fo196_5 (by decide) rfl 5 rfl (Lb szg58 hH (i := 0) rfl rfl rfl (w_buildA (cs := [.d (.lst (s_.Enter.map StmtT.enc)), .d (.lst (s_.During.map StmtT.enc)), .d (.lst (s_.Leave.map StmtT.enc))]) rfl zero268 arr268 szg58 rfl (Wm rfl (Wn ?_)))))))))
 refine Ns (Pb ?_)
 exact jm 1 (jm 3 (jm 16 (jm 17 (c_nodes_L1_ok _ _ _ _ _ h b7696 _ _ _ hH))))
theorem arith_Arity_k1_ok (op : Int) (r : Int) (h : arith_Arity_k1 op = some r) (g : Nat → AV) (H : Hs) (n : Nat) : PAt C (bodyOf Tryd.f65) (.b (.b (.a (.a (.b .o))))) ⟨upd g 0 (.d (.int .i64 op)), H, n⟩ (PostD C Tryd.f65 [(.int .i64 r)]) := by
 refine Ps (Pr rfl (Wm rfl ?_))
 refine Wc h rfl ?_ ?_ <;> intro _ h
 refine Wm rfl (Wm rfl ?_)
 refine Wc h rfl ?_ ?_ <;> intro _ h
 refine Wt rfl rfl (Wm rfl (Wm rfl ?_))
 refine w_idx_g h rfl arr225 szg3 glob2 rfl rfl nel225 (fun t19 h _ _ => ?_)
 refine w_load_d szg3 rfl rfl ?_
 refine Wc h rfl ?_ ?_ <;> intro _ h
 refine Wt rfl rfl (Wa rfl (Wn (Ns (Ct (Ps (Pr rfl (Wm rfl ?_)))))))
 refine w_idx_g h rfl arr225 szg3 glob2 rfl rfl nel225 (fun t24 h _ _ => ?_)
 refine w_load_d szg3 rfl rfl (Wa rfl (Wn (Ns ?_)))
 cases h; exact Pq rfl rfl
 refine Wt rfl rfl (Wa rfl (Wn (Ns (Cf (Pk (Nb (Nb (Nb (Nb ?_)))))))))
 refine Nk (Ns (Ps (Pr rfl (Wa rfl (Wn (Ns ?_))))))
 cases h; exact Pq rfl rfl
 refine Wt rfl rfl (Wm rfl (Wk (Wk (Wk (Wk (Wf rfl rfl (Wa rfl (Wn (Ns ?_)))))))))
 refine Cf (Pk (Nb (Nb (Nb (Nb (Nk (Ns (Ps (Pr rfl ?_)))))))))
 refine Wa rfl (Wn (Ns ?_))
 cases h; exact Pq rfl rfl
 refine Wm rfl (Wk (Wk (Wf rfl rfl (Wm rfl (Wk (Wk (Wk (Wk (Wf rfl rfl ?_)))))))))
 refine Wa rfl (Wn (Ns (Cf (Pk (Nb (Nb (Nb (Nb (Nk ?_)))))))))
 refine Ns (Ps (Pr rfl (Wa rfl (Wn (Ns ?_)))))
 cases h; exact Pq rfl rfl
theorem arith_Arity_ok (op : Int) (r : Int) (h : arith_Arity op = some r) : callD C 65 [(.int .i64 op)] = some [(.int .i64 r)] := by
 refine callD_at (ext0 _ _ rfl) fn65 rfl (jmp 0 (.d (.int .i64 op)) rfl (Ps (Pr rfl (Wa rfl (Wn (Ns (Ps (Pb (Ps ?_)))))))))
 refine Pr rfl (Wm rfl ?_)
 refine Wc h rfl ?_ ?_ <;> intro _ h
 refine Wm rfl (Wm rfl ?_)
 refine Wc h rfl ?_ ?_ <;> intro _ h
 refine Wt rfl rfl (Wa rfl (Wn (Ns (Ct (Ps (Pr rfl (Wa rfl (Wn (Ns ?_)))))))))
 cases h; exact Pq rfl rfl
 refine Wt rfl rfl (Wa rfl (Wn (Ns (Cf ?_))))
 exact jm 0 (arith_Arity_k1_ok _ _ h _ _ _)
 refine Wm rfl (Wk (Wk (Wf rfl rfl (Wa rfl (Wn (Ns (Cf ?_)))))))
 exact jm 0 (arith_Arity_k1_ok _ _ h _ _ _)
def tree_Span_L1_M (e : List NodeT) (wanted : Int) (j : Int) (r : Int) : Prop := ∀ (g : Nat → AV) (H : Hs) (n : Nat), PAt C (bodyOf Tryd.f13) (.a (.b (.a (.b (.b (.b .o)))))) ⟨upd (upd (upd g 0 (.d (.lst (e.map NodeT.enc)))) 5 (.d (.int .i64 wanted))) 6 (.d (.int .i64 j)), H, n⟩ (PostD C Tryd.f13 [(.int .i64 r)])
theorem tree_Span_L1_ok (e : List NodeT) (wanted : Int) (j : Int) (r : Int) (h : tree_Span_L1 e wanted j = some r) : tree_Span_L1_M e wanted j r := by
 refine tree_Span_L1.partial_correctness e (fun wanted j r => tree_Span_L1_M e wanted j r) (fun tree_Span_L1 ih_tree_Span_L1 wanted j r h g H n => ?_) wanted j r h
 refine Po (Ps (Ps (Pr rfl (Wm rfl ?_))))
 refine Wc h rfl ?_ ?_ <;> intro _ h
 refine Wn (Ns (Ct (Pk (Nc (Nb (Ns (Ps (Pb (Ps ?_)))))))))
 refine Pr rfl (Wm rfl (Wm rfl ?_))
 refine w_idx h rfl elem22 szg115 (fun _ => rfl) rfl rfl (fun t23 h => ?_)
 refine w_faddr_d rfl fo115_0 (by decide) rfl (w_load_d szg3 rfl rfl ?_)
 refine w_scal (E := eI) h rfl sig65 (sc rfl (sn)) (fun y hy => arith_Arity_ok _ y hy) (fun _ => rfl) (fun t26 h => ?_)
 refine Wa rfl (Wn (Ns (Ps (Ps (Pr rfl (Wm rfl ?_))))))
 refine Wc h rfl ?_ ?_ <;> intro _ h
 refine Wn (Ns (Ct (Ps (Pr rfl (Wa rfl (Wn (Ns ?_)))))))
 cases h; exact Pq rfl rfl
 refine Wn (Ns (Cf (Pk (Nb (Nb (Ns (Ps (Pr rfl (Wm rfl ?_)))))))))
 refine Wm rfl (Wb rfl (Wb rfl (Wa rfl (Wn (Ns (Ps (Pr rfl (Wm rfl ?_))))))))
 refine Wc h rfl ?_ ?_ <;> intro _ h
 refine Wn (Ns (Ct (Ps (Pr rfl (Wm rfl (Wa rfl (Wn (Ns ?_))))))))
 cases h; exact Pq rfl rfl
 refine Wn (Ns (Cf (Pk (Nb (Nb (Nb (Nb (Nb (Nk ?_)))))))))
 refine Ns (Pr rfl (Wm rfl (Wb rfl (Wa rfl (Wn (Nb (Nb (Nl ?_))))))))
 exact jm 0 (jm 5 (jm 6 (ih_tree_Span_L1 _ _ _ h _ _ _)))
 refine Wn (Ns (Cf (Px rfl (Nb (Nb (Xs (Xl (Xb (Nb ?_)))))))))
 refine Ns (Ps (Pr rfl (Wa rfl (Wn (Ns ?_)))))
 cases h; exact Pq rfl rfl
theorem tree_Span_ok (e : List NodeT) (i : Int) (r : Int) (h : tree_Span e i = some r) : callD C 13 [(.lst (e.map NodeT.enc)), (.int .i64 i)] = some [(.int .i64 r)] := by
 refine callD_at (ext0 _ _ rfl) fn13 rfl (jmp 0 (.d (.lst (e.map NodeT.enc))) rfl (jmp 1 (.d (.int .i64 i)) rfl (Ps (Pr rfl (Wa rfl (Wn (Ns (Ps (Ps ?_)))))))))
 refine Pr rfl (Wm rfl ?_)
 refine Wc h rfl ?_ ?_ <;> intro _ h
 refine Wm rfl (Wk (Wk (Wk (Wk (Wt rfl rfl (Wn (Ns (Ct (Ps ?_)))))))))
 refine Pr rfl (Wa rfl (Wn (Ns ?_)))
 cases h; exact Pq rfl rfl
 refine Wm rfl (Wm rfl (Wm rfl (w_len_d elem22 rfl ?_)))
 refine Wc h rfl ?_ ?_ <;> intro _ h
 refine Wf rfl rfl (Wn (Ns (Ct (Ps (Pr rfl (Wa rfl (Wn (Ns ?_))))))))
 cases h; exact Pq rfl rfl
 refine Wf rfl rfl (Wn (Ns (Cf (Pk (Nb (Nb (Ns (Ps (Pr rfl ?_)))))))))
 refine Wa rfl (Wn (Ns (Ps (Ps (Pr rfl (Wm rfl (Wa rfl (Wn (Ns ?_)))))))))
 refine Pb ?_
 exact jm 0 (jm 5 (jm 6 (tree_Span_L1_ok _ _ _ _ h _ _ _)))
theorem tree_level_k1_ok (op : Int) (r : Int) (h : tree_level_k1 op = some r) (g : Nat → AV) (H : Hs) (n : Nat) : PAt C (bodyOf Tryd.f67) (.b (.b (.b (.b (.b (.b (.b (.b (.a (.a (.b .o))))))))))) ⟨upd g 0 (.d (.int .i64 op)), H, n⟩ (PostD C Tryd.f67 [(.int .i64 r)]) := by
 refine Ps (Pr rfl (Wm rfl ?_))
 refine Wc h rfl ?_ ?_ <;> intro _ h
 refine Wm rfl (Wk (Wk (Wt rfl rfl (Wa rfl (Wn (Ns (Ct (Ps (Pr rfl ?_)))))))))
 refine Wa rfl (Wn (Ns ?_))
 cases h; exact Pq rfl rfl
 refine Wm rfl (Wm rfl ?_)
 refine Wc h rfl ?_ ?_ <;> intro _ h
 refine Wf rfl rfl (Wa rfl (Wn (Ns (Ct (Ps (Pr rfl (Wa rfl (Wn (Ns ?_)))))))))
 cases h; exact Pq rfl rfl
 refine Wf rfl rfl (Wa rfl (Wn (Ns (Cf (Ps (Pr rfl (Wm rfl ?_)))))))
 refine Wc h rfl ?_ ?_ <;> intro _ h
 refine Wm rfl (Wk (Wk (Wt rfl rfl (Wm rfl (Wk (Wk (Wt rfl rfl (Wa rfl (Wn ?_)))))))))
 refine Ns (Ct (Ps (Pr rfl (Wa rfl (Wn (Ns ?_))))))
 cases h; exact Pq rfl rfl
 refine Wm rfl (Wm rfl ?_)
 refine Wc h rfl ?_ ?_ <;> intro _ h
 refine Wf rfl rfl (Wm rfl (Wk (Wk (Wt rfl rfl (Wa rfl (Wn (Ns (Ct (Ps ?_)))))))))
 refine Pr rfl (Wa rfl (Wn (Ns ?_)))
 cases h; exact Pq rfl rfl
 refine Wf rfl rfl (Wm rfl (Wm rfl ?_))
 refine Wc h rfl ?_ ?_ <;> intro _ h
 refine Wf rfl rfl (Wa rfl (Wn (Ns (Ct (Ps (Pr rfl (Wa rfl (Wn (Ns ?_)))))))))
 cases h; exact Pq rfl rfl
 refine Wf rfl rfl (Wa rfl (Wn (Ns (Cf (Ps (Pr rfl (Wm rfl ?_)))))))
 refine Wc h rfl ?_ ?_ <;> intro _ h
 refine Wa rfl (Wn (Ns (Ct (Ps (Pr rfl (Wa rfl (Wn (Ns ?_))))))))
 cases h; exact Pq rfl rfl
 refine Wa rfl (Wn (Ns (Cf (Pk (Nb (Nb (Nb (Nb (Nb ?_)))))))))
 refine Nb (Nb (Nb (Nb (Nb (Nb (Nb (Nb (Nb (Nk ?_)))))))))
 refine Ns (Ps (Pr rfl (Wa rfl (Wn (Ns ?_)))))
 cases h; exact Pq rfl rfl
theorem tree_level_ok (op : Int) (r : Int) (h : tree_level op = some r) : callD C 67 [(.int .i64 op)] = some [(.int .i64 r)] := by
 refine callD_at (ext0 _ _ rfl) fn67 rfl (jmp 0 (.d (.int .i64 op)) rfl (Ps (Pr rfl (Wa rfl (Wn (Ns (Ps (Pb (Ps ?_)))))))))
 refine Pr rfl (Wm rfl ?_)
 refine Wc h rfl ?_ ?_ <;> intro _ h
 refine Wa rfl (Wn (Ns (Ct (Ps (Pr rfl (Wa rfl (Wn (Ns ?_))))))))
 cases h; exact Pq rfl rfl
 refine Wa rfl (Wn (Ns (Cf (Ps (Pr rfl (Wm rfl ?_))))))
 refine Wc h rfl ?_ ?_ <;> intro _ h
 refine Wa rfl (Wn (Ns (Ct (Ps (Pr rfl (Wa rfl (Wn (Ns ?_))))))))
 cases h; exact Pq rfl rfl
 refine Wa rfl (Wn (Ns (Cf (Ps (Pr rfl (Wm rfl ?_))))))
 refine Wc h rfl ?_ ?_ <;> intro _ h
 refine Wa rfl (Wn (Ns (Ct (Ps (Pr rfl (Wa rfl (Wn (Ns ?_))))))))
 cases h; exact Pq rfl rfl
 refine Wa rfl (Wn (Ns (Cf (Ps (Pr rfl (Wm rfl ?_))))))
 refine Wc h rfl ?_ ?_ <;> intro _ h
 refine Wm rfl (Wm rfl ?_)
 refine Wc h rfl ?_ ?_ <;> intro _ h
 refine Wt rfl rfl (Wa rfl (Wn (Ns (Ct (Ps (Pr rfl (Wa rfl (Wn (Ns ?_)))))))))
 cases h; exact Pq rfl rfl
 refine Wt rfl rfl (Wa rfl (Wn (Ns (Cf ?_))))
 exact jm 0 (tree_level_k1_ok _ _ h _ _ _)
 refine Wm rfl (Wk (Wk (Wf rfl rfl (Wa rfl (Wn (Ns (Cf ?_)))))))
 exact jm 0 (tree_level_k1_ok _ _ h _ _ _)
theorem tree_asks_k1_ok (op : Int) (t2 : A2 Int) (r : A2 Int) (h : tree_asks_k1 op t2 = some r) (b0 g H n) (hH : HP H n [.box b0 [.d (.int .i64 t2.e0), .d (.int .i64 t2.e1)]]) : PAt C (bodyOf Tryd.f66) (.a (.b (.a (.a (.b .o))))) ⟨upd (upd g 0 (.d (.int .i64 op))) 2 (.pt b0 0), H, n⟩ (PostD C Tryd.f66 [((A2.enc (Dat.int .i64)) r)]) := by
 refine Ps (Pr rfl (Wm rfl ?_))
 refine w_scal (E := eI) h rfl sig67 (sc rfl (sn)) (fun y hy => tree_level_ok _ y hy) (fun _ => rfl) (fun t11 h => ?_)
 refine w_buildA (cs := [.d (.int .i64 t11), .d (.int .i64 0)]) rfl zero120 arr120 szg3 rfl ?_
 refine w_store_b (new := [.d (.int .i64 t11), .d (.int .i64 0)]) rfl szg120 hH (i := 0) rfl rfl rfl rfl rfl (Nat.le_of_ble_eq_true rfl) (fun H' hH => ?_)
 refine Wn (Ns ?_)
 refine Pt (Cr ?_)
 cases h
 exact pdF (.inl rfl) (ra_cell (.agg [.d (.int .i64 t11), .d (.int .i64 0)]) szg120 hH (i := 0) rfl rfl rfl (ra_nil)) (FS.agg (FS.d (FS.d (FS.nil hH))) (fun _ hH => FS.nil hH))
theorem tree_asks_k3_ok (t2 : A2 Int) (r : A2 Int) (h : tree_asks_k3 t2 = some r) (b0 g H n) (hH : HP H n [.box b0 [.d (.int .i64 t2.e0), .d (.int .i64 t2.e1)]]) : PAt C (bodyOf Tryd.f66) (.a (.b (.b (.b (.b (.b (.a (.a (.b .o))))))))) ⟨upd g 2 (.pt b0 0), H, n⟩ (PostD C Tryd.f66 [((A2.enc (Dat.int .i64)) r)]) := by
 refine Ps (Pr rfl (w_buildA (cs := [.d (.int .i64 1), .d (.int .i64 1)]) rfl zero120 arr120 szg3 rfl ?_))
 refine w_store_b (new := [.d (.int .i64 1), .d (.int .i64 1)]) rfl szg120 hH (i := 0) rfl rfl rfl rfl rfl (Nat.le_of_ble_eq_true rfl) (fun H' hH => ?_)
 refine Wn (Ns ?_)
 refine Pt (Cr ?_)
 cases h
 exact pdF (.inl rfl) (ra_cell (.agg [.d (.int .i64 1), .d (.int .i64 1)]) szg120 hH (i := 0) rfl rfl rfl (ra_nil)) (FS.agg (FS.d (FS.d (FS.nil hH))) (fun _ hH => FS.nil hH))
theorem tree_asks_k2_ok (op : Int) (t2 : A2 Int) (r : A2 Int) (h : tree_asks_k2 op t2 = some r) (b0 g H n) (hH : HP H n [.box b0 [.d (.int .i64 t2.e0), .d (.int .i64 t2.e1)]]) : PAt C (bodyOf Tryd.f66) (.b (.b (.b (.b (.a (.a (.b .o))))))) ⟨upd (upd g 0 (.d (.int .i64 op))) 2 (.pt b0 0), H, n⟩ (PostD C Tryd.f66 [((A2.enc (Dat.int .i64)) r)]) := by
 refine Ps (Pr rfl (Wm rfl ?_))
 refine Wc h rfl ?_ ?_ <;> intro _ h
 refine Wm rfl (Wk (Wk (Wt rfl rfl (Wm rfl (Wk (Wk (Wt rfl rfl (Wa rfl (Wn ?_)))))))))
 refine Ns (Ct ?_)
 exact jm 2 (tree_asks_k3_ok _ _ h b0 _ _ _ hH)
 refine Wm rfl (Wm rfl ?_)
 refine Wc h rfl ?_ ?_ <;> intro _ h
 refine Wf rfl rfl (Wm rfl (Wk (Wk (Wt rfl rfl (Wa rfl (Wn (Ns (Ct ?_))))))))
 exact jm 2 (tree_asks_k3_ok _ _ h b0 _ _ _ hH)
 refine Wf rfl rfl (Wm rfl (Wm rfl ?_))
 refine Wc h rfl ?_ ?_ <;> intro _ h
 refine Wf rfl rfl (Wa rfl (Wn (Ns (Ct ?_))))
 exact jm 2 (tree_asks_k3_ok _ _ h b0 _ _ _ hH)
 refine Wf rfl rfl (Wa rfl (Wn (Ns (Cf (Pk (Nb (Nb (Nb (Nb ?_)))))))))
 refine Nb (Nb (Nk (Ns (Ps (Pr rfl (Wm rfl ?_))))))
 refine w_scal (E := eI) h rfl sig67 (sc rfl (sn)) (fun y hy => tree_level_ok _ y hy) (fun _ => rfl) (fun t34 h => ?_)
 refine Wm rfl ?_
 refine w_scal (E := eI) h rfl sig67 (sc rfl (sn)) (fun y hy => tree_level_ok _ y hy) (fun _ => rfl) (fun t36 h => ?_)
 refine Wb rfl (w_buildA (cs := [.d (.int .i64 t34), .d (.int .i64 (w64 (t36 + 1)))]) rfl zero120 arr120 szg3 rfl ?_)
 refine w_store_b (new := [.d (.int .i64 t34), .d (.int .i64 (w64 (t36 + 1)))]) rfl szg120 hH (i := 0) rfl rfl rfl rfl rfl (Nat.le_of_ble_eq_true rfl) (fun H' hH => ?_)
 refine Wn (Ns ?_)
 refine Pt (Cr ?_)
 cases h
 exact pdF (.inl rfl) (ra_cell (.agg [.d (.int .i64 t34), .d (.int .i64 (w64 (t36 + 1)))]) szg120 hH (i := 0) rfl rfl rfl (ra_nil)) (FS.agg (FS.d (FS.d (FS.nil hH))) (fun _ hH => FS.nil hH))
theorem tree_asks_ok (op : Int) (r : A2 Int) (h : tree_asks op = some r) : callD C 66 [(.int .i64 op)] = some [((A2.enc (Dat.int .i64)) r)] := by
 refine callD_at (ext0 _ _ rfl) fn66 rfl (jmp 0 (.d (.int .i64 op)) rfl (Ps (Pr rfl ?_)))
 refine alloc_z rfl zero120 (HP.nil _ _) (fun b7700 H' n' hH => ?_)
 refine Wn (Ns (Ps (Pb (Ps (Pr rfl (Wm rfl ?_))))))
 refine Wc h rfl ?_ ?_ <;> intro _ h
 refine Wm rfl (Wk (Wk (Wt rfl rfl (Wa rfl (Wn (Ns (Ct ?_)))))))
 exact jm 0 (jm 2 (tree_asks_k1_ok _ _ _ h b7700 _ _ _ hH))
 refine Wm rfl (Wm rfl ?_)
 refine Wc h rfl ?_ ?_ <;> intro _ h
 refine Wf rfl rfl (Wa rfl (Wn (Ns (Ct ?_))))
 exact jm 0 (jm 2 (tree_asks_k1_ok _ _ _ h b7700 _ _ _ hH))
 refine Wf rfl rfl (Wa rfl (Wn (Ns (Cf (Ps (Pr rfl (Wm rfl ?_)))))))
 refine Wc h rfl ?_ ?_ <;> intro _ h
 refine Wm rfl (Wm rfl ?_)
 refine Wc h rfl ?_ ?_ <;> intro _ h
 refine Wt rfl rfl (Wa rfl (Wn (Ns (Ct (Ps (Pr rfl (w_buildA (cs := [.d (.int .i64 5), .d (.int .i64 5)]) rfl zero120 arr120 szg3 rfl ?_)))))))
 refine w_store_b (new := [.d (.int .i64 5), .d (.int .i64 5)]) rfl szg120 hH (i := 0) rfl rfl rfl rfl rfl (Nat.le_of_ble_eq_true rfl) (fun H' hH => ?_)
 refine Wn (Ns ?_)
 refine Pt (Cr ?_)
 cases h
 exact pdF (.inl rfl) (ra_cell (.agg [.d (.int .i64 5), .d (.int .i64 5)]) szg120 hH (i := 0) rfl rfl rfl (ra_nil)) (FS.agg (FS.d (FS.d (FS.nil hH))) (fun _ hH => FS.nil hH))
 refine Wt rfl rfl (Wa rfl (Wn (Ns (Cf ?_))))
 exact jm 0 (jm 2 (tree_asks_k2_ok _ _ _ h b7700 _ _ _ hH))
 refine Wm rfl (Wk (Wk (Wf rfl rfl (Wa rfl (Wn (Ns (Cf ?_)))))))
 exact jm 0 (jm 2 (tree_asks_k2_ok _ _ _ h b7700 _ _ _ hH))
def tree_Nest_L1_m (t18F : List NodeT) (t19F : Int) : tree_Nest_L1_S → Int → Prop := fun st r => match st with
  | .c0 stack t20 => ∀ (w0 g H n) (hH : HP H n [o119_2 w0 stack]), PAt C (bodyOf Tryd.f14) (.a (.b (.a (.b (.b (.b .o)))))) ⟨upd (upd (upd (upd g 3 (w0)) 18 (.d (.lst (t18F.map NodeT.enc)))) 19 (.d (.int .i64 t19F))) 20 (.d (.int .i64 t20)), H, n⟩ (PostD C Tryd.f14 [(.int .i64 r)])
  | .c1 stack n_ k d want t20 t38lo t39 t40 => ∀ (w0 b1 b2 b3 g H n) (hH : HP H n [o119_2 w0 stack, .box b1 (NodeT.av n_), .box b2 (Tree_deepT.av d), .box b3 [.d (.int .i64 want.e0), .d (.int .i64 want.e1)]]), PAt C (bodyOf Tryd.f14) (.a (.b (.a (.b (.b (.b (.b (.a (.a (.b (.b (.a (.a (.b (.a (.b (.b (.b .o)))))))))))))))))) ⟨upd (upd (upd (upd (upd (upd (upd (upd (upd (upd (upd g 3 (w0)) 5 (.pt b1 0)) 6 (.d (.int .i64 k))) 7 (.pt b2 0)) 8 (.pt b3 0)) 18 (.d (.lst (t18F.map NodeT.enc)))) 19 (.d (.int .i64 t19F))) 20 (.d (.int .i64 t20))) 38 (tailA w0 t38lo.toNat stack.length)) 39 (.d (.int .i64 t39))) 40 (.d (.int .i64 t40)), H, n⟩ (PostD C Tryd.f14 [(.int .i64 r)])
  | .c2 stack n_ k d want nest t20 t38lo t39 t40 => ∀ (w0 b1 b2 b3 g H n) (hH : HP H n [o119_2 w0 stack, .box b1 (NodeT.av n_), .box b2 (Tree_deepT.av d), .box b3 [.d (.int .i64 want.e0), .d (.int .i64 want.e1)]]), PAt C (bodyOf Tryd.f14) (.b (.b (.b (.a (.a (.b (.b (.a (.a (.b (.a (.b (.b (.b (.b (.a (.a (.b (.b (.a (.a (.b (.a (.b (.b (.b .o)))))))))))))))))))))))))) ⟨upd (upd (upd (upd (upd (upd (upd (upd (upd (upd (upd (upd g 3 (w0)) 5 (.pt b1 0)) 6 (.d (.int .i64 k))) 7 (.pt b2 0)) 8 (.pt b3 0)) 11 (.d (.int .i64 nest))) 18 (.d (.lst (t18F.map NodeT.enc)))) 19 (.d (.int .i64 t19F))) 20 (.d (.int .i64 t20))) 38 (tailA w0 t38lo.toNat stack.length)) 39 (.d (.int .i64 t39))) 40 (.d (.int .i64 t40)), H, n⟩ (PostD C Tryd.f14 [(.int .i64 r)])
  | .c3 stack d t20 => ∀ (w0 b1 g H n) (hH : HP H n [o119_2 w0 stack, .box b1 (Tree_deepT.av d)]), PAt C (bodyOf Tryd.f14) (.a (.b (.a (.b (.a (.b (.b (.b (.b (.b (.b (.a (.a (.b (.b (.a (.a (.b (.a (.b (.b (.b .o)))))))))))))))))))))) ⟨upd (upd (upd (upd (upd g 3 (w0)) 7 (.pt b1 0)) 18 (.d (.lst (t18F.map NodeT.enc)))) 19 (.d (.int .i64 t19F))) 20 (.d (.int .i64 t20)), H, n⟩ (PostD C Tryd.f14 [(.int .i64 r)])
  | .c4 stack d t20 => ∀ (w0 b1 g H n) (hH : HP H n [o119_2 w0 stack, .box b1 (Tree_deepT.av d)]), PAt C (bodyOf Tryd.f14) (.b (.b (.b (.b (.b (.b (.b (.a (.a (.b (.b (.a (.a (.b (.a (.b (.b (.b .o)))))))))))))))))) ⟨upd (upd (upd (upd (upd g 3 (w0)) 7 (.pt b1 0)) 18 (.d (.lst (t18F.map NodeT.enc)))) 19 (.d (.int .i64 t19F))) 20 (.d (.int .i64 t20)), H, n⟩ (PostD C Tryd.f14 [(.int .i64 r)])
theorem tree_Nest_L1_run_ok (t18F : List NodeT) (t19F : Int) (st : tree_Nest_L1_S) (r : Int) (h : tree_Nest_L1_run t18F t19F st = some r) : tree_Nest_L1_m t18F t19F st r := by
 refine tree_Nest_L1_run.partial_correctness t18F t19F (tree_Nest_L1_m t18F t19F) (fun tree_Nest_L1_run' ih_ st r h => ?_) st r h
 cases st with
 | c0 stack t20 =>
  intro w0 g H n hH
  refine Po (Ps (Pr rfl ?_))
  refine Wc h rfl ?_ ?_ <;> intro _ h
  refine Wn (Ns (Ps (Ct (Pk (Nc (Ns (Ps (Pb (Ps ?_)))))))))
  refine Pr rfl ?_
  refine w_idx h rfl elem22 szg115 (fun _ => rfl) rfl rfl (fun t22 h => ?_)
  refine w_load_d (d := (NodeT.enc t22)) szg115 rfl rfl ?_
  refine alloc_z rfl zero115 hH (fun b7713 H' n' hH => ?_)
  refine w_store_b (new := (NodeT.av t22)) rfl szg115 hH (i := 0) rfl rfl rfl rfl rfl (Nat.le_of_ble_eq_true rfl) (fun H' hH => ?_)
  refine Wn (Ns (Ps (Pr rfl (Fb fo115_0 (by decide) rfl 0 rfl (Lb szg3 hH (i := 0) rfl rfl rfl ?_)))))
  refine w_scal (E := eI) h rfl sig65 (sc rfl (sn)) (fun y hy => arith_Arity_ok _ y hy) (fun _ => rfl) (fun t26 h => ?_)
  refine Wa rfl (Wn (Ns (Ps (Pr rfl (Fb fo115_0 (by decide) rfl 0 rfl (Lb szg3 hH (i := 0) rfl rfl rfl (w_build (cs := [.d (.int .i64 t22.Op), .d (.int .i64 0)]) rfl zero119 places119 rfl ?_)))))))
  refine alloc_z rfl zero119 hH (fun b7714 H' n' hH => ?_)
  refine w_store_b (new := [.d (.int .i64 t22.Op), .d (.int .i64 0)]) rfl szg119 hH (i := 0) rfl rfl rfl rfl rfl (Nat.le_of_ble_eq_true rfl) (fun H' hH => ?_)
  refine Wn (Ns (Ps (Pr rfl (Fb fo115_0 (by decide) rfl 0 rfl (Lb szg3 hH (i := 1) rfl rfl rfl ?_)))))
  refine w_scal (E := (fun y => [((A2.enc (Dat.int .i64)) y)])) h rfl sig66 (sc rfl (sn)) (fun y hy => tree_asks_ok _ y hy) (fun _ => rfl) (fun t32 h => ?_)
  refine alloc_z rfl zero120 hH (fun b7715 H' n' hH => ?_)
  refine w_store_b (new := [.d (.int .i64 t32.e0), .d (.int .i64 t32.e1)]) rfl szg120 hH (i := 0) rfl rfl rfl rfl rfl (Nat.le_of_ble_eq_true rfl) (fun H' hH => ?_)
  refine Wn (Ns (Ps (Ps (Pr rfl (w_move_v (w0) rfl rfl (w_move_v (w0) rfl rfl (w_len_own rfl elem117 hH (j := 3) rfl rfl (Wm rfl (Wb rfl ?_)))))))))
  refine w_view h rfl elem117 szg119 hH (j := 3) rfl rfl rfl (fun h => ?_)
  refine w_len_view rfl elem117 hH (j := 3) rfl rfl (Wm rfl (Wn (Ns (Pb ?_))))
  exact jm 3 (jm 5 (jm 6 (jm 7 (jm 8 (jm 18 (jm 19 (jm 20 (jm 38 (jm 39 (jm 40 (ih_ (.c1 _ _ _ _ _ _ _ _ _) _ h w0 b7713 b7714 b7715 _ _ _ (hH.selG 4 [3, 2, 1, 0] (by decide) (by decide) (gc rfl (gc rfl (gc rfl (gc rfl (gt rfl)))))))))))))))))
  refine Wn (Ns (Ps (Cf (Px rfl (Nb (Xs (Nb (Xl (Xb ?_)))))))))
  refine Nb (Ns (Ps (Pr rfl (w_move_v (w0) rfl rfl ?_))))
  refine w_idx_own h rfl elem117 szg119 hH (j := 0) rfl rfl rfl (fun i6716 t86 h hl6716 hv6716 => ?_)
  refine w_faddr_e rfl fo119_1 (by decide) rfl 1 rfl (w_load_e rfl szg3 hH (j := 0) rfl hl6716 rfl hv6716 rfl (Wa rfl (Wn (Ns ?_))))
  cases h; exact Pq rfl rfl
 | c1 stack n_ k d want t20 t38lo t39 t40 =>
  intro w0 b1 b2 b3 g H n hH
  refine Po (Ps (Pr rfl ?_))
  refine Wc h rfl ?_ ?_ <;> intro _ h
  refine Wn (Ns (Ps (Ct (Pk (Nc (Ns (Ps (Pb (Ps ?_)))))))))
  refine Pr rfl (Wm rfl ?_)
  refine w_idx_view h rfl elem117 szg119 hH (j := 0) rfl rfl rfl (fun i6717 t43 h hl6717 hv6717 => ?_)
  refine w_load_e (d := (Tree_deepT.enc t43)) rfl szg119 hH (j := 0) rfl hl6717 rfl hv6717 rfl ?_
  refine alloc_z rfl zero119 hH (fun b7718 H' n' hH => ?_)
  refine Wa rfl ?_
  refine w_store_b (new := (Tree_deepT.av t43)) rfl szg119 hH (i := 0) rfl rfl rfl rfl rfl (Nat.le_of_ble_eq_true rfl) (fun H' hH => ?_)
  refine Wn (Ns (Ps (Pr rfl (Fb fo119_1 (by decide) rfl 1 rfl (Lb szg3 hH (i := 0) rfl rfl rfl (Wa rfl (Wn (Ns (Ps ?_)))))))))
  refine Ps (p_calm rfl (by kernel_rfl) (Fb fo119_0 (by decide) rfl 0 rfl (Lb szg3 hH (i := 0) rfl rfl rfl ?_)))
  refine w_scal (E := eI) h rfl sig67 (sc rfl (sn)) (fun y hy => tree_level_ok _ y hy) (fun _ => rfl) (fun t49 h => ?_)
  refine Wm rfl ?_
  refine w_iaddr_b2 (f := (Dat.int .i64)) (cs := [.d (.int .i64 want.e0), .d (.int .i64 want.e1)]) h rfl arr120 nel120 szg3 rfl rfl rfl (fun t51 o6719 h hx6719 => ?_)
  refine w_load_x rfl szg3 hH (i := 4) rfl rfl hx6719 ?_
  refine Wc h rfl ?_ ?_ <;> intro _ h
  refine Wn (Ns (Ct (Pr rfl (Wm rfl (Wb rfl (Wa rfl (Wn (Nc (Nb ?_)))))))))
  refine Ns ?_
  exact jm 3 (jm 5 (jm 6 (jm 7 (jm 8 (jm 11 (jm 18 (jm 19 (jm 20 (jm 38 (jm 39 (jm 40 (ih_ (.c2 _ _ _ _ _ _ _ _ _ _) _ h w0 b1 b2 b3 _ _ _ (hH.selG 5 [1, 2, 3, 4] (by decide) (by decide) (gc rfl (gc rfl (gc rfl (gc rfl (gt rfl))))))))))))))))))
  refine Wn (Ns (Cf (Pk (Nb (Nb (Ns ?_))))))
  exact jm 3 (jm 5 (jm 6 (jm 7 (jm 8 (jm 11 (jm 18 (jm 19 (jm 20 (jm 38 (jm 39 (jm 40 (ih_ (.c2 _ _ _ _ _ _ _ _ _ _) _ h w0 b1 b2 b3 _ _ _ (hH.selG 5 [1, 2, 3, 4] (by decide) (by decide) (gc rfl (gc rfl (gc rfl (gc rfl (gt rfl))))))))))))))))))
  refine Wn (Ns (Ps (Cf (Px rfl (Nb (Xs (Nb (Xl (Xb ?_)))))))))
  refine Nb (Ns (Ps (Pr rfl (w_move_v (w0) rfl rfl (w_move_v (w0) rfl rfl (w_len_own rfl elem117 hH (j := 0) rfl rfl (Wm rfl (Wb rfl ?_))))))))
  refine w_cut_own h rfl elem117 szg119 hH (j := 0) rfl rfl lh_nh (fun t67 w7720 H' n' h hH => ?_)
  refine w_assign_v (w7720) rfl rfl (Wn (Ns (Ps (Ps (Pr rfl (Fb fo115_0 (by decide) rfl 0 rfl (Lb szg3 hH (i := 1) rfl rfl rfl (Wn (Ns ?_)))))))))
  refine Pb (Ps (Ps (Pr rfl ?_)))
  refine Wc h rfl ?_ ?_ <;> intro _ h
  refine Wa rfl (Wn (Ns (Ct (Pk (Nc (Nb (Ns (Ct ?_))))))))
  exact jm 3 (jm 7 (jm 18 (jm 19 (jm 20 (ih_ (.c3 _ _ _) _ h w7720 b2 _ _ _ (hH.selG 4 [0, 2] (by decide) (by decide) (gc rfl (gc rfl (gt rfl)))))))))
  refine Wa rfl (Wn (Ns (Cf (Ps (Pr rfl ?_)))))
  refine Wc h rfl ?_ ?_ <;> intro _ h
  refine Wa rfl (Wn (Ns (Ct (Pk (Nc (Nb (Nb (Nb (Ns ?_)))))))))
  refine Ct ?_
  exact jm 3 (jm 7 (jm 18 (jm 19 (jm 20 (ih_ (.c3 _ _ _) _ h w7720 b2 _ _ _ (hH.selG 4 [0, 2] (by decide) (by decide) (gc rfl (gc rfl (gt rfl)))))))))
  refine Wa rfl (Wn (Ns (Cf (Ps (Pr rfl ?_)))))
  refine Wc h rfl ?_ ?_ <;> intro _ h
  refine Wa rfl (Wn (Ns (Ct (Pk (Nc (Nb (Nb (Nb (Nb ?_)))))))))
  refine Nb (Ns (Ct ?_))
  exact jm 3 (jm 7 (jm 18 (jm 19 (jm 20 (ih_ (.c3 _ _ _) _ h w7720 b2 _ _ _ (hH.selG 4 [0, 2] (by decide) (by decide) (gc rfl (gc rfl (gt rfl)))))))))
  refine Wa rfl (Wn (Ns (Cf (Ps (Pr rfl ?_)))))
  refine Wc h rfl ?_ ?_ <;> intro _ h
  refine Wa rfl (Wn (Ns (Ct (Pk (Nc (Nb (Nb (Nb (Nb ?_)))))))))
  refine Nb (Nb (Nb (Ns (Ct ?_))))
  exact jm 3 (jm 7 (jm 18 (jm 19 (jm 20 (ih_ (.c3 _ _ _) _ h w7720 b2 _ _ _ (hH.selG 4 [0, 2] (by decide) (by decide) (gc rfl (gc rfl (gt rfl)))))))))
  refine Wa rfl (Wn (Ns (Cf (Pr rfl ?_))))
  refine Wc h rfl ?_ ?_ <;> intro _ h
  refine Wa rfl (Wn (Nb (Nb (Nb (Nb (Nb (Nb (Nb (Nb ?_)))))))))
  refine Ns (Ct ?_)
  exact jm 3 (jm 7 (jm 18 (jm 19 (jm 20 (ih_ (.c3 _ _ _) _ h w7720 b2 _ _ _ (hH.selG 4 [0, 2] (by decide) (by decide) (gc rfl (gc rfl (gt rfl)))))))))
  refine Wa rfl (Wn (Nb (Nb (Nb (Nb (Nb (Nb (Nb (Nb ?_)))))))))
  refine Ns (Cf (Pk (Nb (Nb (Nk (Nb (Ns ?_)))))))
  exact jm 3 (jm 7 (jm 18 (jm 19 (jm 20 (ih_ (.c4 _ _ _) _ h w7720 b2 _ _ _ (hH.selG 4 [0, 2] (by decide) (by decide) (gc rfl (gc rfl (gt rfl)))))))))
 | c2 stack n_ k d want nest t20 t38lo t39 t40 =>
  intro w0 b1 b2 b3 g H n hH
  refine Pr rfl (Fb fo119_1 (by decide) rfl 1 rfl (Lb szg3 hH (i := 2) rfl rfl rfl (Wm rfl (w_max rfl rfl rfl (Fb fo119_1 (by decide) rfl 1 rfl ?_)))))
  refine w_store_bd rfl szg3 hH (i := 2) rfl rfl rfl rfl rfl (Nat.le_of_ble_eq_true rfl) (fun H' hH => ?_)
  refine Wn (Nb (Nb (Nb (Nk (Ns (Pr rfl (Wb rfl (Wm rfl (Wn ?_)))))))))
  refine Nb (Nb (Nb (Nl ?_)))
  exact jm 3 (jm 5 (jm 6 (jm 7 (jm 8 (jm 18 (jm 19 (jm 20 (jm 38 (jm 39 (jm 40 (ih_ (.c1 _ _ _ _ _ _ _ _ _) _ h w0 b1 b2 b3 _ _ _ hH)))))))))))
 | c3 stack d t20 =>
  intro w0 b1 g H n hH
  refine Pr rfl (Fb fo119_1 (by decide) rfl 1 rfl (Lb szg3 hH (i := 1) rfl rfl rfl (Wb rfl (Fb fo119_1 (by decide) rfl 1 rfl ?_))))
  refine w_store_bd rfl szg3 hH (i := 1) rfl rfl rfl rfl rfl (Nat.le_of_ble_eq_true rfl) (fun H' hH => ?_)
  refine Wn (Nc (Nb (Nk (Nb (Ns ?_)))))
  exact jm 3 (jm 7 (jm 18 (jm 19 (jm 20 (ih_ (.c4 _ _ _) _ h w0 b1 _ _ _ hH)))))
 | c4 stack d t20 =>
  intro w0 b1 g H n hH
  refine Pr rfl (w_move_v (w0) rfl rfl (w_load_b (v := .agg (Tree_deepT.av d)) rfl szg119 hH (i := 1) rfl rfl rfl ?_))
  refine w_bslice1 (enc := Tree_deepT.enc) (e := d) (.agg (Tree_deepT.av d)) rfl elem117 szg119 zero119 (by decide) zd119 (fun _ => rfl) (fun _ => rfl) rfl (FS.agg (FS.d (FS.d (FS.nil hH))) (fun _ hH => FS.nil hH)) (fun w7721 H' n' hH => ?_)
  refine w_append (enc := Tree_deepT.enc) h rfl elem117 szg119 bytes119 (by decide) (fun _ => rfl) hH (j := 1) rfl rfl (shows_own hH (j := 0) rfl) (fun t83 w7722 H' n' h hH => ?_)
  refine w_assign_v (w7722) rfl rfl (Wn (Nb (Nb (Nb (Nb (Nb (Nb (Nb (Nk ?_)))))))))
  refine Ns (Pr rfl (Wb rfl (Wm rfl (Wn (Nb (Nb (Nb (Nl ?_))))))))
  exact jm 3 (jm 18 (jm 19 (jm 20 (ih_ (.c0 _ _) _ h w7722 _ _ _ (hH.selG 3 [0] (by decide) (by decide) (gc rfl (gt rfl)))))))
theorem tree_Nest_L1_ok (stack : List Tree_deepT) (t18F : List NodeT) (t19F : Int) (t20 : Int) (r : Int) (h : tree_Nest_L1 stack t18F t19F t20 = some r) : tree_Nest_L1_m t18F t19F (.c0 stack t20) r := tree_Nest_L1_run_ok t18F t19F (.c0 stack t20) r h
theorem tree_Nest_ok (e : List NodeT) (r : Int) (h : tree_Nest e = some r) : callD C 14 [(.lst (e.map NodeT.enc))] = some [(.int .i64 r)] := by
 refine callD_at (ext0 _ _ rfl) fn14 rfl (jmp 0 (.d (.lst (e.map NodeT.enc))) rfl (Ps (Pr rfl (Wa rfl (Wn (Ns (Ps (Ps (Pr rfl ?_)))))))))
 refine Wm rfl (Wm rfl (w_len_d elem22 rfl (Wb rfl ?_)))
 refine w_scal (E := eI) h rfl sig13 (sc rfl (sc rfl (sn))) (fun y hy => tree_Span_ok _ _ y hy) (fun _ => rfl) (fun t16 h => ?_)
 refine Wd h rfl ?_ ?_ <;> intro _ h
 refine Wn (Ns (Cf (Pk (Nb (Nb (Ns (Ps (Pr rfl (w_assign_v (.nil) rfl rfl ?_)))))))))
 refine Wn (Ns (Ps (Ps (Pr rfl (Wm rfl (w_len_d elem22 rfl (Wm rfl (Wn (Ns ?_)))))))))
 refine Pb ?_
 exact jm 3 (jm 18 (jm 19 (jm 20 (tree_Nest_L1_ok _ _ _ _ _ h .nil _ _ _ ((HP.nil _ _).addNil (z := ⟨119, 2⟩))))))
 refine Wn (Ns (Ct (Ps (Pr rfl (Wa rfl (Wn (Ns ?_)))))))
 cases h; exact Pq rfl rfl
theorem c_place_ok (v : Int) (n_ : Int) (r : Bool) (h : c_place v n_ = some r) : callD C 178 [(.int .i32 v), (.int .i64 n_)] = some [(.bool r)] := by
 refine callD_at (ext0 _ _ rfl) fn178 rfl (jmp 0 (.d (.int .i32 v)) rfl (jmp 1 (.d (.int .i64 n_)) rfl (Ps (Pr rfl (Wa rfl (Wn (Ns (Ps (Pr rfl ?_)))))))))
 refine Wm rfl ?_
 refine Wc h rfl ?_ ?_ <;> intro _ h
 refine Wm rfl (Wm rfl (w_conv rfl (c_int ty21 ty2) (Wm rfl (Wb rfl (Wt rfl rfl (Wa rfl (Wn (Ns ?_))))))))
 cases h; exact Pq rfl rfl
 refine Wm rfl (Wk (Wk (Wk (Wk (Wf rfl rfl (Wa rfl (Wn (Ns ?_))))))))
 cases h; exact Pq rfl rfl
theorem c_value_k1_ok (t : TypedT) (n_ : NodeT) (r : Bool × TypedT) (h : c_value_k1 t n_ = some r) (b1 be0 L g H n) (hH : HP H n (.box be0 (TypedT.av t) :: .box b1 (NodeT.av n_) :: L)) : PAt C (bodyOf Tryd.f121) (.a (.b (.b (.b (.b (.b (.a (.b (.a (.b .o)))))))))) ⟨upd (upd g 0 (.pt be0 0)) 3 (.pt b1 0), H, n⟩ (PostR C Tryd.f121 (fun rs H' n' => rs = [.d (.bool r.1)] ∧ HP H' n' (.box be0 (TypedT.av r.2) :: L))) := by
 refine Ps (p_calm rfl (by kernel_rfl) (Fb fo115_1 (by decide) rfl 1 rfl (Lb szg21 hH (i := 1) rfl rfl rfl (w_move_v (.pt be0 0) rfl rfl (Wq rfl (Fb fo95_1 (by decide) rfl 1 rfl (Fb fo89_0 (by decide) rfl 1 rfl (Lb szg86 hH (i := 0) rfl rfl rfl (w_len_d elem86 rfl ?_)))))))))
 refine w_scal (E := eB) h rfl sig178 (sc rfl (sc rfl (sn))) (fun y hy => c_place_ok _ _ y hy) (fun _ => rfl) (fun t25 h => ?_)
 refine Wa rfl (Wn (Ns ?_))
 refine Pt (Cr ?_)
 cases h
 exact prF (.inl rfl) (ra_tmp (.d (.bool t25)) rfl (ra_nil)) ⟨rfl, (hH.selG 2 [0] (by decide) (by decide) (gc rfl (gt rfl)))⟩
theorem c_value_ok (t : TypedT) (n_ : NodeT) (r : Bool × TypedT) (h : c_value t n_ = some r) (be0 : Nat) (H : Hs) (n : Nat) (L : List Jv.Item) (hH : HP H n (.box be0 (TypedT.av t) :: L)) : Raw C 121 [.pt be0 0, .agg (NodeT.av n_)] H n (fun rs H' n' => rs = [.d (.bool r.1)] ∧ HP H' n' (.box be0 (TypedT.av r.2) :: L)) := by
 refine raw_at fn121 rfl (jmp 0 (.pt be0 0) rfl (jmp 1 (.agg (NodeT.av n_)) rfl (Ps (Pr rfl ?_))))
 refine w_box (cs := (NodeT.av n_)) rfl szg115 rfl rfl rfl hH (fun b7724 H' n' hH => ?_)
 refine Wa rfl (Wn (Ns (Ps (Ps (Pr rfl (Fb fo115_0 (by decide) rfl 0 rfl (Lb szg3 hH (i := 0) rfl rfl rfl (Wn (Ns ?_)))))))))
 refine Pb (Ps (Pr rfl ?_))
 refine Wc h rfl ?_ ?_ <;> intro _ h
 refine Wa rfl (Wn (Ns (Ct (Ps (Pr rfl (Wa rfl (Wn (Ns ?_))))))))
 refine Pt (Cr ?_)
 cases h
 exact prF (.inl rfl) (ra_tmp (.d (.bool true)) rfl (ra_nil)) ⟨rfl, (hH.selG 2 [1] (by decide) (by decide) (gc rfl (gt rfl)))⟩
 refine Wa rfl (Wn (Ns (Cf (Ps (Pr rfl ?_)))))
 refine Wc h rfl ?_ ?_ <;> intro _ h
 refine Wa rfl (Wn (Ns (Ct (Ps (Pr rfl (Fb fo115_1 (by decide) rfl 1 rfl (Lb szg21 hH (i := 0) rfl rfl rfl ?_)))))))
 refine w_scal (E := eB) h rfl sig178 (sc rfl (sc rfl (sn))) (fun y hy => c_place_ok _ _ y hy) (fun _ => rfl) (fun t13 h => ?_)
 refine Wa rfl (Wn (Ns ?_))
 refine Pt (Cr ?_)
 cases h
 exact prF (.inl rfl) (ra_tmp (.d (.bool t13)) rfl (ra_nil)) ⟨rfl, (hH.selG 2 [1] (by decide) (by decide) (gc rfl (gt rfl)))⟩
 refine Wa rfl (Wn (Ns (Cf (Ps (Ps (Pr rfl ?_))))))
 refine Wc h rfl ?_ ?_ <;> intro _ h
 refine Wa rfl (Wn (Ns (Ct (Pk (Nc (Nb (Ns (Ct ?_))))))))
 exact jm 0 (jm 3 (c_value_k1_ok _ _ _ h b7724 _ _ _ _ _ (hH.selG 2 [1, 0] (by decide) (by decide) (gc rfl (gc rfl (gt rfl))))))
 refine Wa rfl (Wn (Ns (Cf (Pr rfl ?_))))
 refine Wc h rfl ?_ ?_ <;> intro _ h
 refine Wa rfl (Wn (Nb (Nb (Ns (Ct ?_)))))
 exact jm 0 (jm 3 (c_value_k1_ok _ _ _ h b7724 _ _ _ _ _ (hH.selG 2 [1, 0] (by decide) (by decide) (gc rfl (gc rfl (gt rfl))))))
 refine Wa rfl (Wn (Nb (Nb (Ns (Cf (Ps (Pr rfl ?_)))))))
 refine Wc h rfl ?_ ?_ <;> intro _ h
 refine Wa rfl (Wn (Ns (Ct (Ps (p_calm rfl (by kernel_rfl) (Fb fo115_1 (by decide) rfl 1 rfl (Lb szg21 hH (i := 0) rfl rfl rfl (w_move_v (.pt be0 0) rfl rfl (Wq rfl ?_)))))))))
 refine Fb fo95_5 (by decide) rfl 6 rfl (Lb szg92 hH (i := 1) rfl rfl rfl (w_len_d elem92 rfl ?_))
 refine w_scal (E := eB) h rfl sig178 (sc rfl (sc rfl (sn))) (fun y hy => c_place_ok _ _ y hy) (fun _ => rfl) (fun t35 h => ?_)
 refine Wa rfl (Wn (Ns ?_))
 refine Pt (Cr ?_)
 cases h
 exact prF (.inl rfl) (ra_tmp (.d (.bool t35)) rfl (ra_nil)) ⟨rfl, (hH.selG 2 [1] (by decide) (by decide) (gc rfl (gt rfl)))⟩
 refine Wa rfl (Wn (Ns (Cf (Ps (Pr rfl ?_)))))
 refine Wc h rfl ?_ ?_ <;> intro _ h
 refine Wa rfl (Wn (Ns (Ct (Ps (p_calm rfl (by kernel_rfl) (Fb fo115_1 (by decide) rfl 1 rfl (Lb szg21 hH (i := 0) rfl rfl rfl (w_move_v (.pt be0 0) rfl rfl (Wq rfl ?_)))))))))
 refine Fb fo95_3 (by decide) rfl 4 rfl (Lb szg91 hH (i := 1) rfl rfl rfl (w_len_d elem91 rfl ?_))
 refine w_scal (E := eB) h rfl sig178 (sc rfl (sc rfl (sn))) (fun y hy => c_place_ok _ _ y hy) (fun _ => rfl) (fun t45 h => ?_)
 refine Wa rfl (Wn (Ns ?_))
 refine Pt (Cr ?_)
 cases h
 exact prF (.inl rfl) (ra_tmp (.d (.bool t45)) rfl (ra_nil)) ⟨rfl, (hH.selG 2 [1] (by decide) (by decide) (gc rfl (gt rfl)))⟩
 refine Wa rfl (Wn (Ns (Cf (Ps (Pr rfl ?_)))))
 refine Wc h rfl ?_ ?_ <;> intro _ h
 refine Wa rfl (Wn (Ns (Ct (Ps (p_calm rfl (by kernel_rfl) (Fb fo115_1 (by decide) rfl 1 rfl (Lb szg21 hH (i := 0) rfl rfl rfl (w_move_v (.pt be0 0) rfl rfl (Wq rfl ?_)))))))))
 refine Fb fo95_4 (by decide) rfl 5 rfl (Lb szg91 hH (i := 1) rfl rfl rfl (w_len_d elem91 rfl ?_))
 refine w_scal (E := eB) h rfl sig178 (sc rfl (sc rfl (sn))) (fun y hy => c_place_ok _ _ y hy) (fun _ => rfl) (fun t55 h => ?_)
 refine Wa rfl (Wn (Ns ?_))
 refine Pt (Cr ?_)
 cases h
 exact prF (.inl rfl) (ra_tmp (.d (.bool t55)) rfl (ra_nil)) ⟨rfl, (hH.selG 2 [1] (by decide) (by decide) (gc rfl (gt rfl)))⟩
 refine Wa rfl (Wn (Ns (Cf (Ps (Pr rfl ?_)))))
 refine Wc h rfl ?_ ?_ <;> intro _ h
 refine Wa rfl (Wn (Ns (Ct (Ps (p_calm rfl (by kernel_rfl) (Fb fo115_1 (by decide) rfl 1 rfl (Lb szg21 hH (i := 0) rfl rfl rfl (w_move_v (.pt be0 0) rfl rfl (Wq rfl ?_)))))))))
 refine Fb fo95_2 (by decide) rfl 3 rfl (Lb szg90 hH (i := 1) rfl rfl rfl (w_len_d elem90 rfl ?_))
 refine w_scal (E := eB) h rfl sig178 (sc rfl (sc rfl (sn))) (fun y hy => c_place_ok _ _ y hy) (fun _ => rfl) (fun t65 h => ?_)
 refine Wa rfl (Wn (Ns ?_))
 refine Pt (Cr ?_)
 cases h
 exact prF (.inl rfl) (ra_tmp (.d (.bool t65)) rfl (ra_nil)) ⟨rfl, (hH.selG 2 [1] (by decide) (by decide) (gc rfl (gt rfl)))⟩
 refine Wa rfl (Wn (Ns (Cf (Ps (Pr rfl ?_)))))
 refine Wc h rfl ?_ ?_ <;> intro _ h
 refine Wa rfl (Wn (Ns (Ct (Ps (Pr rfl (Wa rfl (Wn (Ns ?_))))))))
 refine Pt (Cr ?_)
 cases h
 exact prF (.inl rfl) (ra_tmp (.d (.bool false)) rfl (ra_nil)) ⟨rfl, (hH.selG 2 [1] (by decide) (by decide) (gc rfl (gt rfl)))⟩
 refine Wa rfl (Wn (Ns (Cf (Pk (Nb (Nb (Nb (Nb (Nb ?_)))))))))
 refine Nb (Nb (Nb (Nb (Nb (Nb (Nb (Nb (Nb (Nb ?_)))))))))
 refine Nb (Nk (Nb (Ns (Ps (Pr rfl (Fb fo115_1 (by decide) rfl 1 rfl (Lb szg21 hH (i := 0) rfl rfl rfl (Wb rfl (Wa rfl ?_)))))))))
 refine Wn (Ns ?_)
 refine Pt (Cr ?_)
 cases h
 exact prF (.inl rfl) (ra_tmp (.d (.bool (decide (n_.Val = 0)))) rfl (ra_nil)) ⟨rfl, (hH.selG 2 [1] (by decide) (by decide) (gc rfl (gt rfl)))⟩
theorem c_operated_k1_ok (a : Int) (r : Int) (h : c_operated_k1 a = some r) (g : Nat → AV) (H : Hs) (n : Nat) : PAt C (bodyOf Tryd.f179) (.a (.b (.a (.b (.a (.b .o)))))) ⟨upd g 1 (.d (.int .i64 a)), H, n⟩ (PostD C Tryd.f179 [(.int .i64 r)]) := by
 refine Ps (Pr rfl (Wm rfl ?_))
 refine Wc h rfl ?_ ?_ <;> intro _ h
 refine Wn (Ns (Ct (Ps (Pr rfl (Wa rfl (Wn (Ns ?_)))))))
 cases h; exact Pq rfl rfl
 refine Wn (Ns (Cf (Pk (Nb (Nb (Nc (Nb (Nk (Nb ?_)))))))))
 refine Ns (Ps (Pr rfl (Wa rfl (Wn (Ns ?_)))))
 cases h; exact Pq rfl rfl
theorem c_operated_k2_ok (a : Int) (b : Int) (r : Int) (h : c_operated_k2 a b = some r) (g : Nat → AV) (H : Hs) (n : Nat) : PAt C (bodyOf Tryd.f179) (.a (.b (.b (.b (.b (.b (.a (.b (.a (.b .o)))))))))) ⟨upd (upd g 1 (.d (.int .i64 a))) 2 (.d (.int .i64 b)), H, n⟩ (PostD C Tryd.f179 [(.int .i64 r)]) := by
 refine Ps (Pr rfl (Wm rfl (Wm rfl ?_)))
 refine Wc h rfl ?_ ?_ <;> intro _ h
 refine Wn (Ns (Ct (Ps (Pr rfl (Wa rfl (Wn (Ns ?_)))))))
 cases h; exact Pq rfl rfl
 refine Wn (Ns (Cf (Pk (Nb (Nb (Nc (Nb (Nb (Nb ?_)))))))))
 refine Nb (Nb (Nk (Nb (Ns (Ps (Pr rfl (Wa rfl (Wn (Ns ?_)))))))))
 cases h; exact Pq rfl rfl
theorem c_operated_k3_ok (a : Int) (b : Int) (r : Int) (h : c_operated_k3 a b = some r) (g : Nat → AV) (H : Hs) (n : Nat) : PAt C (bodyOf Tryd.f179) (.a (.b (.b (.b (.b (.b (.b (.b (.a (.b (.a (.b .o)))))))))))) ⟨upd (upd g 1 (.d (.int .i64 a))) 2 (.d (.int .i64 b)), H, n⟩ (PostD C Tryd.f179 [(.int .i64 r)]) := by
 refine Ps (Pr rfl (Wm rfl ?_))
 refine Wc h rfl ?_ ?_ <;> intro _ h
 refine Wm rfl (Wm rfl ?_)
 refine Wc h rfl ?_ ?_ <;> intro _ h
 refine Wt rfl rfl (Wn (Ns (Ct (Ps (Pr rfl (Wa rfl (Wn (Ns ?_))))))))
 cases h; exact Pq rfl rfl
 refine Wt rfl rfl (Wn (Ns (Cf (Pk (Nb (Nb (Nc (Nb (Nb ?_)))))))))
 refine Nb (Nb (Nb (Nb (Nb (Nk (Nb (Ns (Ps (Pr rfl ?_)))))))))
 refine Wa rfl (Wn (Ns ?_))
 cases h; exact Pq rfl rfl
 refine Wm rfl (Wk (Wk (Wf rfl rfl (Wn (Ns (Cf (Pk (Nb (Nb ?_)))))))))
 refine Nc (Nb (Nb (Nb (Nb (Nb (Nb (Nb (Nk (Nb ?_)))))))))
 refine Ns (Ps (Pr rfl (Wa rfl (Wn (Ns ?_)))))
 cases h; exact Pq rfl rfl
theorem c_operated_k4_ok (a : Int) (b : Int) (r : Int) (h : c_operated_k4 a b = some r) (g : Nat → AV) (H : Hs) (n : Nat) : PAt C (bodyOf Tryd.f179) (.a (.b (.b (.b (.b (.b (.b (.b (.b (.b (.a (.b (.a (.b .o)))))))))))))) ⟨upd (upd g 1 (.d (.int .i64 a))) 2 (.d (.int .i64 b)), H, n⟩ (PostD C Tryd.f179 [(.int .i64 r)]) := by
 refine Ps (Pr rfl (Wm rfl ?_))
 refine Wc h rfl ?_ ?_ <;> intro _ h
 refine Wm rfl (Wm rfl ?_)
 refine Wc h rfl ?_ ?_ <;> intro _ h
 refine Wt rfl rfl (Wn (Ns (Ct (Ps (Pr rfl (Wa rfl (Wn (Ns ?_))))))))
 cases h; exact Pq rfl rfl
 refine Wt rfl rfl (Wn (Ns (Cf (Pk (Nb (Nb (Nc (Nb (Nb ?_)))))))))
 refine Nb (Nb (Nb (Nb (Nb (Nb (Nb (Nk (Nb (Ns ?_)))))))))
 refine Ps (Pr rfl (Wa rfl (Wn (Ns ?_))))
 cases h; exact Pq rfl rfl
 refine Wm rfl (Wk (Wk (Wf rfl rfl (Wn (Ns (Cf (Pk (Nb (Nb ?_)))))))))
 refine Nc (Nb (Nb (Nb (Nb (Nb (Nb (Nb (Nb (Nb ?_)))))))))
 refine Nk (Nb (Ns (Ps (Pr rfl (Wa rfl (Wn (Ns ?_)))))))
 cases h; exact Pq rfl rfl
end Go.Proofs.YtdcpfmjnkcodiaaDoor.We
namespace Go.Proofs.YtdcpfmjnkcodiaaDoor.We
open Go Go.Jv
set_option maxHeartbeats 4000000
open Go.Proofs
set_option maxHeartbeats 4000000
theorem c_operated_ok (op : Int) (a : Int) (b : Int) (r : Int) (h : c_operated op a b = some r) : callD C 179 [(.int .i64 op), (.int .i64 a), (.int .i64 b)] = some [(.int .i64 r)] := by
 refine callD_at (ext0 _ _ rfl) fn179 rfl (jmp 0 (.d (.int .i64 op)) rfl (jmp 1 (.d (.int .i64 a)) rfl (jmp 2 (.d (.int .i64 b)) rfl (Ps (Pr rfl (Wa rfl (Wn (Ns (Ps ?_)))))))))
 refine Ps (Pr rfl (Wm rfl (Wn (Ns (Pb (Ps (Ps (Pr rfl ?_))))))))
 refine Wc h rfl ?_ ?_ <;> intro _ h
 refine Wa rfl (Wn (Ns (Ct (Pk (Nc (Nb (Ns (Ct ?_))))))))
 exact jm 1 (c_operated_k1_ok _ _ h _ _ _)
 refine Wa rfl (Wn (Ns (Cf (Pr rfl ?_))))
 refine Wc h rfl ?_ ?_ <;> intro _ h
 refine Wa rfl (Wn (Nb (Nb (Ns (Ct ?_)))))
 exact jm 1 (c_operated_k1_ok _ _ h _ _ _)
 refine Wa rfl (Wn (Nb (Nb (Ns (Cf (Ps (Pr rfl ?_)))))))
 refine Wc h rfl ?_ ?_ <;> intro _ h
 refine Wa rfl (Wn (Ns (Ct (Ps (Pr rfl (Wm rfl ?_))))))
 refine Wc h rfl ?_ ?_ <;> intro _ h
 refine Wn (Ns (Ct (Ps (Pr rfl (Wa rfl (Wn (Ns ?_)))))))
 cases h; exact Pq rfl rfl
 refine Wn (Ns (Cf (Pk (Nb (Nb (Nc (Nb (Nb (Nb ?_)))))))))
 refine Nk (Nb (Ns (Ps (Pr rfl (Wa rfl (Wn (Ns ?_)))))))
 cases h; exact Pq rfl rfl
 refine Wa rfl (Wn (Ns (Cf (Ps (Ps (Pr rfl ?_))))))
 refine Wc h rfl ?_ ?_ <;> intro _ h
 refine Wa rfl (Wn (Ns (Ct (Pk (Nc (Nb (Ns (Ct ?_))))))))
 exact jm 1 (jm 2 (c_operated_k2_ok _ _ _ h _ _ _))
 refine Wa rfl (Wn (Ns (Cf (Pr rfl ?_))))
 refine Wc h rfl ?_ ?_ <;> intro _ h
 refine Wa rfl (Wn (Nb (Nb (Ns (Ct ?_)))))
 exact jm 1 (jm 2 (c_operated_k2_ok _ _ _ h _ _ _))
 refine Wa rfl (Wn (Nb (Nb (Ns (Cf (Ps (Ps (Pr rfl ?_))))))))
 refine Wc h rfl ?_ ?_ <;> intro _ h
 refine Wa rfl (Wn (Ns (Ct (Pk (Nc (Nb (Ns (Ct ?_))))))))
 exact jm 1 (jm 2 (c_operated_k3_ok _ _ _ h _ _ _))
 refine Wa rfl (Wn (Ns (Cf (Ps (Pr rfl ?_)))))
 refine Wc h rfl ?_ ?_ <;> intro _ h
 refine Wa rfl (Wn (Ns (Ct (Pk (Nc (Nb (Nb (Nb (Ns ?_)))))))))
 refine Ct ?_
 exact jm 1 (jm 2 (c_operated_k3_ok _ _ _ h _ _ _))
 refine Wa rfl (Wn (Ns (Cf (Ps (Pr rfl ?_)))))
 refine Wc h rfl ?_ ?_ <;> intro _ h
 refine Wa rfl (Wn (Ns (Ct (Pk (Nc (Nb (Nb (Nb (Nb ?_)))))))))
 refine Nb (Ns (Ct ?_))
 exact jm 1 (jm 2 (c_operated_k3_ok _ _ _ h _ _ _))
 refine Wa rfl (Wn (Ns (Cf (Pr rfl ?_))))
 refine Wc h rfl ?_ ?_ <;> intro _ h
 refine Wa rfl (Wn (Nb (Nb (Nb (Nb (Nb (Nb (Ns (Ct ?_)))))))))
 exact jm 1 (jm 2 (c_operated_k3_ok _ _ _ h _ _ _))
 refine Wa rfl (Wn (Nb (Nb (Nb (Nb (Nb (Nb (Ns (Cf ?_)))))))))
 refine Ps (Ps (Pr rfl ?_))
 refine Wc h rfl ?_ ?_ <;> intro _ h
 refine Wa rfl (Wn (Ns (Ct (Pk (Nc (Nb (Ns (Ct ?_))))))))
 exact jm 1 (jm 2 (c_operated_k4_ok _ _ _ h _ _ _))
 refine Wa rfl (Wn (Ns (Cf (Pr rfl ?_))))
 refine Wc h rfl ?_ ?_ <;> intro _ h
 refine Wa rfl (Wn (Nb (Nb (Ns (Ct ?_)))))
 exact jm 1 (jm 2 (c_operated_k4_ok _ _ _ h _ _ _))
 refine Wa rfl (Wn (Nb (Nb (Ns (Cf (Ps (Pr rfl (Wm rfl ?_))))))))
 refine Wc h rfl ?_ ?_ <;> intro _ h
 refine Wm rfl (Wm rfl ?_)
 refine Wc h rfl ?_ ?_ <;> intro _ h
 refine Wt rfl rfl (Wn (Ns (Ct (Ps (Pr rfl (Wa rfl (Wn (Ns ?_))))))))
 cases h; exact Pq rfl rfl
 refine Wt rfl rfl (Wn (Ns (Cf (Pk (Nb (Nb (Nb (Nb (Nb ?_)))))))))
 refine Nb (Nb (Nb (Nb (Nb (Nb (Nb (Nk (Nb (Ns ?_)))))))))
 refine Ps (Pr rfl (Wa rfl (Wn (Ns ?_))))
 cases h; exact Pq rfl rfl
 refine Wm rfl (Wk (Wk (Wf rfl rfl (Wn (Ns (Cf (Pk (Nb (Nb ?_)))))))))
 refine Nb (Nb (Nb (Nb (Nb (Nb (Nb (Nb (Nb (Nb ?_)))))))))
 refine Nk (Nb (Ns (Ps (Pr rfl (Wa rfl (Wn (Ns ?_)))))))
 cases h; exact Pq rfl rfl
theorem c_pushed_k1_ok (stack : List Int) (op : Int) (a : Int) (b : Int) (n_ : Int) (r : (List Int) × Bool) (h : c_pushed_k1 stack op a b n_ = some r) (w0 L g H n) (hH : HP H n (o3_1 w0 stack :: L)) : PAt C (bodyOf Tryd.f122) (.b (.b (.b .o))) ⟨upd (upd (upd (upd (upd g 0 (w0)) 1 (.d (.int .i64 op))) 6 (.d (.int .i64 a))) 7 (.d (.int .i64 b))) 8 (.d (.int .i64 n_)), H, n⟩ (PostR C Tryd.f122 (fun rs H' n' => ∃ (w'0 : AV), rs = [w'0, .d (.bool r.2)] ∧ HP H' n' (o3_1 w'0 r.1 :: L))) := by
 refine Ps (Pr rfl (Wm rfl (Wm rfl (Wm rfl ?_))))
 refine w_scal (E := eI) h rfl sig179 (sc rfl (sc rfl (sc rfl (sn)))) (fun y hy => c_operated_ok _ _ _ y hy) (fun _ => rfl) (fun t36 h => ?_)
 refine Wa rfl (Wn (Ns (Ps (Pr rfl (w_move_v (w0) rfl rfl (Wm rfl ?_))))))
 refine w_cut_own h rfl elem122 szg3 hH (j := 0) rfl rfl lh_nh (fun t39 w7734 H' n' h hH => ?_)
 refine Wm rfl ?_
 refine w_bslice (enc := (Dat.int .i64)) (xs := [t36]) [.d (.int .i64 t36)] rfl elem122 szg3 zero3 ⟨by decide, Nat.le_of_ble_eq_true rfl⟩ zd3 (fun _ => rfl) (fun _ => rfl) rfl rfl hH (fun w7735 H' n' hH => ?_)
 refine w_append (enc := (Dat.int .i64)) h rfl elem122 szg3 bytes3 (by decide) (fun _ => rfl) hH (j := 1) rfl rfl (shows_own hH (j := 0) rfl) (fun t42 w7736 H' n' h hH => ?_)
 refine Wm rfl (Wb rfl (w_assign_v (w7736) rfl rfl (Wa rfl (Wn (Ns ?_)))))
 refine Pt (Cr ?_)
 cases h
 exact prF (.inl rfl) (ra_tmp (w7736) rfl (ra_tmp (.d (.bool (!decide (t36 = 0)))) rfl (ra_nil))) ⟨w7736, rfl, (hH.selG 2 [0] (by decide) (by decide) (gc rfl (gt rfl)))⟩
theorem c_pushed_ok (stack : List Int) (op : Int) (r : (List Int) × Bool) (h : c_pushed stack op = some r) (we0 : AV) (H : Hs) (n : Nat) (L : List Jv.Item) (hH : HP H n (o3_1 we0 stack :: L)) : Raw C 122 [we0, .d (.int .i64 op)] H n (fun rs H' n' => ∃ (w'0 : AV), rs = [w'0, .d (.bool r.2)] ∧ HP H' n' (o3_1 w'0 r.1 :: L)) := by
 refine raw_at fn122 rfl (jmp 0 (we0) rfl (jmp 1 (.d (.int .i64 op)) rfl (Ps (Pr rfl (w_assign_v (.nil) rfl rfl (Wa rfl (Wn (Ns (Ps ?_)))))))))
 refine Pr rfl (w_move_v (we0) rfl rfl (w_len_own rfl elem122 hH (j := 0) rfl rfl (Wa rfl (Wa rfl (Wa rfl (Wn (Ns (Ps (Ps ?_)))))))))
 refine Pr rfl (Wm rfl ?_)
 refine Wc h rfl ?_ ?_ <;> intro _ h
 refine Wn (Ns (Ct (Pr rfl (w_move_v (we0) rfl rfl (Wm rfl (Wb rfl ?_))))))
 refine w_idx_own h rfl elem122 szg3 hH (j := 0) rfl rfl rfl (fun i6731 t17 h hl6731 hv6731 => ?_)
 refine w_load_e rfl szg3 hH (j := 0) rfl hl6731 rfl hv6731 rfl (Wm rfl (Wb rfl (Wa rfl (Wa rfl (Wn (Nc (Nb (Ns ?_))))))))
 exact jm 0 (jm 1 (jm 6 (jm 7 (jm 8 (c_pushed_k1_ok _ _ _ _ _ _ h we0 _ _ _ _ hH)))))
 refine Wn (Ns (Cf (p_calm rfl (by kernel_rfl) (w_move_v (we0) rfl rfl (Wm rfl (Wb rfl ?_))))))
 refine w_idx_own h rfl elem122 szg3 hH (j := 0) rfl rfl rfl (fun i6732 t24 h hl6732 hv6732 => ?_)
 refine w_load_e rfl szg3 hH (j := 0) rfl hl6732 rfl hv6732 rfl (w_move_v (we0) rfl rfl (Wm rfl (Wb rfl ?_)))
 refine w_idx_own h rfl elem122 szg3 hH (j := 0) rfl rfl rfl (fun i6733 t29 h hl6733 hv6733 => ?_)
 refine w_load_e rfl szg3 hH (j := 0) rfl hl6733 rfl hv6733 rfl (Wm rfl (Wb rfl (Wa rfl (Wa rfl (Wa rfl (Wn (Nb (Nb (Ns ?_)))))))))
 exact jm 0 (jm 1 (jm 6 (jm 7 (jm 8 (c_pushed_k1_ok _ _ _ _ _ _ h we0 _ _ _ _ hH)))))
def c_SoundExpr_L1_m (typF : Int) (t33F : List NodeT) (t34F : Int) : c_SoundExpr_L1_S → Bool → Prop := fun st r => match st with
  | .c0 t stack t35 => ∀ (b0 : Nat) (w1 g H n) (hH : HP H n [.box b0 (TypedT.av t), o3_1 w1 stack]), PAt C (bodyOf Tryd.f51) (.a (.b (.a (.b (.b (.b .o)))))) ⟨upd (upd (upd (upd (upd (upd g 2 (.d (.int .i64 typF))) 3 (.pt b0 0)) 7 (w1)) 33 (.d (.lst (t33F.map NodeT.enc)))) 34 (.d (.int .i64 t34F))) 35 (.d (.int .i64 t35)), H, n⟩ (PostD C Tryd.f51 [(.bool r)])
  | .c1 t stack t35 => ∀ (b0 : Nat) (w1 g H n) (hH : HP H n [.box b0 (TypedT.av t), o3_1 w1 stack]), PAt C (bodyOf Tryd.f51) (.a (.b (.a (.b (.b (.b (.a (.a (.b (.b (.a (.a (.b (.a (.b (.b (.b .o))))))))))))))))) ⟨upd (upd (upd (upd (upd (upd g 2 (.d (.int .i64 typF))) 3 (.pt b0 0)) 7 (w1)) 33 (.d (.lst (t33F.map NodeT.enc)))) 34 (.d (.int .i64 t34F))) 35 (.d (.int .i64 t35)), H, n⟩ (PostD C Tryd.f51 [(.bool r)])
  | .c2 t stack t35 => ∀ (b0 : Nat) (w1 g H n) (hH : HP H n [.box b0 (TypedT.av t), o3_1 w1 stack]), PAt C (bodyOf Tryd.f51) (.a (.b (.b (.b (.a (.b (.b (.b (.a (.a (.b (.b (.a (.a (.b (.a (.b (.b (.b .o))))))))))))))))))) ⟨upd (upd (upd (upd (upd (upd g 2 (.d (.int .i64 typF))) 3 (.pt b0 0)) 7 (w1)) 33 (.d (.lst (t33F.map NodeT.enc)))) 34 (.d (.int .i64 t34F))) 35 (.d (.int .i64 t35)), H, n⟩ (PostD C Tryd.f51 [(.bool r)])
  | .c3 t stack ok t35 => ∀ (b0 : Nat) (w1 g H n) (hH : HP H n [.box b0 (TypedT.av t), o3_1 w1 stack]), PAt C (bodyOf Tryd.f51) (.b (.b (.b (.b (.b (.b (.a (.b (.b (.b (.a (.a (.b (.b (.a (.a (.b (.a (.b (.b (.b .o))))))))))))))))))))) ⟨upd (upd (upd (upd (upd (upd (upd g 2 (.d (.int .i64 typF))) 3 (.pt b0 0)) 7 (w1)) 10 (.d (.bool ok))) 33 (.d (.lst (t33F.map NodeT.enc)))) 34 (.d (.int .i64 t34F))) 35 (.d (.int .i64 t35)), H, n⟩ (PostD C Tryd.f51 [(.bool r)])
  | .c4 t stack t35 => ∀ (b0 : Nat) (w1 g H n) (hH : HP H n [.box b0 (TypedT.av t), o3_1 w1 stack]), PAt C (bodyOf Tryd.f51) (.b (.b (.b (.a (.a (.b (.a (.b (.b (.b .o)))))))))) ⟨upd (upd (upd (upd (upd (upd g 2 (.d (.int .i64 typF))) 3 (.pt b0 0)) 7 (w1)) 33 (.d (.lst (t33F.map NodeT.enc)))) 34 (.d (.int .i64 t34F))) 35 (.d (.int .i64 t35)), H, n⟩ (PostD C Tryd.f51 [(.bool r)])
theorem c_SoundExpr_L1_run_ok (typF : Int) (t33F : List NodeT) (t34F : Int) (st : c_SoundExpr_L1_S) (r : Bool) (h : c_SoundExpr_L1_run typF t33F t34F st = some r) : c_SoundExpr_L1_m typF t33F t34F st r := by
 refine c_SoundExpr_L1_run.partial_correctness typF t33F t34F (c_SoundExpr_L1_m typF t33F t34F) (fun c_SoundExpr_L1_run' ih_ st r h => ?_) st r h
 cases st with
 | c0 t stack t35 =>
  intro b0 w1 g H n hH
  refine Po (Ps (Pr rfl ?_))
  refine Wc h rfl ?_ ?_ <;> intro _ h
  refine Wn (Ns (Ps (Ct (Pk (Nc (Ns (Ps (Pb (Ps ?_)))))))))
  refine Pr rfl ?_
  refine w_idx h rfl elem22 szg115 (fun _ => rfl) rfl rfl (fun t37 h => ?_)
  refine w_load_d (d := (NodeT.enc t37)) szg115 rfl rfl ?_
  refine alloc_z rfl zero115 hH (fun b7752 H' n' hH => ?_)
  refine w_store_b (new := (NodeT.av t37)) rfl szg115 hH (i := 0) rfl rfl rfl rfl rfl (Nat.le_of_ble_eq_true rfl) (fun H' hH => ?_)
  refine Wn (Ns (Ps (Ps (Pr rfl (Fb fo115_2 (by decide) rfl 2 rfl (Lb szg9 hH (i := 0) rfl rfl rfl ?_))))))
  refine Wd h rfl ?_ ?_ <;> intro _ h
  refine Wm rfl (Fb fo115_3 (by decide) rfl 3 rfl (w_load_b (v := .agg (PosT.av t37.At)) rfl szg76 hH (i := 0) rfl rfl rfl (w_build (cs := [.d (.int .i64 0), .d (.int .i64 0)]) rfl zero76 places76 rfl ?_)))
  refine w_split (b := (!(decide (t37.At.Line = 0) && (decide (t37.At.Col = 0) && true)))) h rfl (o_neqS isst76 eqs76 rfl rfl rfl) rfl (fun _ => ⟨rfl, rfl⟩) (fun _ h => ?_) (fun _ h => ?_)
  refine Wf rfl rfl (Wm rfl (Wk (Wk (Wk (Wt rfl rfl (Wn (Ns (Ct (Ps ?_)))))))))
  refine Pr rfl (Wa rfl (Wn (Ns ?_)))
  cases h; exact Pq rfl rfl
  refine Wf rfl rfl (Wm rfl (w_load_b (v := .agg (NodeT.av t37)) rfl szg115 hH (i := 0) rfl rfl rfl ?_))
  refine w_raw [.pt b0 0, .agg (NodeT.av t37)] h rfl rfl sig121 rfl (fun y hy => c_value_ok _ _ y hy b0 _ _ ([.box b7752 (NodeT.av t37), o3_1 w1 stack]) (hH.selG 3 [1, 0, 2] (by decide) (by decide) (gc rfl (gc rfl (gc rfl (gt rfl)))))) (fun t50 rs H' n' h hP => ?_)
  obtain ⟨rfl, hH⟩ := hP
  refine w_split (b := (!t50.1)) h rfl (o_un rfl rfl) rfl (fun _ => ⟨rfl, rfl⟩) (fun _ h => ?_) (fun _ h => ?_)
  refine Wf rfl rfl (Wn (Ns (Ct (Ps (Pr rfl (Wa rfl (Wn (Ns ?_))))))))
  cases h; exact Pq rfl rfl
  refine Wf rfl rfl (Wn (Ns (Cf (Pk (Nb (Nb (Ns (Ps (Pr rfl ?_)))))))))
  refine Fb fo115_0 (by decide) rfl 0 rfl (Lb szg3 hH (i := 1) rfl rfl rfl (Wn (Ns (Pb (Ps (Ps (Pr rfl ?_)))))))
  refine Wc h rfl ?_ ?_ <;> intro _ h
  refine Wa rfl (Wn (Ns (Ct (Pk (Nc (Nb (Ns (Ct ?_))))))))
  exact jm 2 (jm 3 (jm 7 (jm 33 (jm 34 (jm 35 (ih_ (.c1 _ _ _) _ h b0 w1 _ _ _ (hH.selG 3 [0, 2] (by decide) (by decide) (gc rfl (gc rfl (gt rfl))))))))))
  refine Wa rfl (Wn (Ns (Cf (Ps (Pr rfl ?_)))))
  refine Wc h rfl ?_ ?_ <;> intro _ h
  refine Wa rfl (Wn (Ns (Ct (Pk (Nc (Nb (Nb (Nb (Ns ?_)))))))))
  refine Ct ?_
  exact jm 2 (jm 3 (jm 7 (jm 33 (jm 34 (jm 35 (ih_ (.c1 _ _ _) _ h b0 w1 _ _ _ (hH.selG 3 [0, 2] (by decide) (by decide) (gc rfl (gc rfl (gt rfl))))))))))
  refine Wa rfl (Wn (Ns (Cf (Ps (Pr rfl ?_)))))
  refine Wc h rfl ?_ ?_ <;> intro _ h
  refine Wa rfl (Wn (Ns (Ct (Pk (Nc (Nb (Nb (Nb (Nb ?_)))))))))
  refine Nb (Ns (Ct ?_))
  exact jm 2 (jm 3 (jm 7 (jm 33 (jm 34 (jm 35 (ih_ (.c1 _ _ _) _ h b0 w1 _ _ _ (hH.selG 3 [0, 2] (by decide) (by decide) (gc rfl (gc rfl (gt rfl))))))))))
  refine Wa rfl (Wn (Ns (Cf (Ps (Pr rfl ?_)))))
  refine Wc h rfl ?_ ?_ <;> intro _ h
  refine Wa rfl (Wn (Ns (Ct (Pk (Nc (Nb (Nb (Nb (Nb ?_)))))))))
  refine Nb (Nb (Nb (Ns (Ct ?_))))
  exact jm 2 (jm 3 (jm 7 (jm 33 (jm 34 (jm 35 (ih_ (.c1 _ _ _) _ h b0 w1 _ _ _ (hH.selG 3 [0, 2] (by decide) (by decide) (gc rfl (gc rfl (gt rfl))))))))))
  refine Wa rfl (Wn (Ns (Cf (Pr rfl ?_))))
  refine Wc h rfl ?_ ?_ <;> intro _ h
  refine Wa rfl (Wn (Nb (Nb (Nb (Nb (Nb (Nb (Nb (Nb ?_)))))))))
  refine Ns (Ct ?_)
  exact jm 2 (jm 3 (jm 7 (jm 33 (jm 34 (jm 35 (ih_ (.c1 _ _ _) _ h b0 w1 _ _ _ (hH.selG 3 [0, 2] (by decide) (by decide) (gc rfl (gc rfl (gt rfl))))))))))
  refine Wa rfl (Wn (Nb (Nb (Nb (Nb (Nb (Nb (Nb (Nb ?_)))))))))
  refine Ns (Cf (Ps (Ps (Pr rfl ?_))))
  refine Wc h rfl ?_ ?_ <;> intro _ h
  refine Wa rfl (Wn (Ns (Ct (Pk (Nc (Nb (Ns (Ct ?_))))))))
  exact jm 2 (jm 3 (jm 7 (jm 33 (jm 34 (jm 35 (ih_ (.c2 _ _ _) _ h b0 w1 _ _ _ (hH.selG 3 [0, 2] (by decide) (by decide) (gc rfl (gc rfl (gt rfl))))))))))
  refine Wa rfl (Wn (Ns (Cf (Ps (Pr rfl ?_)))))
  refine Wc h rfl ?_ ?_ <;> intro _ h
  refine Wa rfl (Wn (Ns (Ct (Pk (Nc (Nb (Nb (Nb (Ns ?_)))))))))
  refine Ct ?_
  exact jm 2 (jm 3 (jm 7 (jm 33 (jm 34 (jm 35 (ih_ (.c2 _ _ _) _ h b0 w1 _ _ _ (hH.selG 3 [0, 2] (by decide) (by decide) (gc rfl (gc rfl (gt rfl))))))))))
  refine Wa rfl (Wn (Ns (Cf (Ps (Pr rfl ?_)))))
  refine Wc h rfl ?_ ?_ <;> intro _ h
  refine Wa rfl (Wn (Ns (Ct (Pk (Nc (Nb (Nb (Nb (Nb ?_)))))))))
  refine Nb (Ns (Ct ?_))
  exact jm 2 (jm 3 (jm 7 (jm 33 (jm 34 (jm 35 (ih_ (.c2 _ _ _) _ h b0 w1 _ _ _ (hH.selG 3 [0, 2] (by decide) (by decide) (gc rfl (gc rfl (gt rfl))))))))))
  refine Wa rfl (Wn (Ns (Cf (Pr rfl ?_))))
  refine Wc h rfl ?_ ?_ <;> intro _ h
  refine Wa rfl (Wn (Nb (Nb (Nb (Nb (Nb (Nb (Ns (Ct ?_)))))))))
  exact jm 2 (jm 3 (jm 7 (jm 33 (jm 34 (jm 35 (ih_ (.c2 _ _ _) _ h b0 w1 _ _ _ (hH.selG 3 [0, 2] (by decide) (by decide) (gc rfl (gc rfl (gt rfl))))))))))
  refine Wa rfl (Wn (Nb (Nb (Nb (Nb (Nb (Nb (Ns (Cf ?_)))))))))
  refine Ps (Pr rfl (Wa rfl (Wn (Ns (Ps (Pr rfl (w_move_v (w1) rfl rfl (Fb fo115_0 (by decide) rfl 0 rfl (Lb szg3 hH (i := 1) rfl rfl rfl ?_)))))))))
  refine w_raw [w1, .d (.int .i64 t37.Op)] h rfl rfl sig122 rfl (fun y hy => c_pushed_ok _ _ y hy w1 _ _ ([.box b0 (TypedT.av t50.2), .box b7752 (NodeT.av t37)]) (hH.selG 3 [2, 0, 1] (by decide) (by decide) (gc rfl (gc rfl (gc rfl (gt rfl)))))) (fun t59 rs H' n' h hP => ?_)
  obtain ⟨w6754_0, rfl, hH⟩ := hP
  refine w_move_v (.tup [w6754_0, .d (.bool t59.2)]) rfl rfl (w_extract (v := w6754_0) rfl rfl rfl ?_)
  refine w_split (b := t59.2) h rfl (o_extract rfl rfl) rfl (fun _ => ⟨rfl, rfl⟩) (fun _ h => ?_) (fun _ h => ?_)
  refine w_assign_v (w6754_0) rfl rfl (Wa rfl (Wn (Ns ?_)))
  exact jm 2 (jm 3 (jm 7 (jm 10 (jm 33 (jm 34 (jm 35 (ih_ (.c3 _ _ _ _) _ h b0 w6754_0 _ _ _ (hH.selG 3 [1, 0] (by decide) (by decide) (gc rfl (gc rfl (gt rfl)))))))))))
  refine w_assign_v (w6754_0) rfl rfl (Wa rfl (Wn (Ns ?_)))
  exact jm 2 (jm 3 (jm 7 (jm 10 (jm 33 (jm 34 (jm 35 (ih_ (.c3 _ _ _ _) _ h b0 w6754_0 _ _ _ (hH.selG 3 [1, 0] (by decide) (by decide) (gc rfl (gc rfl (gt rfl)))))))))))
  refine Wm rfl (Wk (Wk (Wk (Wk (Wt rfl rfl (Wm rfl (Wk (Wk (Wk ?_)))))))))
  refine Wt rfl rfl (Wn (Ns (Ct (Ps (Pr rfl (Wa rfl (Wn (Ns ?_))))))))
  cases h; exact Pq rfl rfl
  refine Wn (Ns (Ps (Cf (Px rfl (Nb (Xs (Nb (Xl (Xb ?_)))))))))
  refine Nb (Ns (Ps (Pr rfl (w_move_v (w1) rfl rfl ?_))))
  refine w_idx_own h rfl elem122 szg3 hH (j := 1) rfl rfl rfl (fun i6755 t83 h hl6755 hv6755 => ?_)
  refine w_load_e rfl szg3 hH (j := 1) rfl hl6755 rfl hv6755 rfl (Wm rfl (Wb rfl (Wa rfl (Wn (Ns ?_)))))
  cases h; exact Pq rfl rfl
 | c1 t stack t35 =>
  intro b0 w1 g H n hH
  refine Pr rfl (w_move_v (w1) rfl rfl ?_)
  refine w_bslice (enc := (Dat.int .i64)) (xs := [1]) [.d (.int .i64 1)] rfl elem122 szg3 zero3 ⟨by decide, Nat.le_of_ble_eq_true rfl⟩ zd3 (fun _ => rfl) (fun _ => rfl) rfl rfl hH (fun w7756 H' n' hH => ?_)
  refine w_append (enc := (Dat.int .i64)) h rfl elem122 szg3 bytes3 (by decide) (fun _ => rfl) hH (j := 2) rfl rfl (shows_own hH (j := 0) rfl) (fun t72 w7757 H' n' h hH => ?_)
  refine w_assign_v (w7757) rfl rfl (Wn (Nc (Nb (Nk (Nb (Nb (Nb (Nk (Ns ?_)))))))))
  exact jm 2 (jm 3 (jm 7 (jm 33 (jm 34 (jm 35 (ih_ (.c4 _ _ _) _ h b0 w7757 _ _ _ (hH.selG 3 [2, 0] (by decide) (by decide) (gc rfl (gc rfl (gt rfl))))))))))
 | c2 t stack t35 =>
  intro b0 w1 g H n hH
  refine Pr rfl (w_move_v (w1) rfl rfl ?_)
  refine w_bslice (enc := (Dat.int .i64)) (xs := [2]) [.d (.int .i64 2)] rfl elem122 szg3 zero3 ⟨by decide, Nat.le_of_ble_eq_true rfl⟩ zd3 (fun _ => rfl) (fun _ => rfl) rfl rfl hH (fun w7758 H' n' hH => ?_)
  refine w_append (enc := (Dat.int .i64)) h rfl elem122 szg3 bytes3 (by decide) (fun _ => rfl) hH (j := 2) rfl rfl (shows_own hH (j := 0) rfl) (fun t80 w7759 H' n' h hH => ?_)
  refine w_assign_v (w7759) rfl rfl (Wn (Nc (Nb (Nb (Nb (Nk (Nb (Nb (Nb ?_)))))))))
  refine Nk (Ns ?_)
  exact jm 2 (jm 3 (jm 7 (jm 33 (jm 34 (jm 35 (ih_ (.c4 _ _ _) _ h b0 w7759 _ _ _ (hH.selG 3 [2, 0] (by decide) (by decide) (gc rfl (gc rfl (gt rfl))))))))))
 | c3 t stack ok t35 =>
  intro b0 w1 g H n hH
  refine Ps (Pr rfl (Wm rfl ?_))
  refine w_split (b := (!ok)) h rfl (o_un rfl rfl) rfl (fun _ => ⟨rfl, rfl⟩) (fun _ h => ?_) (fun _ h => ?_)
  refine Wn (Ns (Ct (Ps (Pr rfl (Wa rfl (Wn (Ns ?_)))))))
  cases h; exact Pq rfl rfl
  refine Wn (Ns (Cf (Pk (Nb (Nb (Nb (Nb (Nb (Nb ?_)))))))))
  refine Nb (Nb (Nk (Nb (Nb (Nb (Nk (Ns ?_)))))))
  exact jm 2 (jm 3 (jm 7 (jm 33 (jm 34 (jm 35 (ih_ (.c4 _ _ _) _ h b0 w1 _ _ _ hH))))))
 | c4 t stack t35 =>
  intro b0 w1 g H n hH
  refine Pr rfl (Wb rfl (Wm rfl (Wn (Nb (Nb (Nb (Nl ?_)))))))
  exact jm 2 (jm 3 (jm 7 (jm 33 (jm 34 (jm 35 (ih_ (.c0 _ _ _) _ h b0 w1 _ _ _ hH))))))
theorem c_SoundExpr_L1_ok (typF : Int) (t : TypedT) (stack : List Int) (t33F : List NodeT) (t34F : Int) (t35 : Int) (r : Bool) (h : c_SoundExpr_L1 typF t stack t33F t34F t35 = some r) : c_SoundExpr_L1_m typF t33F t34F (.c0 t stack t35) r := c_SoundExpr_L1_run_ok typF t33F t34F (.c0 t stack t35) r h
theorem c_SoundExpr_ok (t : TypedT) (e : List NodeT) (typ : Int) (r : Bool) (h : c_SoundExpr t e typ = some r) : callD C 51 [(TypedT.enc t), (.lst (e.map NodeT.enc)), (.int .i64 typ)] = some [(.bool r)] := by
 refine callD_at (ext0 _ _ rfl) fn51 rfl (jmp 0 (.d (TypedT.enc t)) rfl (jmp 1 (.d (.lst (e.map NodeT.enc))) rfl (jmp 2 (.d (.int .i64 typ)) rfl (Ps (Pr rfl ?_)))))
 refine w_box (cs := (TypedT.av t)) rfl szg95 rfl rfl rfl (HP.nil _ _) (fun b7751 H' n' hH => ?_)
 refine Wa rfl (Wn (Ns (Ps (Ps (Pr rfl (Wm rfl ?_))))))
 refine w_scal (E := eB) h rfl sig113 (sc rfl (sc rfl (sc rfl (sn)))) (fun y hy => c_in_ok _ _ _ y hy) (fun _ => rfl) (fun t12 h => ?_)
 revert h; cases t12 <;> intro h
 replace h := if0 h
 refine w_un rfl rfl (Wm rfl (Wk (Wk (Wk (Wk (Wt rfl rfl (Wm rfl (Wk (Wk ?_)))))))))
 refine Wk (Wk (Wk (Wk (Wt rfl rfl (Wm rfl (Wk (Wk (Wk (Wt rfl rfl ?_)))))))))
 refine Wn (Ns (Ct (Ps (Pr rfl (Wa rfl (Wn (Ns ?_)))))))
 cases h; exact Pq rfl rfl
 replace h := if1 h
 refine w_un rfl rfl (Wm rfl (Wm rfl (w_len_d elem22 rfl ?_)))
 refine w_scal (E := eB) h rfl sig113 (sc rfl (sc rfl (sc rfl (sn)))) (fun y hy => c_in_ok _ _ _ y hy) (fun _ => rfl) (fun t17 h => ?_)
 revert h; cases t17 <;> intro h
 replace h := if0 h
 refine w_un rfl rfl (Wf rfl rfl (Wm rfl (Wk (Wk (Wk (Wk (Wk (Wk (Wt rfl rfl ?_)))))))))
 refine Wm rfl (Wk (Wk (Wk (Wt rfl rfl (Wn (Ns (Ct (Ps (Pr rfl ?_)))))))))
 refine Wa rfl (Wn (Ns ?_))
 cases h; exact Pq rfl rfl
 replace h := if1 h
 refine w_un rfl rfl (Wf rfl rfl (Wm rfl (Wm rfl (Wm rfl (w_len_d elem22 rfl (Wb rfl ?_))))))
 refine w_scal (E := eI) h rfl sig13 (sc rfl (sc rfl (sn))) (fun y hy => tree_Span_ok _ _ y hy) (fun _ => rfl) (fun t25 h => ?_)
 refine Wd h rfl ?_ ?_ <;> intro _ h
 refine Wf rfl rfl (Wm rfl (Wm rfl ?_))
 refine w_scal (E := eI) h rfl sig14 (sc rfl (sn)) (fun y hy => tree_Nest_ok _ y hy) (fun _ => rfl) (fun t30 h => ?_)
 refine Wc h rfl ?_ ?_ <;> intro _ h
 refine Wf rfl rfl (Wn (Ns (Ct (Ps (Pr rfl (Wa rfl (Wn (Ns ?_))))))))
 cases h; exact Pq rfl rfl
 refine Wf rfl rfl (Wn (Ns (Cf (Pk (Nb (Nb (Ns (Ps (Pr rfl ?_)))))))))
 refine w_assign_v (.nil) rfl rfl (Wn (Ns (Ps (Ps (Pr rfl (Wm rfl (w_len_d elem22 rfl (Wm rfl (Wn ?_)))))))))
 refine Ns (Pb ?_)
 exact jm 2 (jm 3 (jm 7 (jm 33 (jm 34 (jm 35 (c_SoundExpr_L1_ok _ _ _ _ _ _ _ h b7751 .nil _ _ _ ((hH.addNil (z := ⟨3, 1⟩)).selG 2 [1, 0] (by decide) (by decide) (gc rfl (gc rfl (gt rfl))))))))))
 refine Wf rfl rfl (Wm rfl (Wk (Wk (Wk (Wt rfl rfl (Wn (Ns (Ct (Ps ?_)))))))))
 refine Pr rfl (Wa rfl (Wn (Ns ?_)))
 cases h; exact Pq rfl rfl
theorem c_soundStmt_k1_ok (t : TypedT) (s_ : StmtT) (r : Bool × TypedT) (h : c_soundStmt_k1 t s_ = some r) (b1 be0 L g H n) (hH : HP H n (.box be0 (TypedT.av t) :: .box b1 (StmtT.av s_) :: L)) : PAt C (bodyOf Tryd.f227) (.a (.b (.a (.b (.a (.b (.b (.b (.b .o))))))))) ⟨upd (upd g 0 (.pt be0 0)) 3 (.pt b1 0), H, n⟩ (PostR C Tryd.f227 (fun rs H' n' => rs = [.d (.bool r.1)] ∧ HP H' n' (.box be0 (TypedT.av r.2) :: L))) := by
 refine Ps (p_calm rfl (by kernel_rfl) (Fb fo140_2 (by decide) rfl 2 rfl (Lb szg3 hH (i := 1) rfl rfl rfl (w_move_v (.pt be0 0) rfl rfl (Wq rfl (Fb fo95_3 (by decide) rfl 4 rfl (Lb szg91 hH (i := 0) rfl rfl rfl (w_len_d elem91 rfl (Wb rfl ?_)))))))))
 refine Wa rfl (Wn (Ns ?_))
 refine Pt (Cr ?_)
 cases h
 exact prF (.inl rfl) (ra_tmp (.d (.bool (decide (s_.Ix < (t.Timers.length : Int))))) rfl (ra_nil)) ⟨rfl, (hH.selG 2 [0] (by decide) (by decide) (gc rfl (gt rfl)))⟩
theorem c_soundStmt_k2_ok (t : TypedT) (s_ : StmtT) (r : Bool × TypedT) (h : c_soundStmt_k2 t s_ = some r) (b1 be0 L g H n) (hH : HP H n (.box be0 (TypedT.av t) :: .box b1 (StmtT.av s_) :: L)) : PAt C (bodyOf Tryd.f227) (.a (.b (.b (.b (.a (.b (.a (.b (.b (.b (.b .o))))))))))) ⟨upd (upd g 0 (.pt be0 0)) 3 (.pt b1 0), H, n⟩ (PostR C Tryd.f227 (fun rs H' n' => rs = [.d (.bool r.1)] ∧ HP H' n' (.box be0 (TypedT.av r.2) :: L))) := by
 refine Ps (p_calm rfl (by kernel_rfl) (Fb fo140_2 (by decide) rfl 2 rfl (Lb szg3 hH (i := 1) rfl rfl rfl (w_move_v (.pt be0 0) rfl rfl (Wq rfl (Fb fo95_4 (by decide) rfl 5 rfl (Lb szg91 hH (i := 0) rfl rfl rfl (w_len_d elem91 rfl (Wb rfl ?_)))))))))
 refine Wa rfl (Wn (Ns ?_))
 refine Pt (Cr ?_)
 cases h
 exact prF (.inl rfl) (ra_tmp (.d (.bool (decide (s_.Ix < (t.Counters.length : Int))))) rfl (ra_nil)) ⟨rfl, (hH.selG 2 [0] (by decide) (by decide) (gc rfl (gt rfl)))⟩
theorem c_soundStmt_k3_ok (s_ : StmtT) (t10000 : TypedT) (r : Bool × TypedT) (h : c_soundStmt_k3 s_ t10000 = some r) (b0 be0 L g H n) (hH : HP H n (.box b0 (StmtT.av s_) :: .box be0 (TypedT.av t10000) :: L)) : PAt C (bodyOf Tryd.f227) (.a (.b (.b (.b (.b (.b (.b (.b (.a (.b (.a (.b (.b (.b (.b .o))))))))))))))) ⟨upd g 3 (.pt b0 0), H, n⟩ (PostR C Tryd.f227 (fun rs H' n' => rs = [.d (.bool r.1)] ∧ HP H' n' (.box be0 (TypedT.av r.2) :: L))) := by
 refine Ps (Pr rfl (Fb fo140_2 (by decide) rfl 2 rfl (Lb szg3 hH (i := 0) rfl rfl rfl (Wb rfl (Wa rfl (Wn (Ns ?_)))))))
 refine Pt (Cr ?_)
 cases h
 exact prF (.inl rfl) (ra_tmp (.d (.bool (decide (s_.Ix = 0)))) rfl (ra_nil)) ⟨rfl, (hH.selG 2 [1] (by decide) (by decide) (gc rfl (gt rfl)))⟩
theorem c_soundStmt_ok (t : TypedT) (s_ : StmtT) (r : Bool × TypedT) (h : c_soundStmt t s_ = some r) (be0 : Nat) (H : Hs) (n : Nat) (L : List Jv.Item) (hH : HP H n (.box be0 (TypedT.av t) :: L)) : Raw C 227 [.pt be0 0, .agg (StmtT.av s_)] H n (fun rs H' n' => rs = [.d (.bool r.1)] ∧ HP H' n' (.box be0 (TypedT.av r.2) :: L)) := by
 refine raw_at fn227 rfl (jmp 0 (.pt be0 0) rfl (jmp 1 (.agg (StmtT.av s_)) rfl (Ps (Pr rfl ?_))))
 refine w_box (cs := (StmtT.av s_)) rfl szg140 rfl rfl rfl hH (fun b7761 H' n' hH => ?_)
 refine Wa rfl (Wn (Ns (Ps (Ps (Pr rfl (Fb fo140_1 (by decide) rfl 1 rfl (Lb szg9 hH (i := 0) rfl rfl rfl ?_)))))))
 refine Wd h rfl ?_ ?_ <;> intro _ h
 refine Wm rfl (Fb fo140_4 (by decide) rfl 4 rfl (w_load_b (v := .agg (PosT.av s_.At)) rfl szg76 hH (i := 0) rfl rfl rfl (w_build (cs := [.d (.int .i64 0), .d (.int .i64 0)]) rfl zero76 places76 rfl ?_)))
 refine w_split (b := (!(decide (s_.At.Line = 0) && (decide (s_.At.Col = 0) && true)))) h rfl (o_neqS isst76 eqs76 rfl rfl rfl) rfl (fun _ => ⟨rfl, rfl⟩) (fun _ h => ?_) (fun _ h => ?_)
 refine Wf rfl rfl (Wm rfl (Wk (Wk (Wk (Wt rfl rfl (Wn (Ns (Ct (Ps ?_)))))))))
 refine Pr rfl (Wa rfl (Wn (Ns ?_)))
 refine Pt (Cr ?_)
 cases h
 exact prF (.inl rfl) (ra_tmp (.d (.bool false)) rfl (ra_nil)) ⟨rfl, (hH.selG 2 [1] (by decide) (by decide) (gc rfl (gt rfl)))⟩
 refine Wf rfl rfl (Wm rfl (Fb fo140_2 (by decide) rfl 2 rfl (Lb szg3 hH (i := 0) rfl rfl rfl ?_)))
 refine Wc h rfl ?_ ?_ <;> intro _ h
 refine Wf rfl rfl (Wn (Ns (Ct (Ps (Pr rfl (Wa rfl (Wn (Ns ?_))))))))
 refine Pt (Cr ?_)
 cases h
 exact prF (.inl rfl) (ra_tmp (.d (.bool false)) rfl (ra_nil)) ⟨rfl, (hH.selG 2 [1] (by decide) (by decide) (gc rfl (gt rfl)))⟩
 refine Wf rfl rfl (Wn (Ns (Cf (Pk (Nb (Nb (Ns (Ps (Ps ?_)))))))))
 refine Pr rfl (Fb fo140_0 (by decide) rfl 0 rfl (Lb szg3 hH (i := 0) rfl rfl rfl (Wn (Ns (Pb (Ps (Pr rfl ?_)))))))
 refine Wc h rfl ?_ ?_ <;> intro _ h
 refine Wa rfl (Wn (Ns (Ct (Ps (p_calm rfl (by kernel_rfl) (Fb fo140_2 (by decide) rfl 2 rfl (Lb szg3 hH (i := 0) rfl rfl rfl (w_move_v (.pt be0 0) rfl rfl (Wq rfl ?_)))))))))
 refine Fb fo95_5 (by decide) rfl 6 rfl (Lb szg92 hH (i := 1) rfl rfl rfl (w_len_d elem92 rfl ?_))
 refine Wc h rfl ?_ ?_ <;> intro _ h
 refine Wm rfl (w_move_v (.pt be0 0) rfl rfl (Wq rfl (w_load_b (v := .agg (TypedT.av t)) rfl szg95 hH (i := 1) rfl rfl rfl (Fb fo140_3 (by decide) rfl 3 rfl (Lb szg22 hH (i := 0) rfl rfl rfl ?_)))))
 refine w_scal (E := eB) h rfl sig51 (sc rfl (sc rfl (sc rfl (sn)))) (fun y hy => c_SoundExpr_ok _ _ _ y hy) (fun _ => rfl) (fun t37 h => ?_)
 refine Wt rfl rfl (Wa rfl (Wn (Ns ?_)))
 refine Pt (Cr ?_)
 cases h
 exact prF (.inl rfl) (ra_tmp (.d (.bool t37)) rfl (ra_nil)) ⟨rfl, (hH.selG 2 [1] (by decide) (by decide) (gc rfl (gt rfl)))⟩
 refine Wm rfl (Wk (Wk (Wk (Wk (Wk (Wk (Wf rfl rfl (Wa rfl (Wn ?_)))))))))
 refine Ns ?_
 refine Pt (Cr ?_)
 cases h
 exact prF (.inl rfl) (ra_tmp (.d (.bool false)) rfl (ra_nil)) ⟨rfl, (hH.selG 2 [1] (by decide) (by decide) (gc rfl (gt rfl)))⟩
 refine Wa rfl (Wn (Ns (Cf (Ps (Pr rfl ?_)))))
 refine Wc h rfl ?_ ?_ <;> intro _ h
 refine Wa rfl (Wn (Ns (Ct (Ps (p_calm rfl (by kernel_rfl) (Fb fo140_2 (by decide) rfl 2 rfl (Lb szg3 hH (i := 0) rfl rfl rfl ?_)))))))
 refine Wc h rfl ?_ ?_ <;> intro _ h
 refine Wm rfl (w_move_v (.pt be0 0) rfl rfl (Wq rfl (w_load_b (v := .agg (TypedT.av t)) rfl szg95 hH (i := 1) rfl rfl rfl (Fb fo140_3 (by decide) rfl 3 rfl (Lb szg22 hH (i := 0) rfl rfl rfl ?_)))))
 refine w_scal (E := eB) h rfl sig51 (sc rfl (sc rfl (sc rfl (sn)))) (fun y hy => c_SoundExpr_ok _ _ _ y hy) (fun _ => rfl) (fun t50 h => ?_)
 refine Wt rfl rfl (Wa rfl (Wn (Ns ?_)))
 refine Pt (Cr ?_)
 cases h
 exact prF (.inl rfl) (ra_tmp (.d (.bool t50)) rfl (ra_nil)) ⟨rfl, (hH.selG 2 [1] (by decide) (by decide) (gc rfl (gt rfl)))⟩
 refine Wm rfl (Wk (Wk (Wk (Wk (Wk (Wk (Wf rfl rfl (Wa rfl (Wn ?_)))))))))
 refine Ns ?_
 refine Pt (Cr ?_)
 cases h
 exact prF (.inl rfl) (ra_tmp (.d (.bool false)) rfl (ra_nil)) ⟨rfl, (hH.selG 2 [1] (by decide) (by decide) (gc rfl (gt rfl)))⟩
 refine Wa rfl (Wn (Ns (Cf (Pk (Nb (Nb (Nb (Nb (Nk ?_)))))))))
 refine Nb (Ns (Ps (Ps (Pr rfl (Fb fo140_3 (by decide) rfl 3 rfl (Lb szg22 hH (i := 0) rfl rfl rfl (w_len_d elem22 rfl ?_)))))))
 refine Wd h rfl ?_ ?_ <;> intro _ h
 refine Wn (Ns (Cf (Pk (Nb (Nb (Ns (Ps (Ps (Pr rfl ?_)))))))))
 refine Fb fo140_0 (by decide) rfl 0 rfl (Lb szg3 hH (i := 0) rfl rfl rfl (Wn (Ns (Pb (Ps (Ps (Pr rfl ?_)))))))
 refine Wc h rfl ?_ ?_ <;> intro _ h
 refine Wa rfl (Wn (Ns (Ct (Pk (Nc (Nb (Ns (Ct ?_))))))))
 exact jm 0 (jm 3 (c_soundStmt_k1_ok _ _ _ h b7761 _ _ _ _ _ (hH.selG 2 [1, 0] (by decide) (by decide) (gc rfl (gc rfl (gt rfl))))))
 refine Wa rfl (Wn (Ns (Cf (Ps (Pr rfl ?_)))))
 refine Wc h rfl ?_ ?_ <;> intro _ h
 refine Wa rfl (Wn (Ns (Ct (Pk (Nc (Nb (Nb (Nb (Ns ?_)))))))))
 refine Ct ?_
 exact jm 0 (jm 3 (c_soundStmt_k1_ok _ _ _ h b7761 _ _ _ _ _ (hH.selG 2 [1, 0] (by decide) (by decide) (gc rfl (gc rfl (gt rfl))))))
 refine Wa rfl (Wn (Ns (Cf (Pr rfl ?_))))
 refine Wc h rfl ?_ ?_ <;> intro _ h
 refine Wa rfl (Wn (Nb (Nb (Nb (Nb (Ns (Ct ?_)))))))
 exact jm 0 (jm 3 (c_soundStmt_k1_ok _ _ _ h b7761 _ _ _ _ _ (hH.selG 2 [1, 0] (by decide) (by decide) (gc rfl (gc rfl (gt rfl))))))
 refine Wa rfl (Wn (Nb (Nb (Nb (Nb (Ns (Cf (Ps (Ps ?_)))))))))
 refine Pr rfl ?_
 refine Wc h rfl ?_ ?_ <;> intro _ h
 refine Wa rfl (Wn (Ns (Ct (Pk (Nc (Nb (Ns (Ct ?_))))))))
 exact jm 0 (jm 3 (c_soundStmt_k2_ok _ _ _ h b7761 _ _ _ _ _ (hH.selG 2 [1, 0] (by decide) (by decide) (gc rfl (gc rfl (gt rfl))))))
 refine Wa rfl (Wn (Ns (Cf (Pr rfl ?_))))
 refine Wc h rfl ?_ ?_ <;> intro _ h
 refine Wa rfl (Wn (Nb (Nb (Ns (Ct ?_)))))
 exact jm 0 (jm 3 (c_soundStmt_k2_ok _ _ _ h b7761 _ _ _ _ _ (hH.selG 2 [1, 0] (by decide) (by decide) (gc rfl (gc rfl (gt rfl))))))
 refine Wa rfl (Wn (Nb (Nb (Ns (Cf (Ps (Pr rfl ?_)))))))
 refine Wc h rfl ?_ ?_ <;> intro _ h
 refine Wa rfl (Wn (Ns (Ct (Ps (p_calm rfl (by kernel_rfl) (Fb fo140_2 (by decide) rfl 2 rfl (Lb szg3 hH (i := 0) rfl rfl rfl (w_move_v (.pt be0 0) rfl rfl (Wq rfl ?_)))))))))
 refine Fb fo95_2 (by decide) rfl 3 rfl (Lb szg90 hH (i := 1) rfl rfl rfl (w_len_d elem90 rfl (Wb rfl (Wa rfl (Wn (Ns ?_))))))
 refine Pt (Cr ?_)
 cases h
 exact prF (.inl rfl) (ra_tmp (.d (.bool (decide (s_.Ix < (t.Dets.length : Int))))) rfl (ra_nil)) ⟨rfl, (hH.selG 2 [1] (by decide) (by decide) (gc rfl (gt rfl)))⟩
 refine Wa rfl (Wn (Ns (Cf (Ps (Ps (Pr rfl ?_))))))
 refine Wc h rfl ?_ ?_ <;> intro _ h
 refine Wa rfl (Wn (Ns (Ct (Pk (Nc (Nb (Ns (Ct ?_))))))))
 exact jm 3 (c_soundStmt_k3_ok _ _ _ h b7761 _ _ _ _ _ hH)
 refine Wa rfl (Wn (Ns (Cf (Pr rfl ?_))))
 refine Wc h rfl ?_ ?_ <;> intro _ h
 refine Wa rfl (Wn (Nb (Nb (Ns (Ct ?_)))))
 exact jm 3 (c_soundStmt_k3_ok _ _ _ h b7761 _ _ _ _ _ hH)
 refine Wa rfl (Wn (Nb (Nb (Ns (Cf (Pk (Nb (Nb (Nb ?_)))))))))
 refine Nb (Nb (Nb (Nb (Nb (Nk (Nb (Ns (Ps (Pr rfl ?_)))))))))
 refine Wa rfl (Wn (Ns ?_))
 refine Pt (Cr ?_)
 cases h
 exact prF (.inl rfl) (ra_tmp (.d (.bool false)) rfl (ra_nil)) ⟨rfl, (hH.selG 2 [1] (by decide) (by decide) (gc rfl (gt rfl)))⟩
 refine Wn (Ns (Ct (Ps (Pr rfl (Wa rfl (Wn (Ns ?_)))))))
 refine Pt (Cr ?_)
 cases h
 exact prF (.inl rfl) (ra_tmp (.d (.bool false)) rfl (ra_nil)) ⟨rfl, (hH.selG 2 [1] (by decide) (by decide) (gc rfl (gt rfl)))⟩
 refine Wm rfl (Wk (Wk (Wk (Wk (Wt rfl rfl (Wm rfl (Wk (Wk (Wk ?_)))))))))
 refine Wt rfl rfl (Wn (Ns (Ct (Ps (Pr rfl (Wa rfl (Wn (Ns ?_))))))))
 refine Pt (Cr ?_)
 cases h
 exact prF (.inl rfl) (ra_tmp (.d (.bool false)) rfl (ra_nil)) ⟨rfl, (hH.selG 2 [1] (by decide) (by decide) (gc rfl (gt rfl)))⟩
def c_soundList_L1_m (t9F : List StmtT) (t10F : Int) : c_soundList_L1_S → (Bool × TypedT) → Prop := fun st r => match st with
  | .c0 t open_ t11 => ∀ (w1 be0 L g H n) (hH : HP H n (.box be0 (TypedT.av t) :: o4_1 w1 open_ :: L)), PAt C (bodyOf Tryd.f176) (.a (.b (.a (.b (.b .o))))) ⟨upd (upd (upd (upd (upd g 0 (.pt be0 0)) 5 (w1)) 9 (.d (.lst (t9F.map StmtT.enc)))) 10 (.d (.int .i64 t10F))) 11 (.d (.int .i64 t11)), H, n⟩ (PostR C Tryd.f176 (fun rs H' n' => rs = [.d (.bool r.1)] ∧ HP H' n' (.box be0 (TypedT.av r.2) :: L)))
  | .c1 t open_ t11 => ∀ (w1 be0 L g H n) (hH : HP H n (.box be0 (TypedT.av t) :: o4_1 w1 open_ :: L)), PAt C (bodyOf Tryd.f176) (.b (.b (.b (.a (.a (.b (.a (.b (.b .o))))))))) ⟨upd (upd (upd (upd (upd g 0 (.pt be0 0)) 5 (w1)) 9 (.d (.lst (t9F.map StmtT.enc)))) 10 (.d (.int .i64 t10F))) 11 (.d (.int .i64 t11)), H, n⟩ (PostR C Tryd.f176 (fun rs H' n' => rs = [.d (.bool r.1)] ∧ HP H' n' (.box be0 (TypedT.av r.2) :: L)))
end Go.Proofs.YtdcpfmjnkcodiaaDoor.We
