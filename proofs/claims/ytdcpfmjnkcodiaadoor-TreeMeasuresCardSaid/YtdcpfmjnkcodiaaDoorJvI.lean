/- The operations that only reckon. -/
import Derived.Test.YtdcpfmjnkcodiaaDoorJvH
import Derived.Lib.ConvBytes
import Derived.Lib.Bytes
import Derived.Laws.Slices
namespace Go.Jv

section
variable {P : Program} {C : Cfg} {S0 L0 : Nat → Prop} {w0 : World} {S : Nat → Prop} {B : Nat → Option Pl} {H : Hs} {F : Nat → Prop} {nx : Nat} {w : World}

theorem VR.intV {k : IntKind} {n : Int} {v : Value} (h : VR S w (.int k n) v) : v = .int k n := by cases h; rfl
theorem VR.boolV {b : Bool} {v : Value} (h : VR S w (.bool b) v) : v = .bool b := by cases h; rfl
theorem VR.strV {s : ByteArray} {v : Value} (h : VR S w (.str s) v) : v = .string s := by cases h; rfl
theorem AVR.dV {x : Dat} {v : Value} (h : AVR S w B (.d x) v) : VR S w x v := by cases h; assumption

theorem toList_eq (s : ByteArray) : s.toList = s.data.toList := by
  exact Go.Lib.toList_data s

theorem str_beq (a b : ByteArray) : (a.toList == b.toList) = decide (a = b) := by
  rw [toList_eq, toList_eq, Bool.eq_iff_iff]
  simp only [beq_iff_eq, decide_eq_true_eq]
  constructor
  · intro h
    cases a; cases b
    congr 1
    exact Array.toList_inj.1 h
  · rintro rfl; rfl

theorem binD_sound {op : BinOp} {t : TypeId} {x y : Operand} {a b r : Dat} {u v : Value} (ha : VR S w a u) (hb : VR S w b v) (h : binD op a b = some r) :
    ∃ val, (do eqGuard op t x y u v; binOp op t u v : Sem Value).run P w = .ok val w ∧ VR S w r val := by
  cases a <;> cases b <;> try (simp [binD] at h; done)
  case int.int k m k' n =>
    obtain rfl := ha.intV
    obtain rfl := hb.intV
    have hg : ∀ op, (eqGuard op t x y (.int k m) (.int k' n)).run P w = .ok () w := by intro op; unfold eqGuard; cases op <;> rfl
    rw [Sem.run_bind, hg, Result.andThen_ok]
    simp only [binD] at h
    cases op <;> simp only at h
    case shl =>
      split at h
      · cases h
      · rename_i hn; cases h; exact ⟨_, by simp [binOp, Op.shift, hn], .int _ _⟩
    case shr =>
      split at h
      · cases h
      · rename_i hn; cases h; exact ⟨_, by simp [binOp, Op.shift, hn], .int _ _⟩
    case quo =>
      split at h
      · rename_i hk; subst hk; simp only [binI] at h
        split at h
        · cases h
        · rename_i hn; cases h; exact ⟨_, by simp [binOp, Op.intDiv, hn], .int _ _⟩
      · cases h
    case rem =>
      split at h
      · rename_i hk; subst hk; simp only [binI] at h
        split at h
        · cases h
        · rename_i hn; cases h; exact ⟨_, by simp [binOp, Op.intDiv, hn], .int _ _⟩
      · cases h
    all_goals
      split at h
      · rename_i hk; subst hk
        simp only [binI, Option.some.injEq, reduceCtorEq] at h
        try (subst h)
        first
          | exact ⟨_, by simp [binOp, Op.intArith, Op.intCmp, Op.intBits]; rfl, .int _ _⟩
          | exact ⟨_, by simp [binOp, Op.intArith, Op.intCmp, Op.intBits], .int _ _⟩
          | (refine ⟨_, by simp [binOp, Op.intArith, Op.intCmp, Op.intBits]; rfl, ?_⟩; exact .bool _)
          | (refine ⟨.bool _, ?_, .bool _⟩; simp [binOp, Op.intArith, Op.intCmp, Op.intBits, bne, BEq.beq])
          | (refine ⟨.bool _, ?_, .bool _⟩; simp [binOp, Op.intArith, Op.intCmp, Op.intBits])
      · cases h
  case str.str m n =>
    obtain rfl := ha.strV
    obtain rfl := hb.strV
    have hg : ∀ op, (eqGuard op t x y (.string m) (.string n)).run P w = .ok () w := by intro op; unfold eqGuard; cases op <;> rfl
    rw [Sem.run_bind, hg, Result.andThen_ok]
    simp only [binD] at h
    cases op <;> simp only [reduceCtorEq] at h
    case add =>
      split at h
      · rename_i hle
        cases h
        refine ⟨.string (m ++ n), ?_, .str _⟩
        have : ¬ (((m.size + n.size : Nat) : Int) > IntKind.i64.max) := by
          have : IntKind.i64.max = 9223372036854775807 := by rfl
          omega
        simp only [binOp, Op.stringOp]
        rw [if_neg this]
        rfl
      · cases h
    case eql => cases h; exact ⟨.bool _, by simp [binOp, Op.stringOp, str_beq], .bool _⟩
    case neq => cases h; exact ⟨.bool _, by simp [binOp, Op.stringOp, str_beq], .bool _⟩
    case lss => cases h; exact ⟨.bool _, by simp [binOp, Op.stringOp], .bool _⟩
    case geq => cases h; exact ⟨.bool _, by simp [binOp, Op.stringOp], .bool _⟩

theorem eqlD_sound (V : Valid P C) {t : TypeId} {x y : Operand} {a b : Dat} {u v : Value} {r : Bool} (ha : VR S w a u) (hb : VR S w b v) (h : eqlD C t a b = some r) :
    (do eqGuard .eql t x y u v; binOp .eql t u v : Sem Value).run P w = .ok (.bool r) w ∧ (do eqGuard .neq t x y u v; binOp .neq t u v : Sem Value).run P w = .ok (.bool (!r)) w := by
  unfold eqlD at h
  cases hy : C.ty t with
  | none => simp [hy] at h
  | some i =>
    have hu := (V.ty t i hy).1
    cases a <;> cases b <;> simp only [hy, reduceCtorEq] at h
    case bool.bool m n =>
      split at h
      · rename_i hd
        cases h
        obtain rfl := ha.boolV
        obtain rfl := hb.boolV
        rw [hd] at hu
        have hg : ∀ op, (eqGuard op t x y (.bool m) (.bool n)).run P w = .ok () w := by intro op; unfold eqGuard; cases op <;> rfl
        have he : (Op.equal t (.bool m) (.bool n)).run P w = .ok (decide (m = n)) w := by
          unfold Op.equal
          obtain ⟨md, hmd⟩ : ∃ md, Op.maxDepth = md + 1 := ⟨9999, rfl⟩
          rw [hmd]
          simp only [Op.equalIn, Sem.run_bind, run_underlying hu w, Result.andThen_ok]
          simp [BEq.beq]
        refine ⟨?_, ?_⟩ <;> rw [Sem.run_bind, hg, Result.andThen_ok] <;> simp [binOp, he]
      · cases h
    case agg.agg xs ys =>
      split at h
      · rename_i fs qs hd he
        · cases ha with
          | agg _ us hl ho hv =>
            cases hb with
            | agg _ vs hl' ho' hv' =>
              have flat : ∀ (ds : List Dat) (qs : List Nat) (es : List Dat) (r : Bool), eqAll qs ds es = some r → ∀ (j : Nat) (c : Dat), (ds[j]? = some c ∨ es[j]? = some c) → ∀ (S' : Nat → Prop) (w' : World) (u : Value), VR S w c u → VR S' w' c u := by
                intro ds
                induction ds with
                | nil => intro qs es r h j c hj; cases qs <;> cases es <;> simp [eqAll] at h hj
                | cons d ds ih =>
                  intro qs es r h j c hj S' w' u hu
                  match qs, es with
                  | [], _ => simp [eqAll] at h
                  | _ :: _, [] => simp [eqAll] at h
                  | q :: qs, e :: es =>
                    simp only [eqAll] at h
                    split at h
                    · rename_i r1 r2 h1 h2
                      match j with
                      | 0 =>
                        have hc : c = d ∨ c = e := by simpa [eq_comm] using hj
                        unfold eqD at h1; split at h1 <;> first | (cases h1; done) | (rcases hc with rfl | rfl <;> cases hu <;> constructor)
                      | j + 1 => exact ih qs es r2 h2 j c (by simpa using hj) S' w' u hu
                    · cases h
              have e := V.eqs t qs i he hy fs hd us vs xs ys r w x y h
                (fun S' w' => .agg xs us hl ho (fun j c u hj hu => flat xs qs ys r h j c (.inl hj) S' w' u (hv j c u hj hu)))
                (fun S' w' => .agg ys vs hl' ho' (fun j c u hj hu => flat xs qs ys r h j c (.inr hj) S' w' u (hv' j c u hj hu)))
              exact e
      · cases h

theorem binA_sound (V : Valid P C) {op : BinOp} {t : TypeId} {x y : Operand} {a b : AV} {r : Dat} {u v : Value} (ha : AVR S w B a u) (hb : AVR S w B b v) (h : binA C op t a b = some r) :
    ∃ val, (do eqGuard op t x y u v; binOp op t u v : Sem Value).run P w = .ok val w ∧ VR S w r val := by
  unfold binA at h
  split at h
  · rename_i a0 b0 h1 h2
    have ha' := datA_sound ha h1
    have hb' := datA_sound hb h2
    split at h
    · split at h
      · rename_i r0 hr; cases h; exact binD_sound ha' hb' hr
      · obtain ⟨r0, hr, rfl⟩ := Option.map_eq_some_iff.1 h
        exact ⟨_, (eqlD_sound V ha' hb' hr).1, .bool _⟩
    · split at h
      · rename_i r0 hr; cases h; exact binD_sound ha' hb' hr
      · obtain ⟨r0, hr, rfl⟩ := Option.map_eq_some_iff.1 h
        exact ⟨_, (eqlD_sound V ha' hb' hr).2, .bool _⟩
    · exact binD_sound ha' hb' h
  · cases h

theorem unD_sound {op : UnOp} {a r : Dat} {u : Value} (ha : VR S w a u) (h : unD op a = some r) : ∃ val, (Op.unary op u).run P w = .ok val w ∧ VR S w r val := by
  cases op <;> cases a <;> simp [unD] at h
  · subst h; obtain rfl := ha.intV; exact ⟨_, by simp [Op.unary, Op.intArith], .int _ _⟩
  · subst h; obtain rfl := ha.boolV; exact ⟨_, by simp [Op.unary], .bool _⟩

theorem convA_sound (V : Valid P C) {s t : TypeId} {a r : AV} {u : Value} (ha : AVR S w B a u) (h : convA C s t a = some r) : ∃ val, (convert s t u).run P w = .ok val w ∧ AVR S w B r val := by
  unfold convA at h
  split at h
  · rename_i y z k n h1 h2
    obtain rfl := ha.dV.intV
    split at h
    · rename_i hd1 hd2
      cases h
      have e1 := (V.ty _ _ h1).1
      have e2 := (V.ty _ _ h2).1
      rw [hd1] at e1; rw [hd2] at e2
      refine ⟨.int _ _, ?_, .d _ _ (.int _ _)⟩
      unfold convert
      rw [Sem.run_bind, run_underlying e1 w, Result.andThen_ok, Sem.run_bind, run_underlying e2 w, Result.andThen_ok]
      simp [Conv.intToInt]
    · cases h
  · rename_i y z s0 h1 h2
    obtain rfl := ha.dV.strV
    split at h
    · rename_i hd1 hd2
      cases h
      have e1 := (V.ty _ _ h1).1
      have e2 := (V.ty _ _ h2).1
      rw [hd1] at e1; rw [hd2] at e2
      refine ⟨.string _, ?_, .d _ _ (.str _)⟩
      unfold convert
      rw [Sem.run_bind, run_underlying e1 w, Result.andThen_ok, Sem.run_bind, run_underlying e2 w, Result.andThen_ok]
      rfl
    · cases h
  · cases h

theorem natOf_sound {a : AV} {n : Nat} {u : Value} (ha : AVR S w B a u) (h : natOf a = some n) : u = .int .i64 (n : Int) := by
  unfold natOf at h
  split at h
  · rename_i m
    split at h
    · rename_i h0
      cases h
      obtain rfl := ha.dV.intV
      congr 1; omega
    · cases h
  · cases h

/-- the bounds of a slice expression -/
theorem loHi_sound {n cap : Nat} {lo hi : Option AV} {lv hv : Option Value} (isS : Bool) (hlo : ∀ a, lo = some a → ∃ v, lv = some v ∧ AVR S w B a v) (hlo0 : lo = none → lv = none)
    (hhi : ∀ a, hi = some a → ∃ v, hv = some v ∧ AVR S w B a v) (hhi0 : hi = none → hv = none) (hc : n ≤ cap) {l h : Nat} (e : loHi n lo hi = some (l, h)) :
    l ≤ h ∧ h ≤ n ∧ (Instr.sliceBounds isS n cap lv hv none).run P w = .ok (l, h, cap) w := by
  unfold loHi at e
  split at e
  · rename_i l0 h0 e1 e2
    split at e
    · rename_i hle
      simp only [Option.some.injEq, Prod.mk.injEq] at e
      obtain ⟨rfl, rfl⟩ := e
      refine ⟨hle.1, hle.2, ?_⟩
      have sb : ∀ (m y : Nat) (code : BoundsCode), m ≤ y → (Instr.sliceBound (.int .i64 (m : Int)) y code).run P w = .ok m w := by
        intro m y code hm
        have := run_sliceBound (P := P) (w := w) .i64 (m : Int) y code (by omega) (by omega)
        simpa using this
      cases lo with
      | none =>
        have := hlo0 rfl; subst this
        simp at e1; subst e1
        cases hi with
        | none =>
          have := hhi0 rfl; subst this
          simp at e2; subst e2
          simp [Instr.sliceBounds]
        | some a =>
          obtain ⟨v, rfl, hv⟩ := hhi a rfl
          obtain rfl := natOf_sound hv e2
          simp [Instr.sliceBounds, sb _ _ _ (show h0 ≤ cap by omega)]
      | some b =>
        obtain ⟨v, rfl, hv⟩ := hlo b rfl
        obtain rfl := natOf_sound hv e1
        cases hi with
        | none =>
          have := hhi0 rfl; subst this
          simp at e2; subst e2
          simp [Instr.sliceBounds, sb _ _ _ hle.1]
        | some a =>
          obtain ⟨v, rfl, hv⟩ := hhi a rfl
          obtain rfl := natOf_sound hv e2
          simp [Instr.sliceBounds, sb _ _ _ (show h0 ≤ cap by omega), sb _ _ _ hle.1]
    · cases e
  · cases e

end
end Go.Jv
