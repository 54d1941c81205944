/- The operations that only reckon. -/
import Derived.Test.YtdcpfmjnkcodiaaDoorA2
import Derived.Lib.ConvBytes
import Derived.Lib.Bytes
import Derived.Laws.Slices
import Derived.Laws.OwnMore
import Derived.Great.BuildSlice
namespace Go.Jv
section
variable {P : Program} {C : Cfg} {S0 : Nat → Prop} {L0 : Lz} {w0 : World} {S : Nat → Prop} {B : Nat → Option Pl} {H : Hs} {F : Nat → Prop} {nx : Nat} {w : World}
theorem VR.intV {k : IntKind} {n : Int} {v : Value} (h : VR S w (.int k n) v) : v = .int k n := by cases h; rfl
theorem VR.boolV {b : Bool} {v : Value} (h : VR S w (.bool b) v) : v = .bool b := by cases h; rfl
theorem VR.strV {s : ByteArray} {v : Value} (h : VR S w (.str s) v) : v = .string s := by cases h; rfl
theorem AVR.dV {x : Dat} {v : Value} (h : AVR S w B (.d x) v) : VR S w x v := by cases h; assumption
theorem toList_eq (s : ByteArray) : s.toList = s.data.toList := by
 exact Go.Lib.toList_data s
theorem str_beq (a b : ByteArray) : (a.toList == b.toList) = decide (a = b) := by
 rw [toList_eq, toList_eq, Bool.eq_iff_iff]
 simp only [beq_iff_eq, decide_eq_true_eq]
 constructor
 ·intro h
  cases a; cases b
  congr 1
  exact Array.toList_inj.1 h
 ·rintro rfl; rfl
theorem binD_sound {op : BinOp} {t : TypeId} {x y : Operand} {a b r : Dat} {u v : Value} (ha : VR S w a u) (hb : VR S w b v) (h : binD op a b = some r) :
  ∃ val, (do eqGuard op t x y u v; binOp op t u v : Sem Value).run P w = .ok val w ∧ VR S w r val := by
 cases a <;> cases b <;> try (simp [binD] at h; done)
 case int.int k m k' n =>
  obtain rfl := ha.intV
  obtain rfl := hb.intV
  have hg : ∀ op, (eqGuard op t x y (.int k m) (.int k' n)).run P w = .ok () w := by intro op; unfold eqGuard; cases op <;> rfl
  rw [Sem.run_bind, hg, Result.andThen_ok]
  simp only [binD] at h
  cases op <;> simp only at h
  case shl =>
   split at h
   ·cases h
   ·rename_i hn; cases h; exact ⟨_, by simp [binOp, Op.shift, hn], .int _ _⟩
  case shr =>
   split at h
   ·cases h
   ·rename_i hn; cases h; exact ⟨_, by simp [binOp, Op.shift, hn], .int _ _⟩
  case quo =>
   split at h
   ·rename_i hk; subst hk; simp only [binI] at h
    split at h
    ·cases h
    ·rename_i hn; cases h; exact ⟨_, by simp [binOp, Op.intDiv, hn], .int _ _⟩
   ·cases h
  case rem =>
   split at h
   ·rename_i hk; subst hk; simp only [binI] at h
    split at h
    ·cases h
    ·rename_i hn; cases h; exact ⟨_, by simp [binOp, Op.intDiv, hn], .int _ _⟩
   ·cases h
  all_goals
   split at h
   ·rename_i hk; subst hk
    simp only [binI, Option.some.injEq, reduceCtorEq] at h
    try (subst h)
    first
     | exact ⟨_, by simp [binOp, Op.intArith, Op.intCmp, Op.intBits]; rfl, .int _ _⟩
     | exact ⟨_, by simp [binOp, Op.intArith, Op.intCmp, Op.intBits], .int _ _⟩
     | (refine ⟨_, by simp [binOp, Op.intArith, Op.intCmp, Op.intBits]; rfl, ?_⟩; exact .bool _)
     | (refine ⟨.bool _, ?_, .bool _⟩; simp [binOp, Op.intArith, Op.intCmp, Op.intBits, bne, BEq.beq])
     | (refine ⟨.bool _, ?_, .bool _⟩; simp [binOp, Op.intArith, Op.intCmp, Op.intBits])
   ·cases h
 case str.str m n =>
  obtain rfl := ha.strV
  obtain rfl := hb.strV
  have hg : ∀ op, (eqGuard op t x y (.string m) (.string n)).run P w = .ok () w := by intro op; unfold eqGuard; cases op <;> rfl
  rw [Sem.run_bind, hg, Result.andThen_ok]
  simp only [binD] at h
  cases op <;> simp only [reduceCtorEq] at h
  case add =>
   split at h
   ·rename_i hle
    cases h
    refine ⟨.string (m ++ n), ?_, .str _⟩
    have : ¬ (((m.size + n.size : Nat) : Int) > IntKind.i64.max) := by
     have : IntKind.i64.max = 9223372036854775807 := by rfl
     omega
    simp only [binOp, Op.stringOp]
    rw [if_neg this]
    rfl
   ·cases h
  case eql => cases h; exact ⟨.bool _, by simp [binOp, Op.stringOp, str_beq], .bool _⟩
  case neq => cases h; exact ⟨.bool _, by simp [binOp, Op.stringOp, str_beq], .bool _⟩
  case lss => cases h; exact ⟨.bool _, by simp [binOp, Op.stringOp], .bool _⟩
  case geq => cases h; exact ⟨.bool _, by simp [binOp, Op.stringOp], .bool _⟩
theorem eqlD_sound (V : Valid P C) {t : TypeId} {x y : Operand} {a b : Dat} {u v : Value} {r : Bool} (ha : VR S w a u) (hb : VR S w b v) (h : eqlD C t a b = some r) :
  (do eqGuard .eql t x y u v; binOp .eql t u v : Sem Value).run P w = .ok (.bool r) w ∧ (do eqGuard .neq t x y u v; binOp .neq t u v : Sem Value).run P w = .ok (.bool (!r)) w := by
 unfold eqlD at h
 cases hy : C.ty t with
 | none => simp [hy] at h
 | some i =>
  have hu := (V.ty t i hy).1
  cases a <;> cases b <;> simp only [hy, reduceCtorEq] at h
  case bool.bool m n =>
   split at h
   ·rename_i hd
    cases h
    obtain rfl := ha.boolV
    obtain rfl := hb.boolV
    rw [hd] at hu
    have hg : ∀ op, (eqGuard op t x y (.bool m) (.bool n)).run P w = .ok () w := by intro op; unfold eqGuard; cases op <;> rfl
    have he : (Op.equal t (.bool m) (.bool n)).run P w = .ok (decide (m = n)) w := by
     unfold Op.equal
     obtain ⟨md, hmd⟩ : ∃ md, Op.maxDepth = md + 1 := ⟨9999, rfl⟩
     rw [hmd]
     simp only [Op.equalIn, Sem.run_bind, run_underlying hu w, Result.andThen_ok]
     simp [BEq.beq]
    refine ⟨?_, ?_⟩ <;> rw [Sem.run_bind, hg, Result.andThen_ok] <;> simp [binOp, he]
   ·cases h
  case agg.agg xs ys =>
   split at h
   ·rename_i hd
    split at h
    ·rename_i qs he
     cases ha with
     | agg _ us hl ho hv =>
      cases hb with
      | agg _ vs hl' ho' hv' =>
       have flat : ∀ (ds : List Dat) (qs : List Nat) (es : List Dat) (r : Bool), eqAll qs ds es = some r → ∀ (j : Nat) (c : Dat), (ds[j]? = some c ∨ es[j]? = some c) → ∀ (S' : Nat → Prop) (w' : World) (u : Value), VR S w c u → VR S' w' c u := by
        intro ds
        induction ds with
        | nil => intro qs es r h j c hj; cases qs <;> cases es <;> simp [eqAll] at h hj
        | cons d ds ih =>
         intro qs es r h j c hj S' w' u hu
         match qs, es with
         | [], _ => simp [eqAll] at h
         | _ :: _, [] => simp [eqAll] at h
         | q :: qs, e :: es =>
          simp only [eqAll] at h
          split at h
          ·rename_i r1 r2 h1 h2
           match j with
           | 0 =>
            have hc : c = d ∨ c = e := by simpa [eq_comm] using hj
            unfold eqD at h1; split at h1 <;> first | (cases h1; done) | (rcases hc with rfl | rfl <;> cases hu <;> constructor)
           | j + 1 => exact ih qs es r2 h2 j c (by simpa using hj) S' w' u hu
          ·cases h
       have e := V.eqs t qs i he hy hd us vs xs ys r w x y h
        (fun S' w' => .agg xs us hl ho (fun j c u hj hu => flat xs qs ys r h j c (.inl hj) S' w' u (hv j c u hj hu)))
        (fun S' w' => .agg ys vs hl' ho' (fun j c u hj hu => flat xs qs ys r h j c (.inr hj) S' w' u (hv' j c u hj hu)))
       exact e
    ·cases h
   ·cases h
theorem binA_sound (V : Valid P C) {op : BinOp} {t : TypeId} {x y : Operand} {a b : AV} {r : Dat} {u v : Value} (ha : AVR S w B a u) (hb : AVR S w B b v) (h : binA C op t a b = some r) :
  ∃ val, (do eqGuard op t x y u v; binOp op t u v : Sem Value).run P w = .ok val w ∧ VR S w r val := by
 unfold binA at h
 split at h
 ·rename_i a0 b0 h1 h2
  have ha' := datA_sound ha h1
  have hb' := datA_sound hb h2
  split at h
  ·split at h
   ·rename_i r0 hr; cases h; exact binD_sound ha' hb' hr
   ·obtain ⟨r0, hr, rfl⟩ := Option.map_eq_some_iff.1 h
    exact ⟨_, (eqlD_sound V ha' hb' hr).1, .bool _⟩
  ·split at h
   ·rename_i r0 hr; cases h; exact binD_sound ha' hb' hr
   ·obtain ⟨r0, hr, rfl⟩ := Option.map_eq_some_iff.1 h
    exact ⟨_, (eqlD_sound V ha' hb' hr).2, .bool _⟩
  ·exact binD_sound ha' hb' h
 ·cases h
theorem unD_sound {op : UnOp} {a r : Dat} {u : Value} (ha : VR S w a u) (h : unD op a = some r) : ∃ val, (Op.unary op u).run P w = .ok val w ∧ VR S w r val := by
 cases op <;> cases a <;> simp [unD] at h
 ·subst h; obtain rfl := ha.intV; exact ⟨_, by simp [Op.unary, Op.intArith], .int _ _⟩
 ·subst h; obtain rfl := ha.boolV; exact ⟨_, by simp [Op.unary], .bool _⟩
theorem convA_sound (V : Valid P C) {s t : TypeId} {a r : AV} {u : Value} (ha : AVR S w B a u) (h : convA C s t a = some r) : ∃ val, (convert s t u).run P w = .ok val w ∧ AVR S w B r val := by
 unfold convA at h
 split at h
 ·rename_i y z k n h1 h2
  obtain rfl := ha.dV.intV
  split at h
  ·rename_i hd1 hd2
   cases h
   have e1 := (V.ty _ _ h1).1
   have e2 := (V.ty _ _ h2).1
   rw [hd1] at e1; rw [hd2] at e2
   refine ⟨.int _ _, ?_, .d _ _ (.int _ _)⟩
   unfold convert
   rw [Sem.run_bind, run_underlying e1 w, Result.andThen_ok, Sem.run_bind, run_underlying e2 w, Result.andThen_ok]
   simp [Conv.intToInt]
  ·cases h
 ·rename_i y z s0 h1 h2
  obtain rfl := ha.dV.strV
  split at h
  ·rename_i hd1 hd2
   cases h
   have e1 := (V.ty _ _ h1).1
   have e2 := (V.ty _ _ h2).1
   rw [hd1] at e1; rw [hd2] at e2
   refine ⟨.string _, ?_, .d _ _ (.str _)⟩
   unfold convert
   rw [Sem.run_bind, run_underlying e1 w, Result.andThen_ok, Sem.run_bind, run_underlying e2 w, Result.andThen_ok]
   rfl
  ·cases h
 ·cases h
theorem natOf_sound {a : AV} {n : Nat} {u : Value} (ha : AVR S w B a u) (h : natOf a = some n) : u = .int .i64 (n : Int) := by
 unfold natOf at h
 split at h
 ·rename_i m
  split at h
  ·rename_i h0
   cases h
   obtain rfl := ha.dV.intV
   congr 1; omega
  ·cases h
 ·cases h
theorem loHi_sound {n cap : Nat} {lo hi : Option AV} {lv hv : Option Value} (isS : Bool) (hlo : ∀ a, lo = some a → ∃ v, lv = some v ∧ AVR S w B a v) (hlo0 : lo = none → lv = none)
  (hhi : ∀ a, hi = some a → ∃ v, hv = some v ∧ AVR S w B a v) (hhi0 : hi = none → hv = none) (hc : n ≤ cap) {l h : Nat} (e : loHi n lo hi = some (l, h)) :
  l ≤ h ∧ h ≤ n ∧ (Instr.sliceBounds isS n cap lv hv none).run P w = .ok (l, h, cap) w := by
 unfold loHi at e
 split at e
 ·rename_i l0 h0 e1 e2
  split at e
  ·rename_i hle
   simp only [Option.some.injEq, Prod.mk.injEq] at e
   obtain ⟨rfl, rfl⟩ := e
   refine ⟨hle.1, hle.2, ?_⟩
   have sb : ∀ (m y : Nat) (code : BoundsCode), m ≤ y → (Instr.sliceBound (.int .i64 (m : Int)) y code).run P w = .ok m w := by
    intro m y code hm
    have := run_sliceBound (P := P) (w := w) .i64 (m : Int) y code (by omega) (by omega)
    simpa using this
   cases lo with
   | none =>
    have := hlo0 rfl; subst this
    simp at e1; subst e1
    cases hi with
    | none =>
     have := hhi0 rfl; subst this
     simp at e2; subst e2
     simp [Instr.sliceBounds]
    | some a =>
     obtain ⟨v, rfl, hv⟩ := hhi a rfl
     obtain rfl := natOf_sound hv e2
     simp [Instr.sliceBounds, sb _ _ _ (show h0 ≤ cap by omega)]
   | some b =>
    obtain ⟨v, rfl, hv⟩ := hlo b rfl
    obtain rfl := natOf_sound hv e1
    cases hi with
    | none =>
     have := hhi0 rfl; subst this
     simp at e2; subst e2
     simp [Instr.sliceBounds, sb _ _ _ hle.1]
    | some a =>
     obtain ⟨v, rfl, hv⟩ := hhi a rfl
     obtain rfl := natOf_sound hv e2
     simp [Instr.sliceBounds, sb _ _ _ (show h0 ≤ cap by omega), sb _ _ _ hle.1]
  ·cases e
 ·cases e
end
end Go.Jv
namespace Go.Jv
section
variable {P : Program} {C : Cfg} {S0 : Nat → Prop} {L0 : Lz} {w0 : World} {S : Nat → Prop} {B : Nat → Option Pl} {H : Hs} {F : Nat → Prop} {nx : Nat} {w : World}
theorem run_sizeT (V : Valid P C) {t : TypeId} {n : Nat} (h : sizeT C t = some n) (w : World) : (sizeOf t).run P w = .ok n w := by
 unfold sizeT at h
 obtain ⟨y, hy, rfl⟩ := Option.map_eq_some_iff.1 h
 obtain ⟨_, i, z, hi, hs, _⟩ := V.ty t y hy
 simp [sizeOf, typeInfo, hi, hs]
theorem szIs_sound (hM : Mem C S0 L0 w0 S B H F w) {id : Nat} {n : Option Nat} (h : szIs (H id) n = true) : ∃ z, n = some z ∧ ∀ p, B id = some p → z = p.sz := by
 have hh := hM.homes id
 unfold szIs at h
 split at h
 ·rename_i r m hr
  simp only [decide_eq_true_eq] at h
  subst h
  refine ⟨_, rfl, fun p hp => ?_⟩
  cases hH : H id with
  | own y xs =>
   rw [hH] at hr hh
   simp [szOf] at hr
   subst hr
   cases hh with
   | own _ q _ _ hq _ _ => rw [hq] at hp; cases hp; rfl
   | ownz _ hn => rw [hn] at hp; cases hp
  | imm y xs =>
   rw [hH] at hr hh
   simp [szOf] at hr
   subst hr
   cases hh with
   | imm _ q _ _ _ hq _ _ _ => rw [hq] at hp; cases hp; rfl
   | immz _ hn => rw [hn] at hp; cases hp
  | _ => rw [hH] at hr; simp [szOf] at hr
 ·cases h
theorem run_sliceAt_of (V : Valid P C) {t e : TypeId} {y : Ty} (hy : C.ty t = some y) (hd : y.desc = .slice e) (x : Value) (lo hi : Option Value) : (Instr.sliceAt t x lo hi none).run P w = (Instr.slice t x lo hi none).run P w := by
 have hu := (V.ty t y hy).1
 rw [hd] at hu
 unfold Instr.sliceAt
 rw [Sem.run_bind, run_underlying hu w, Result.andThen_ok]
theorem run_slice_of (V : Valid P C) {t e : TypeId} {y : Ty} (hy : C.ty t = some y) (hd : y.desc = .slice e) {a : Option Addr} {n cap l h z : Nat} {lo hi : Option Value} (hb : (Instr.sliceBounds true n cap lo hi none).run P w = .ok (l, h, cap) w) (hz : (sizeOf e).run P w = .ok z w) :
  (Instr.sliceAt t (.slice a n cap) lo hi none).run P w = .ok (.slice (if cap = l then a else a.map (·.add (l * z))) (h - l) (cap - l)) w := by
 rw [run_sliceAt_of V hy hd]
 have hu := (V.ty t y hy).1
 rw [hd] at hu
 unfold Instr.slice
 rw [Sem.run_bind, run_underlying hu w, Result.andThen_ok]
 simp [hb, hz]
theorem sliceA_sound (V : Valid P C) (hM : Mem C S0 L0 w0 S B H F w) {t : TypeId} {x r : AV} {v : Value} {lo hi : Option AV} {lv hv : Option Value} (hx : AVR S w B x v)
  (hlo : ∀ a, lo = some a → ∃ v, lv = some v ∧ AVR S w B a v) (hlo0 : lo = none → lv = none) (hhi : ∀ a, hi = some a → ∃ v, hv = some v ∧ AVR S w B a v) (hhi0 : hi = none → hv = none)
  (h : sliceA C H t x lo hi false = some r) : ∃ val, (Instr.sliceAt t v lv hv none).run P w = .ok val w ∧ AVR S w B r val := by
 unfold sliceA at h
 simp only [Bool.false_eq_true, if_false] at h
 cases hy : C.ty t with
 | none => simp [hy] at h
 | some y =>
  simp only [hy] at h
  have hu := (V.ty t y hy).1
  split at h
  ·rename_i s hd
   obtain rfl := hx.dV.strV
   obtain ⟨⟨l, h'⟩, e, rfl⟩ := Option.map_eq_some_iff.1 h
   obtain ⟨h1, h2, hb⟩ := loHi_sound (P := P) (w := w) (S := S) (B := B) false hlo hlo0 hhi hhi0 (Nat.le_refl s.size) e
   rw [hd] at hu
   refine ⟨.string (s.extract l h'), ?_, .d _ _ (.str _)⟩
   unfold Instr.sliceAt
   rw [Sem.run_bind, run_underlying hu w, Result.andThen_ok]
   simp only
   unfold Instr.slice
   rw [Sem.run_bind, run_underlying hu w, Result.andThen_ok]
   simp [hb]
  ·rename_i el id a b hd
   split at h
   ·rename_i hz
    obtain ⟨⟨l, h'⟩, e, rfl⟩ := Option.map_eq_some_iff.1 h
    obtain ⟨z, hsz, hzp⟩ := szIs_sound hM hz
    have hrz := run_sizeT V hsz w
    cases hx with
    | slz =>
     obtain ⟨g1, g2, hb⟩ := loHi_sound (P := P) (w := w) (S := S) (B := B) true hlo hlo0 hhi hhi0 (Nat.le_refl 0) e
     obtain rfl : h' = 0 := by omega
     obtain rfl : l = 0 := by omega
     exact ⟨_, run_slice_of V hy hd hb hrz, by simpa using AVR.slz id⟩
    | sl _ _ _ p hp k1 k2 k3 km =>
     obtain ⟨g1, g2, hb⟩ := loHi_sound (P := P) (w := w) (S := S) (B := B) true hlo hlo0 hhi hhi0 (show b - a ≤ p.cap - a by omega) e
     obtain rfl := hzp p hp
     refine ⟨_, run_slice_of V hy hd hb hrz, ?_⟩
     by_cases hc : p.cap - a = l
     ·rw [if_pos hc]
      have hl : h' = l := by omega
      subst hl
      by_cases h0 : a + h' = 0
      ·have ha : a = 0 := by omega
       have hh : h' = 0 := by omega
       subst ha; subst hh
       have := AVR.sl (S := S) (w := w) (B := B) id 0 0 p hp (Nat.le_refl _) (Nat.zero_le _) (.inl rfl) km
       simpa using this
      ·have := AVR.sle (S := S) (w := w) (B := B) id (a + h') (a * p.sz) (p.cap - a - h') p hp (by omega) (by omega)
       simpa using this
     ·rw [if_neg hc]
      have := AVR.sl (S := S) (w := w) (B := B) id (a + l) (a + h') p hp (by omega) (by omega) (.inr (by omega)) km
      have e1 : a + h' - (a + l) = h' - l := by omega
      have e2 : p.cap - (a + l) = p.cap - a - l := by omega
      rw [e1, e2, Nat.add_mul] at this
      simpa [Addr.add_mid] using this
    | sle _ _ off c p hp k1 km =>
     obtain ⟨g1, g2, hb⟩ := loHi_sound (P := P) (w := w) (S := S) (B := B) true hlo hlo0 hhi hhi0 (show a - a ≤ c by omega) e
     obtain rfl : h' = 0 := by omega
     obtain rfl : l = 0 := by omega
     have hb' : (Instr.sliceBounds true 0 c lv hv none).run P w = .ok (0, 0, c) w := by simpa using hb
     refine ⟨_, run_slice_of V hy hd hb' hrz, ?_⟩
     have := AVR.sle (S := S) (w := w) (B := B) id a off c p hp k1 km
     by_cases hc : c = 0
     ·simpa [hc] using this
     ·simpa [hc, Addr.add_mid] using this
   ·cases h
  ·rename_i el hd
   split at h
   ·rename_i hsome
    obtain ⟨z, hz⟩ := Option.isSome_iff_exists.1 hsome
    obtain ⟨⟨l, h'⟩, e, rfl⟩ := Option.map_eq_some_iff.1 h
    cases hx
    obtain ⟨g1, g2, hb⟩ := loHi_sound (P := P) (w := w) (S := S) (B := B) true hlo hlo0 hhi hhi0 (Nat.le_refl 0) e
    obtain rfl : h' = 0 := by omega
    obtain rfl : l = 0 := by omega
    exact ⟨_, run_slice_of V hy hd hb (run_sizeT V hz w), by simpa using AVR.nil⟩
   ·cases h
  ·rename_i el xs hd
   split at h
   ·rename_i l h' z e hz
    split at h
    ·rename_i hall
     cases h
     have hrz := run_sizeT V hz w
     cases hx with
     | d _ _ hx =>
      cases hx with
      | nil =>
       obtain ⟨g1, g2, hb⟩ := loHi_sound (P := P) (w := w) (S := S) (B := B) true hlo hlo0 hhi hhi0 (Nat.le_refl 0) e
       obtain rfl : h' = 0 := by omega
       obtain rfl : l = 0 := by omega
       exact ⟨_, run_slice_of V hy hd hb hrz, by simpa [win] using AVR.d _ _ VR.nil⟩
      | emp a cap hm =>
       obtain ⟨g1, g2, hb⟩ := loHi_sound (P := P) (w := w) (S := S) (B := B) (cap := cap) true hlo hlo0 hhi hhi0 (Nat.zero_le _) e
       obtain rfl : h' = 0 := by omega
       obtain rfl : l = 0 := by omega
       refine ⟨_, run_slice_of V hy hd hb hrz, ?_⟩
       have : ∃ a' : Addr, (if cap = 0 then some a else (some a).map (·.add (0 * z))) = some a' := by split <;> exact ⟨_, rfl⟩
       obtain ⟨a', ha'⟩ := this
       rw [ha']
       exact .d _ _ (.emp a' cap hm)
      | lst _ b off cap sz us hS hl hm hzz hc ho hv =>
       obtain ⟨g1, g2, hb⟩ := loHi_sound (P := P) (w := w) (S := S) (B := B) true hlo hlo0 hhi hhi0 hl e
       refine ⟨_, run_slice_of V hy hd hb hrz, ?_⟩
       have hwl := win_length g1 g2
       have hoff : ∃ off', (if cap = l then some (⟨b, off, none⟩ : Addr) else (some (⟨b, off, none⟩ : Addr)).map (·.add (l * z))) = some ⟨b, off', none⟩ ∧ (off' = off + l * sz ∨ l = h') := by
        by_cases hcl : cap = l
        ·exact ⟨off, by simp [hcl], .inr (by omega)⟩
        ·refine ⟨off + l * z, by simp [hcl, Addr.add_mid], ?_⟩
         by_cases hl0 : l = 0
         ·left; subst hl0; omega
         ·rcases hall with hall | hall
          ·exact absurd hall hl0
          ·left
           have h0 : 0 < xs.length := by omega
           have hx0 : xs[0]? = some xs[0] := List.getElem?_eq_getElem h0
           have e1 := hzz 0 _ hx0
           have e2 : xs[0].cells.length = z := by simpa using (List.all_eq_true.1 hall) xs[0] (List.getElem_mem h0)
           rw [← e1, e2]
       obtain ⟨off', ho1, ho2⟩ := hoff
       rw [ho1, ← hwl]
       refine .d _ _ (.lst (win xs l h') b off' (cap - l) sz (fun i j => us (l + i) j) hS (by omega) (by omega) ?_ ?_ ?_ ?_)
       ·intro i x hx; exact hzz _ x (win_get hx).1
       ·intro i j hi hj
        have hlt : i < h' - l := by omega
        have e1 : off' = off + l * sz := by rcases ho2 with h | h <;> omega
        have := hc (l + i) j (by omega) hj
        rw [← this, e1]
        congr 2
        rw [Nat.add_mul]; omega
       ·intro i j hi hj; exact ho _ _ (by omega) hj
       ·intro i x j c hx hj; exact hv _ x j c (win_get hx).1 hj
    ·cases h
   ·cases h
  ·cases h
theorem run_indexAt_slice (V : Valid P C) {t e : TypeId} {y : Ty} (hy : C.ty t = some y) (hd : y.desc = .slice e) {z : Nat} (hz : sizeT C e = some z) {b o n cap : Nat} {k : IntKind} {i : Int} (h0 : 0 ≤ i) (h1 : i < n) :
  (Instr.indexAt t (.slice (some ⟨b, o, none⟩) n cap) (.int k i)).run P w = .ok (.pointer (some ⟨b, o + i.toNat * z, none⟩)) w := by
 have hu := (V.ty t y hy).1
 rw [hd] at hu
 unfold Instr.indexAt
 simp only [asIntOf, pure_bind, Sem.run_bind, run_underlying hu w, Result.andThen_ok]
 simp [h0, h1, run_sizeT V hz, Addr.add_mid]
theorem run_indexAt_array (V : Valid P C) {t e : TypeId} {y : Ty} {n : Nat} (hy : C.ty t = some y) (hd : y.desc = .array n e) {z : Nat} (hz : sizeT C e = some z) {b o : Nat} {k : IntKind} {i : Int} (h0 : 0 ≤ i) (h1 : i < n) :
  (Instr.indexAt t (.pointer (some ⟨b, o, none⟩)) (.int k i)).run P w = .ok (.pointer (some ⟨b, o + i.toNat * z, none⟩)) w := by
 have hu := (V.ty t y hy).1
 rw [hd] at hu
 unfold Instr.indexAt
 simp only [asIntOf, pure_bind, Sem.run_bind, run_underlying hu w, Result.andThen_ok]
 simp [h0, h1, run_sizeT V hz, Addr.add_mid, Instr.sureAddr, run_underlying hu w]
theorem intOfA_sound {a : AV} {n : Int} {u : Value} (ha : AVR S w B a u) (h : intOfA a = some n) : ∃ k, u = .int k n := by
 unfold intOfA at h
 split at h
 ·rename_i k m; cases h; exact ⟨k, ha.dV.intV⟩
 ·cases h
theorem VR.ptrDrop {cs : List Dat} {b off : Nat} (h : VR S w (.ptr cs) (.pointer (some ⟨b, off, none⟩))) (k : Nat) : VR S w (.ptr (cs.drop k)) (.pointer (some ⟨b, off + k, none⟩)) := by
 cases h with
 | ptr _ _ _ us hS hc ho hv =>
  refine .ptr _ b (off + k) (fun j => us (k + j)) hS (fun j hj => ?_) (fun j hj => ?_) (fun j c hj => ?_)
  ·rw [← hc (k + j) (by simp at hj; omega), Nat.add_assoc]
  ·exact ho _ (by simp at hj; omega)
  ·exact hv _ c (by simpa [List.getElem?_drop] using hj)
theorem indexAddrA_sound (V : Valid P C) (hM : Mem C S0 L0 w0 S B H F w) {t : TypeId} {x i r : AV} {v iv : Value} (hx : AVR S w B x v) (hi : AVR S w B i iv) (h : indexAddrA C H t x i = some r) :
  ∃ val, (Instr.indexAt t v iv).run P w = .ok val w ∧ AVR S w B r val := by
 unfold indexAddrA at h
 cases hn : intOfA i with
 | none => simp [hn] at h
 | some n =>
  simp only [hn] at h
  obtain ⟨k, rfl⟩ := intOfA_sound hi hn
  split at h
  ·cases h
  ·rename_i hneg
   have h0 : 0 ≤ n := by omega
   cases he : elemT C t with
   | some el =>
    simp only [he] at h
    obtain ⟨y, hy, hd⟩ : ∃ y, C.ty t = some y ∧ y.desc = .slice el := by
     unfold elemT at he
     cases hy : C.ty t with
     | none => simp [hy] at he
     | some y => simp only [hy] at he; split at he <;> simp_all
    split at h
    ·rename_i id lo hi'
     split at h
     ·rename_i hc
      cases h
      obtain ⟨z, hsz, hzp⟩ := szIs_sound hM hc.2
      cases hx with
      | slz => have := hc.1; omega
      | sl _ _ _ p hp k1 k2 k3 km =>
       obtain rfl := hzp p hp
       refine ⟨_, run_indexAt_slice V hy hd hsz h0 hc.1, ?_⟩
       have := AVR.pe (S := S) (w := w) (B := B) id (lo + n.toNat) 0 p hp
       rw [Nat.add_mul, Nat.add_zero] at this
       exact this
      | sle => have := hc.1; omega
     ·cases h
    ·rename_i xs
     split at h
     ·rename_i y1 hy1
      split at h
      ·rename_i hz
       cases h
       have hlt : n.toNat < xs.length := (List.getElem?_eq_some_iff.1 hy1).1
       cases hx with
       | d _ _ hx =>
        cases hx with
        | nil => simp at hy1
        | emp => simp at hy1
        | lst _ b off cap sz us hS hl hm hzz hc ho hv =>
         refine ⟨_, run_indexAt_slice V hy hd hz h0 (by omega), ?_⟩
         have e1 := hzz _ _ hy1
         refine .d _ _ (.ptr y1.cells b _ (fun j => us n.toNat j) hS (fun j hj => ?_) (fun j hj => ho _ _ hlt (by omega)) (fun j c hj => hv _ y1 j c hy1 hj))
         rw [← hc n.toNat j hlt (by omega), e1, Nat.add_assoc]
      ·cases h
     ·cases h
    ·cases h
   | none =>
    simp only [he] at h
    cases ha : arrT C t with
    | none => simp [ha] at h
    | some r0 =>
     obtain ⟨len, e⟩ := r0
     simp only [ha] at h
     obtain ⟨y, hy, hd⟩ : ∃ y, C.ty t = some y ∧ y.desc = .array len e := by
      unfold arrT at ha
      cases hy : C.ty t with
      | none => simp [hy] at ha
      | some y => simp only [hy] at ha; split at ha <;> simp_all
     split at h
     ·rename_i z hz
      split at h
      ·rename_i hlt
       split at h
       ·rename_i id off
        cases h
        cases hx with
        | pt _ _ p hp => exact ⟨_, run_indexAt_array V hy hd hz h0 hlt, .pt id _ p hp⟩
       ·rename_i id i' j
        cases h
        cases hx with
        | pe _ _ _ p hp =>
         refine ⟨_, run_indexAt_array V hy hd hz h0 hlt, ?_⟩
         have := AVR.pe (S := S) (w := w) (B := B) id i' (j + n.toNat * z) p hp
         rwa [← Nat.add_assoc] at this
       ·rename_i cs
        cases h
        cases hx with
        | d _ _ hx =>
         cases hx with
         | ptr _ b off us hS hc ho hv =>
          exact ⟨_, run_indexAt_array V hy hd hz h0 hlt, .d _ _ (VR.ptrDrop (.ptr cs b off us hS hc ho hv) _)⟩
       ·cases h
      ·cases h
     ·cases h
theorem run_part (V : Valid P C) {t : TypeId} {n : Nat} {g : Bool} (hn : sizeT C t = some n) (hg : aggT C t = some g) {vs : Array Value} {off : Nat} (hle : off + n ≤ vs.size) {u : Value} (hu : mkV g ((vs.toList.drop off).take n) = some u) :
  (part t vs off).run P w = .ok u w := by
 unfold aggT at hg
 obtain ⟨y, hy, hgy⟩ := Option.map_eq_some_iff.1 hg
 have hund := (V.ty t y hy).1
 have ha : (Go.isAgg t).run P w = .ok g w := by
  unfold Go.isAgg
  rw [Sem.run_bind, run_underlying hund w, Result.andThen_ok, ← hgy]
  cases y.desc <;> rfl
 unfold part
 rw [Sem.run_bind, ha, Result.andThen_ok]
 cases g with
 | true =>
  simp only [mkV, if_true] at hu
  cases hu
  simp only [if_true]
  simp [run_sizeT V hn]
  apply Array.ext'
  simp [Array.toList_extract]
 | false =>
  simp only [mkV] at hu
  simp only [Bool.false_eq_true, if_false]
  have hl : ((vs.toList.drop off).take n).length = n := by simp; omega
  match hm : (vs.toList.drop off).take n, hu with
  | [x], hu =>
   have e : x = u := by simpa using hu
   subst e
   have hn1 : n = 1 := by rw [hm] at hl; simpa using hl.symm
   subst hn1
   have hx : vs[off]? = some x := by
    have h1 : ((vs.toList.drop off).take 1)[0]? = some x := by rw [hm]; rfl
    simpa [List.getElem?_take, List.getElem?_drop] using h1
   rw [hx]; rfl
  | [], hu => simp at hu
  | _ :: _ :: _, hu => simp at hu
theorem part_sound (V : Valid P C) {t : TypeId} {n : Nat} {g : Bool} (hn : sizeT C t = some n) (hg : aggT C t = some g) {x r : AV} {v : Value} (hx : AVR S w B x v) {off : Nat}
  (h : partA x off n g = some r) :
  ∃ vs, v = .agg vs ∧ ∃ val, (part t vs off).run P w = .ok val w ∧ AVR S w B r val := by
 unfold partA at h
 cases x with
 | agg cs =>
  simp only at h
  cases hx with
  | agg _ vs hl ho hv =>
   obtain ⟨ds, hd, hmk⟩ := Option.bind_eq_some_iff.1 h
   have hC : CellsA S w B cs vs.toList := ⟨by simpa using hl, fun j c u hj hu => ⟨ho u (Array.mem_of_getElem? (by simpa using hu)), hv j c u hj (by simpa using hu)⟩⟩
   obtain ⟨hcut, hn', hle⟩ := hC.cut hd
   obtain ⟨u, hu, hR⟩ := hcut.mk hmk
   exact ⟨vs, rfl, u, run_part V hn hg (by omega) hu, hR⟩
 | d x0 =>
  cases x0 <;> simp only [reduceCtorEq] at h
  rename_i cs
  cases hx with
  | d _ _ hx =>
   cases hx with
   | agg _ vs hl ho hv =>
    obtain ⟨x', hx', rfl⟩ := Option.map_eq_some_iff.1 h
    obtain ⟨ds, hd, hmk⟩ := Option.bind_eq_some_iff.1 hx'
    have hC : CellsD S w cs vs.toList := ⟨by simpa using hl, fun j c u hj hu => ⟨ho u (Array.mem_of_getElem? (by simpa using hu)), hv j c u hj (by simpa using hu)⟩⟩
    obtain ⟨hcut, hn', hle⟩ := hC.cut hd
    obtain ⟨u, hu, hR⟩ := hcut.mk hmk
    exact ⟨vs, rfl, u, run_part V hn hg (by omega) hu, .d _ _ hR⟩
 | _ => simp at h
end
end Go.Jv
namespace Go.Jv
theorem foldl_put (off : Nat) : ∀ (l : List Value) (k : Nat) (cells : Array Value), off + k + l.length ≤ cells.size →
  ((l.zipIdx k).foldl (fun (cs : Array Value) (x : Value × Nat) => cs.setIfInBounds (off + x.2) x.1) cells).toList = putA cells.toList (off + k) l
 | [], k, cells, h => by
  simp only [List.zipIdx_nil, List.foldl_nil, putA, List.length_nil, Nat.add_zero, List.append_nil, List.take_append_drop]
 | v :: l, k, cells, h => by
  simp only [List.zipIdx_cons, List.foldl_cons]
  rw [foldl_put off l (k + 1) _ (by simp at h ⊢; omega)]
  have hs : off + k < cells.toList.length := by simp at h ⊢; omega
  simp only [List.length_cons] at h
  apply List.ext_getElem?
  intro j
  have e1 : (cells.setIfInBounds (off + k) v).toList = cells.toList.set (off + k) v := by simp
  rw [e1, putA_get _ (off + (k + 1)) l (by simp; omega), putA_get _ (off + k) (v :: l) (by simp; omega)]
  by_cases h1 : j < off + k
  ·rw [if_pos (by omega), if_pos h1, List.getElem?_set_ne (by omega)]
  ·rw [if_neg h1]
   by_cases h2 : j = off + k
   ·subst h2
    rw [if_pos (by omega), if_pos (by simp), List.getElem?_set_self hs]
    simp
   ·rw [if_neg (by omega)]
    by_cases h3 : j < off + (k + 1) + l.length
    ·rw [if_pos h3, if_pos (by simp; omega)]
     have : j - (off + k) = (j - (off + (k + 1))) + 1 := by omega
     rw [this, List.getElem?_cons_succ]
    ·rw [if_neg h3, if_neg (by simp; omega), List.getElem?_set_ne (by omega)]
theorem fold_put (off : Nat) (us cells : Array Value) (h : off + us.size ≤ cells.size) :
  (us.zipIdx.foldl (fun cs (x : Value × Nat) => cs.setIfInBounds (off + x.2) x.1) cells) = (putA cells.toList off us.toList).toArray := by
 have := foldl_put off us.toList 0 cells (by simpa using h)
 rw [Nat.add_zero] at this
 apply Array.ext'
 rw [← this, ← Array.foldl_toList, Array.toList_zipIdx]
section
variable {P : Program} {C : Cfg} {S0 : Nat → Prop} {L0 : Lz} {w0 : World} {S : Nat → Prop} {B : Nat → Option Pl} {H : Hs} {F : Nat → Prop} {nx : Nat} {w : World}
def PartsR (S : Nat → Prop) (w : World) (B : Nat → Option Pl) (as : List (Nat × AV)) (vs : List (Nat × Value)) : Prop :=
 as.length = vs.length ∧ ∀ (j : Nat) a v, as[j]? = some a → vs[j]? = some v → a.1 = v.1 ∧ AVR S w B a.2 v.2
theorem PartsR.tail {a : Nat × AV} {v : Nat × Value} {as : List (Nat × AV)} {vs : List (Nat × Value)} (h : PartsR S w B (a :: as) (v :: vs)) : a.1 = v.1 ∧ AVR S w B a.2 v.2 ∧ PartsR S w B as vs :=
 ⟨(h.2 0 a v rfl rfl).1, (h.2 0 a v rfl rfl).2, by simpa using h.1, fun j a' v' ha hv => h.2 (j + 1) a' v' (by simpa using ha) (by simpa using hv)⟩
theorem fillA_sound {placeA place : Nat → Option (Nat × Nat)} (hpl : ∀ i r, placeA i = some r → place i = some r) : ∀ (as : List (Nat × AV)) (vs : List (Nat × Value)) (cs cs' : List AV) (us : Array Value),
  PartsR S w B as vs → CellsA S w B cs us.toList → fillA okCells placeA cs as = some cs' → ∃ us' : Array Value, Instr.fill place us vs = some us' ∧ CellsA S w B cs' us'.toList
 | [], vs, cs, cs', us, hp, hc, h => by
  match vs, hp with
  | [], _ => simp [fillA] at h; subst h; exact ⟨us, rfl, hc⟩
  | _ :: _, hp => exact absurd hp.1 (by simp)
 | (i, a) :: as, vs, cs, cs', us, hp, hc, h => by
  match vs, hp with
  | [], hp => exact absurd hp.1 (by simp)
  | (i', v) :: vs, hp =>
   obtain ⟨e, hv, ht⟩ := hp.tail
   simp only at e hv
   subst e
   simp only [fillA] at h
   split at h
   ·rename_i off size new h1 h2
    split at h
    ·rename_i hcond
     obtain ⟨hk, rfl⟩ : a.cells.all okC = true ∧ a.cells = new := by
      unfold okCells at h2
      split at h2
      ·rename_i hk; cases h2; exact ⟨hk, rfl⟩
      ·cases h2
     have hcv := hv.cellsOk hk
     have hl := hc.1
     have hvl := hcv.1
     have hsz : v.cells.size = size := by simp at hvl; omega
     have hfit : off + v.cells.size ≤ us.size := by simp at hl; omega
     obtain ⟨us', h3, h4⟩ := fillA_sound hpl as vs _ cs' (putA us.toList off v.cells.toList).toArray ht (by simpa using hc.put hcv off (by omega)) h
     refine ⟨us', ?_, h4⟩
     simp only [Instr.fill, hpl _ _ h1]
     rw [if_neg (by simp; omega)]
     rw [← h3]
     congr 1
     exact fold_put off v.cells us hfit
    ·cases h
   ·cases h
theorem ZeroR.cells {y : Ty} {z : Value} (h : ZeroR y z) : CellsA S w B y.zero z.cells.toList := by
 obtain ⟨h1, h2, h3, h4, _⟩ := h
 refine ⟨by simp [h1, h2], fun j c u hj hu => ?_⟩
 have hu' : z.cells[j]? = some u := by simpa using hu
 obtain ⟨u', h5, h6⟩ := h4 j c hj
 rw [hu'] at h5; cases h5
 exact ⟨h3 u (Array.mem_of_getElem? hu'), h6 S w B⟩
theorem mapM_some {α β : Type} {f : α → Option β} : ∀ (l : List α), (∀ x ∈ l, (f x).isSome = true) → ∃ r, l.mapM f = some r ∧ ∀ (i : Nat) x y, l[i]? = some x → f x = some y → r[i]? = some y
 | [], _ => ⟨[], rfl, fun i x y h => by simp at h⟩
 | a :: l, h => by
  obtain ⟨b, hb⟩ := Option.isSome_iff_exists.1 (h a (by simp))
  obtain ⟨r, hr, hg⟩ := mapM_some l (fun x hx => h x (by simp [hx]))
  refine ⟨b :: r, by simp [List.mapM_cons, hb, hr], fun i x y hx hy => ?_⟩
  match i with
  | 0 => simp at hx; subst hx; rw [hb] at hy; simpa using hy
  | i + 1 => simpa using hg i x y (by simpa using hx) hy
theorem buildA_sound (V : Valid P C) {t : TypeId} {as : List (Nat × AV)} {vs : List (Nat × Value)} (hp : PartsR S w B as vs) {r : AV} (h : buildA C t as = some r) :
  ∃ val, (Instr.build t vs.toArray).run P w = .ok val w ∧ AVR S w B r val := by
 unfold buildA at h
 cases hy : C.ty t with
 | none => simp [hy] at h
 | some y =>
  simp only [hy] at h
  obtain ⟨hu, i, z, hi, hsz, _, hz, hzr⟩ := V.ty t y hy
  have mk : ∀ (cs' : List AV) (us' : Array Value), CellsA S w B cs' us'.toList → AVR S w B (.agg cs') (.agg us') := fun cs' us' hc =>
   .agg cs' us' (by simpa using hc.1) (fun u hu => hc.one u (by simpa using hu)) (fun j c u hj hu => (hc.2 j c u hj (by simpa using hu)).2)
  split at h
  ·rename_i fs hd
   obtain ⟨cs', h1, rfl⟩ := Option.map_eq_some_iff.1 h
   have hall := V.fields t y hy fs hd
   obtain ⟨places, hpl, hg⟩ := mapM_some (f := fun f : Field => (P.info? f.type).map fun i => (f.offset, i.size)) fs.toList (fun f hf => by simpa using hall f (by simpa using hf))
   obtain ⟨us', h2, h3⟩ := fillA_sound (S := S) (w := w) (B := B) (place := (places.toArray[·]?)) (fun k r hr => by
    split at hr
    ·rename_i f hf
     obtain ⟨n, hn, rfl⟩ := Option.map_eq_some_iff.1 hr
     have : (P.info? f.type).map (fun i => (f.offset, i.size)) = some (f.offset, n) := by
      unfold sizeT at hn
      obtain ⟨y', hy', rfl⟩ := Option.map_eq_some_iff.1 hn
      obtain ⟨_, i', _, hi', hs', _⟩ := V.ty _ _ hy'
      simp [hi', hs']
     simpa using hg k f _ (by simpa using hf) this
    ·cases hr) as vs y.zero cs' z.cells hp (ZeroR.cells hzr) h1
   refine ⟨.agg us', run_build w t vs.toArray us' ?_, mk _ _ h3⟩
   unfold Program.built
   rw [hi, hu, hd]
   simp only [hz, hpl]
   exact h2
  ·rename_i n e hd
   split at h
   ·rename_i n' hn'
    obtain ⟨cs', h1, rfl⟩ := Option.map_eq_some_iff.1 h
    unfold sizeT at hn'
    obtain ⟨y', hy', rfl⟩ := Option.map_eq_some_iff.1 hn'
    obtain ⟨_, i', _, hi', hs', _⟩ := V.ty _ _ hy'
    obtain ⟨us', h2, h3⟩ := fillA_sound (S := S) (w := w) (B := B) (place := fun k => some (k * i'.size, i'.size)) (fun k r hr => by rw [hs']; exact hr) as vs y.zero cs' z.cells hp (ZeroR.cells hzr) h1
    refine ⟨.agg us', run_build w t vs.toArray us' ?_, mk _ _ h3⟩
    unfold Program.built
    rw [hi, hu, hd]
    simp only [hz, hi']
    exact h2
   ·cases h
  ·cases h
def RowL (S : Nat → Prop) (w : World) (sz : Nat) (xs : List Dat) (us : List Value) : Prop :=
 us.length = xs.length * sz ∧ ∀ (i : Nat) x, xs[i]? = some x → x.cells.length = sz ∧ CellsD S w x.cells ((us.drop (i * sz)).take sz)
theorem RowL.rowR {p : Pl} {arr : Array Value} {xs : List Dat} (h : RowL S w p.sz xs arr.toList) (hc : p.cap = xs.length) (hm : p.cap ≤ maxLen) : RowR S w p arr xs := by
 refine ⟨by have := h.1; simp at this; rw [this, hc], by omega, hm, fun i x hx => (h.2 i x hx).1, fun i x j c hx hj => ?_⟩
 obtain ⟨hz, hC⟩ := h.2 i x hx
 have hjl : j < x.cells.length := (List.getElem?_eq_some_iff.1 hj).1
 have hjl' : j < ((arr.toList.drop (i * p.sz)).take p.sz).length := by rw [← hC.1]; exact hjl
 have hu := List.getElem?_eq_getElem hjl'
 have := hC.2 j c _ hj hu
 refine ⟨_, ?_, this.1, this.2⟩
 rw [List.getElem?_take, if_pos (by omega), List.getElem?_drop] at hu
 simp
theorem RowL.mono {S' : Nat → Prop} {w' : World} {sz : Nat} {xs : List Dat} {us : List Value} (h : RowL S w sz xs us) (hS : ∀ b, S b → S' b) (hw : Same S w w') : RowL S' w' sz xs us :=
 ⟨h.1, fun i x hx => ⟨(h.2 i x hx).1, (h.2 i x hx).2.mono hS hw⟩⟩
theorem RowL.set {sz : Nat} {xs : List Dat} {us : List Value} (h : RowL S w sz xs us) {i : Nat} (hi : i < xs.length) {y : Dat} {vs : List Value} (hy : CellsD S w y.cells vs) (hl : y.cells.length = sz) :
  RowL S w sz (xs.set i y) (putA us (i * sz) vs) := by
 have hvl : vs.length = sz := by rw [← hy.1, hl]
 have hle : i * sz + sz ≤ us.length := by rw [h.1, ← Nat.succ_mul]; exact Nat.mul_le_mul_right _ hi
 refine ⟨by rw [putA_length _ _ _ (by omega), h.1, List.length_set], fun k x hx => ?_⟩
 have hk : k < xs.length := by have := (List.getElem?_eq_some_iff.1 hx).1; simpa using this
 by_cases e : i = k
 ·subst e
  rw [List.getElem?_set_self hi] at hx
  cases hx
  refine ⟨hl, ?_⟩
  have : ((putA us (i * sz) vs).drop (i * sz)).take sz = vs := by
   apply List.ext_getElem?
   intro j
   rw [List.getElem?_take]
   split
   ·rw [List.getElem?_drop, putA_get _ _ _ (by omega), if_neg (by omega), if_pos (by omega)]; congr 1; omega
   ·rw [List.getElem?_eq_none (by omega)]
  rw [this]; exact hy
 ·rw [List.getElem?_set_ne e] at hx
  refine ⟨(h.2 k x hx).1, ?_⟩
  have : ((putA us (i * sz) vs).drop (k * sz)).take sz = (us.drop (k * sz)).take sz := by
   apply List.ext_getElem?
   intro j
   rw [List.getElem?_take, List.getElem?_take]
   split
   ·rename_i hj
    rw [List.getElem?_drop, List.getElem?_drop, putA_get _ _ _ (by omega)]
    rcases Nat.lt_or_gt_of_ne e with hlt | hlt
    ·have : (i + 1) * sz ≤ k * sz := Nat.mul_le_mul_right _ hlt
     rw [Nat.succ_mul] at this
     rw [if_neg (by omega), if_neg (by omega)]
    ·have : (k + 1) * sz ≤ i * sz := Nat.mul_le_mul_right _ hlt
     rw [Nat.succ_mul] at this
     rw [if_pos (by omega)]
   ·rfl
  rw [this]
  exact (h.2 k x hx).2
theorem partsD_sound {sz : Nat} : ∀ (as : List (Nat × AV)) (vs : List (Nat × Value)) {H : Hs} {S : Nat → Prop} {xs xs' : List Dat} {us : Array Value} {H1 : Hs},
  Mem C S0 L0 w0 S B H F w → PartsR S w B as vs → RowL S w sz xs us.toList → partsD sz H xs as = some (xs', H1) →
  ∃ (S1 : Nat → Prop) (us' : Array Value), Instr.fill (fun i => some (i * sz, sz)) us vs = some us' ∧ Mem C S0 L0 w0 S1 B H1 F w ∧ (∀ b, S b → S1 b) ∧ RowL S1 w sz xs' us'.toList ∧ xs'.length = xs.length
 | [], vs, H, S, xs, xs', us, H1, hM, hp, hr, h => by
  match vs, hp with
  | [], _ => simp [partsD] at h; obtain ⟨rfl, rfl⟩ := h; exact ⟨S, us, rfl, hM, fun _ h => h, hr, rfl⟩
  | _ :: _, hp => exact absurd hp.1 (by simp)
 | (i, a) :: as, vs, H, S, xs, xs', us, H1, hM, hp, hr, h => by
  match vs, hp with
  | [], hp => exact absurd hp.1 (by simp)
  | (i', v) :: vs, hp =>
   obtain ⟨e, hv, ht⟩ := hp.tail
   simp only at e hv
   subst e
   simp only [partsD] at h
   split at h
   ·rename_i x H2 h2
    split at h
    ·rename_i hc
     obtain ⟨S1, hM1, hS1, hx, hL⟩ := frz_sound 4 hM hv h2
     have hcv := hx.cellsOk hc.2.2
     have hvl := hcv.1
     have hr1 := (hr.mono hS1 (fun _ _ => rfl)).set hc.1 hcv hc.2.1
     have hle : i * sz + sz ≤ us.size := by
      have := hr.1
      simp at this
      rw [this, ← Nat.succ_mul]; exact Nat.mul_le_mul_right _ hc.1
     have hvs : v.cells.size = sz := by simp at hvl; omega
     obtain ⟨S2, us', h3, hM2, hS2, hr2, hl2⟩ := partsD_sound as vs (us := (putA us.toList (i * sz) v.cells.toList).toArray) hM1
      ⟨ht.1, fun j a' v' ha hv => ⟨(ht.2 j a' v' ha hv).1, (ht.2 j a' v' ha hv).2.mono hS1 (fun _ _ => rfl) (Ext.refl _)⟩⟩ (by simpa using hr1) h
     refine ⟨S2, us', ?_, hM2, fun b hb => hS2 b (hS1 b hb), hr2, by rw [hl2]; simp⟩
     simp only [Instr.fill]
     rw [if_neg (by simp; omega), ← h3]
     congr 1
     exact fold_put _ v.cells us (by omega)
    ·cases h
   ·cases h
def StepR (C : Cfg) (S0 : Nat → Prop) (L0 : Lz) (w0 : World) (S : Nat → Prop) (B : Nat → Option Pl) (F : Nat → Prop) (nx : Nat) (w : World) (r : Result Next) (x : AV) (H1 : Hs) (n1 : Nat) : Prop :=
 ∃ val w1 S1 B1, (r = .ok (.value val) w1 ∨ (r = .ok .skip w1 ∧ val = Go.undef)) ∧ AVR S1 w1 B1 x val ∧ Mem C S0 L0 w0 S1 B1 H1 (took F nx n1) w1 ∧ (∀ b, S b → S1 b) ∧ Same S w w1 ∧ Ext B B1
theorem StepR.value (hM : Mem C S0 L0 w0 S B H F w) {s : Sem Value} {x : AV} {v : Value} (hr : s.run P w = .ok v w) (hv : AVR S w B x v) :
  StepR C S0 L0 w0 S B F nx w ((do pure (.value (← s)) : Sem Next).run P w) x H nx :=
 ⟨v, w, S, B, .inl (by simp [hr]), hv, hM.weak (fun _ h => h.1), fun _ h => h, fun _ _ => rfl, Ext.refl _⟩
theorem alloc_step (hM : Mem C S0 L0 w0 S B H F w) (hF : F nx) {cs : List AV} {v : Value} {e : TypeId} (hc : CellsA S w B cs v.cells.toList) {s : Sem Value}
  (hr : s.run P w = .ok (.pointer (some ⟨w.heap.size, 0, none⟩)) (w.alloc (.cells v.cells e))) :
  StepR C S0 L0 w0 S B F nx w ((do pure (.value (← s)) : Sem Next).run P w) (.pt nx 0) (upd H nx (.box cs)) (nx + 1) := by
 have hE := hM.ext_new hF ⟨w.heap.size, 1, 0⟩
 have hs := same_alloc (w := w) hM.lt (.cells v.cells e)
 refine ⟨_, _, S, upd B nx (some ⟨w.heap.size, 1, 0⟩), .inl (by simp [hr]), .pt nx 0 ⟨w.heap.size, 1, 0⟩ (by simp [upd]), hM.new hF _ _ 1 0 ?_, fun _ h => h, hs, hE⟩
 exact HR.mkBox (p := ⟨w.heap.size, 1, 0⟩) (by simp [upd]) (heap_alloc_new w _) (hc.mono (fun _ h => h) hs hE)
end
end Go.Jv
namespace Go.Jv
section
variable {P : Program} {C : Cfg} {S0 : Nat → Prop} {L0 : Lz} {w0 : World} {S : Nat → Prop} {B : Nat → Option Pl} {H : Hs} {F : Nat → Prop} {nx : Nat} {w : World}
theorem range_map_get (z : Array Value) (n : Nat) (hz : 0 < z.size) (k : Nat) (hk : k < n * z.size) : ((Array.range (n * z.size)).map (z[· % z.size]!)).toList[k]? = z[k % z.size]? := by
 have : k % z.size < z.size := Nat.mod_lt _ hz
 simp [hk, this]
theorem zeroD_sound (V : Valid P C) {e : TypeId} {z : Dat} {y : Ty} (hy : C.ty e = some y) (h : zeroD C e = some z) (hk : (z.cells.map AV.d).all okC = true) :
  ∃ i v, P.info? e = some i ∧ i.zero = some v ∧ i.size = y.size ∧ i.bytes = y.bytes ∧ CellsD S w z.cells v.cells.toList := by
 unfold zeroD at h
 simp only [hy] at h
 obtain ⟨_, i, v, hi, hsz, hby, hz, hzr⟩ := V.ty e y hy
 refine ⟨i, v, hi, hz, hsz, hby, ?_⟩
 split at h
 ·rename_i cs hcs
  have hc := ZeroR.cells (S := S) (w := w) (B := fun _ => none) hzr
  have hA : AVR S w (fun _ => none) (.agg y.zero) (.agg v.cells) := .agg _ _ (by simpa using hc.1) (fun u hu => hc.one u (by simpa using hu)) (fun j c u hj hu => (hc.2 j c u hj (by simpa using hu)).2)
  have hV : VR S w (.agg cs) (.agg v.cells) := datA_sound hA (by simp only [datA, hcs]; rfl)
  cases hV with
  | agg _ _ hl ho hv =>
   have hCD : CellsD S w cs v.cells.toList := ⟨by simpa using hl, fun j c u hj hu => ⟨ho u (Array.mem_of_getElem? (by simpa using hu)), hv j c u hj (by simpa using hu)⟩⟩
   unfold mkD at h
   split at h
   ·cases h; exact hCD
   ·split at h
    ·rename_i c
     cases h
     cases z with
     | agg cs' =>
      have hl1 : v.cells.toList.length = 1 := hCD.1.symm
      have hu := List.getElem?_eq_getElem (l := v.cells.toList) (i := 0) (by omega)
      obtain ⟨h1, h2⟩ := hCD.2 0 _ _ rfl hu
      cases h2' : v.cells.toList[0]'(by omega) with
      | agg => rw [h2'] at h1; simp [Value.oneCell'] at h1
      | _ => rw [h2'] at h2; cases h2
     | _ => exact hCD
    ·cases h
 ·cases h
theorem RowL.zeros {n : Nat} {z : Dat} {v : Array Value} (hz : CellsD S w z.cells v.toList) (hp : 0 < v.size) : RowL S w v.size (List.replicate n z) ((Array.range (n * v.size)).map (v[· % v.size]!)).toList := by
 have hl := hz.1
 simp only [Array.length_toList] at hl
 refine ⟨by simp, fun i x hx => ?_⟩
 rw [List.getElem?_replicate] at hx
 split at hx
 ·rename_i hi
  cases hx
  refine ⟨hl, ?_⟩
  have : ((((Array.range (n * v.size)).map (v[· % v.size]!)).toList.drop (i * v.size)).take v.size) = v.toList := by
   apply List.ext_getElem?
   intro j
   rw [List.getElem?_take]
   split
   ·rename_i hj
    have hle : (i + 1) * v.size ≤ n * v.size := Nat.mul_le_mul_right _ hi
    rw [Nat.succ_mul] at hle
    rw [List.getElem?_drop, range_map_get v n hp _ (by omega)]
    have : (i * v.size + j) % v.size = j := by rw [Nat.mul_comm, Nat.mul_add_mod, Nat.mod_eq_of_lt hj]
    rw [this]; simp
   ·rw [List.getElem?_eq_none (by simpa using (by omega : v.size ≤ j))]
  rw [this]; exact hz
 ·cases hx
theorem buildSlice_step (V : Valid P C) (hM : Mem C S0 L0 w0 S B H F w) (hF : F nx) {t el : TypeId} (ht : elemT C t = some el) {z : Dat} {ye : Ty} (hz : zeroD C el = some z) (hye : C.ty el = some ye) {len : Nat}
  (hc : z.cells.length = ye.size ∧ (z.cells.map AV.d).all okC = true ∧ 0 < ye.size ∧ len * ye.size ≤ 16777216) {as : List (Nat × AV)} {vs : List (Nat × Value)} (hp : PartsR S w B as vs) {xs : List Dat} {H1 : Hs}
  (h : partsD ye.size H (List.replicate len z) as = some (xs, H1)) :
  StepR C S0 L0 w0 S B F nx w ((do pure (.value (← Instr.buildSlice t len vs.toArray)) : Sem Next).run P w) (.sl nx 0 len) (upd H1 nx (.own ⟨el, ye.size⟩ xs)) (nx + 1) := by
 obtain ⟨hzl, hzk, hpos, hsm⟩ := hc
 obtain ⟨i, v, hi, hv, hsz, hby, hCD⟩ := zeroD_sound (S := S) (w := w) V hye hz hzk
 have hvs : v.cells.size = ye.size := by have := hCD.1; simp at this; omega
 have hlen : len ≤ maxLen := by
  have : len * 1 ≤ len * ye.size := Nat.mul_le_mul_left _ hpos
  simp only [maxLen]; omega
 have hR0 := RowL.zeros (n := len) hCD (by omega)
 rw [hvs] at hR0
 obtain ⟨S1, us', hf, hM1, hS1, hR, hxl⟩ := partsD_sound as vs hM hp hR0 h
 simp only [List.length_replicate] at hxl
 have hun : P.underlying t = some (.slice el) := by
  unfold elemT at ht
  split at ht
  ·rename_i y hy
   split at ht
   ·rename_i e' hd
    cases ht
    exact (V.ty t y hy).1.trans (by rw [hd])
   ·cases ht
  ·cases ht
 have hrun : (Instr.buildSlice t len vs.toArray).run P w = .ok (.slice (some ⟨w.heap.size, 0, none⟩) len len) (w.alloc (.cells us' el)) := by
  by_cases h0 : len * ye.size = 0
  ·have hemp : ∀ f : Nat → Value, (Array.range 0).map f = #[] := fun f => Array.eq_empty_of_size_eq_zero (by simp)
   rw [h0, hemp] at hf
   simp [Instr.buildSlice, run_underlying hun, sizeOf, typeInfo, hi, hsz, h0, hemp, hf, newRow]
  ·exact run_buildSlice w t el len vs.toArray us' i v hun hi hv (by rw [hsz]; omega) (by rw [hsz]; omega) (by rw [hsz, hvs]; exact hf)
 refine ⟨.slice (some ⟨w.heap.size, 0, none⟩) len len, w.alloc (.cells us' el), S1, upd B nx (some ⟨w.heap.size, ye.size, len⟩), .inl (by simp [hrun]), ?_, hM1.new hF _ _ ye.size len ?_, hS1, same_alloc hM.lt _, hM.ext_new hF _⟩
 ·simpa using AVR.sl (S := S1) (w := w.alloc (.cells us' el)) (B := upd B nx (some ⟨w.heap.size, ye.size, len⟩)) nx 0 len ⟨w.heap.size, ye.size, len⟩ (by simp [upd]) (Nat.zero_le _) (Nat.le_refl _) (.inl rfl) hlen
 ·have hs := same_alloc (w := w) hM1.lt (.cells us' el)
  exact .own xs ⟨w.heap.size, ye.size, len⟩ us' el (by simp [upd]) (heap_alloc_new w _) ((hR.mono (fun _ h => h) hs).rowR (p := ⟨w.heap.size, ye.size, len⟩) hxl.symm hlen)
theorem makeSlice_step (V : Valid P C) (hM : Mem C S0 L0 w0 S B H F w) (hF : F nx) {t : TypeId} {l c : AV} {lv cv : Value} (hl : AVR S w B l lv) (hcv : AVR S w B c cv) {r : Row × List Dat} (h : makeD C t l c = some r) :
  StepR C S0 L0 w0 S B F nx w ((do pure (.value (← Instr.makeSlice t lv cv)) : Sem Next).run P w) (.sl nx 0 r.2.length) (upd H nx (.own r.1 r.2)) (nx + 1) := by
 unfold makeD at h
 split at h
 ·rename_i el n m ht hn hm
  split at h
  ·rename_i z ye hz hye
   split at h
   ·rename_i hc
    cases h
    obtain ⟨rfl, hzl, hzk, hpos, hby0, hsm⟩ := hc
    obtain ⟨i, v, hi, hv, hsz, hby, hCD⟩ := zeroD_sound (S := S) (w := w) V hye hz hzk
    have hvs : v.cells.size = ye.size := by have := hCD.1; simp at this; omega
    have hn1 : n * 1 ≤ n * ye.bytes := Nat.mul_le_mul_left _ hby0
    have hlen : n ≤ maxLen := by simp only [maxLen]; omega
    have hR0 := RowL.zeros (n := n) hCD (by omega)
    rw [hvs] at hR0
    have hlv := natOf_sound hl hn
    have hcv' := natOf_sound hcv hm
    subst hlv hcv'
    have hun : P.underlying t = some (.slice el) := by
     unfold elemT at ht
     split at ht
     ·rename_i y hy
      split at ht
      ·rename_i e' hd
       cases ht
       exact (V.ty t y hy).1.trans (by rw [hd])
      ·cases ht
     ·cases ht
    have hw : IntKind.i64.wrap (n : Int) = n := by rw [IntKind.wrap_i64]; omega
    have hmul : i.bytes * (n : Int) ≤ 2 ^ 48 := by
     have : ((i.bytes * n : Nat) : Int) ≤ 140737488355328 := by rw [hby, Nat.mul_comm]; omega
     push_cast at this
     omega
    have hrun : (Instr.makeSlice t (.int .i64 n) (.int .i64 n)).run P w = .ok (.slice (some ⟨w.heap.size, 0, none⟩) n n) (w.alloc (.cells ((Array.range (n * ye.size)).map (v.cells[· % ye.size]!)) el)) := by
     have h1 : ¬ ((n : Int) < 0) := by omega
     have h2 : ¬ (2 ^ 48 < i.bytes * (n : Int)) := by omega
     by_cases h0 : n = 0
     ·subst h0
      have hw0 : IntKind.i64.wrap 0 = 0 := by rw [IntKind.wrap_i64]; rfl
      simp [Instr.makeSlice, run_underlying hun, asInt, asIntOf, typeInfo, hi, hw0, sizeOf, hsz, newRow]
      have hemp : ∀ f : Nat → Value, (Array.range 0).map f = #[] := fun f => Array.eq_empty_of_size_eq_zero (by simp)
      rw [hemp, hemp]
     ·have h3 : n * ye.size ≠ 0 := by
       have : n * 1 ≤ n * ye.size := Nat.mul_le_mul_left _ hpos
       omega
      simp [Instr.makeSlice, run_underlying hun, asInt, asIntOf, typeInfo, hi, hw, h1, h2, sizeOf, hsz, h3, zeroValue, hv, hvs, newRow]
      intro hbig
      exact absurd hbig (Int.not_lt.2 (by simpa using hmul))
    refine ⟨.slice (some ⟨w.heap.size, 0, none⟩) n n, w.alloc (.cells ((Array.range (n * ye.size)).map (v.cells[· % ye.size]!)) el), S, upd B nx (some ⟨w.heap.size, ye.size, n⟩), .inl (by simp [hrun]), ?_, hM.new hF _ _ ye.size n ?_, fun _ h => h, same_alloc hM.lt _, hM.ext_new hF _⟩
    ·simpa using AVR.sl (S := S) (w := w.alloc (.cells ((Array.range (n * ye.size)).map (v.cells[· % ye.size]!)) el)) (B := upd B nx (some ⟨w.heap.size, ye.size, n⟩)) nx 0 n ⟨w.heap.size, ye.size, n⟩ (by simp [upd]) (Nat.zero_le _) (Nat.le_refl _) (.inl rfl) hlen
    ·have hs := same_alloc (w := w) hM.lt (.cells ((Array.range (n * ye.size)).map (v.cells[· % ye.size]!)) el)
     exact .own _ ⟨w.heap.size, ye.size, n⟩ _ el (by simp [upd]) (heap_alloc_new w _) ((hR0.mono (fun _ h => h) hs).rowR (p := ⟨w.heap.size, ye.size, n⟩) (by simp) hlen)
   ·cases h
  ·cases h
 ·cases h
end
end Go.Jv
