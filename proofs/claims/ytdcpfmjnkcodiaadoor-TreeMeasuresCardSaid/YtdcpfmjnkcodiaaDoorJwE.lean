/- Steps of a walk beside a plain function: memory that is handed on, results in cells, calls that take the homes along. -/
import Derived.Test.YtdcpfmjnkcodiaaDoorJwD
namespace Go.Jv

/-- values that are fixed one behind the other -/
def FS (k : Nat) (H : Hs) (n : Nat) (vs : List AV) (xs : List Dat) (L' : List Item) : Prop := ∃ H', frzL (frz (k + 1)) H vs = some (xs, H') ∧ HP H' n L'

section
variable {k n : Nat} {H : Hs} {L L' : List Item} {vs : List AV} {xs : List Dat}

theorem FS.nil (hH : HP H n L) : FS k H n [] [] L := ⟨H, rfl, hH⟩
theorem frzL_step {f : Hs → AV → Option (Dat × Hs)} {H H1 H' : Hs} {v : AV} {x : Dat} {vs : List AV} {xs : List Dat} (h : f H v = some (x, H1)) (h1 : frzL f H1 vs = some (xs, H')) : frzL f H (v :: vs) = some (x :: xs, H') := by
  rw [frzL, h]; simp only [h1]
theorem FS.d {x : Dat} (h : FS k H n vs xs L') : FS k H n (.d x :: vs) (x :: xs) L' := by
  obtain ⟨H', h1, h2⟩ := h
  exact ⟨H', frzL_step rfl h1, h2⟩
theorem FS.nl (h : FS k H n vs xs L') : FS k H n (.nil :: vs) (.lst [] :: xs) L' := by
  obtain ⟨H', h1, h2⟩ := h
  exact ⟨H', frzL_step rfl h1, h2⟩
theorem FS.own {j : Nat} {w : AV} {z : Row} {ys : List Dat} (hH : HP H n L) (hj : L[j]? = some (.own w z ys)) (h : ∀ H1, HP H1 n (L.eraseIdx j) → FS k H1 n vs xs L') : FS k H n (w :: vs) (.lst ys :: xs) L' := by
  rcases hH.get hj with ⟨rfl, rfl⟩ | ⟨id, zs, rfl, h4⟩
  · exact FS.nl (h H (hH.sub (List.eraseIdx_sublist _ _)))
  · obtain ⟨H', h1, h2⟩ := h (upd H id (.imm z (ys ++ zs))) ((hH.pick j hj).other (by simp [Item.live, idOf]))
    refine ⟨H', frzL_step ?_ h1, h2⟩
    simp only [frz, h4]
    rw [if_pos ⟨by omega, by simp⟩]
    simp [win]
theorem FS.agg {cs : List AV} {ds : List Dat} {L1 : List Item} (h1 : FS k H n cs ds L1) (h : ∀ H1, HP H1 n L1 → FS (k + 1) H1 n vs xs L') : FS (k + 1) H n (.agg cs :: vs) (.agg ds :: xs) L' := by
  obtain ⟨H1, h2, h3⟩ := h1
  obtain ⟨H', h4, h5⟩ := h H1 h3
  refine ⟨H', frzL_step ?_ h4, h5⟩
  rw [show frz (k + 1 + 1) H (.agg cs) = (frzL (frz (k + 1)) H cs).map fun r => (.agg r.1, r.2) from rfl, h2]
  rfl
end

section
variable {C : Cfg} {gs : Nat → AV} {hom : Hs} {nx : Nat} {q : Bool} {ops : Array Oper} {rest : List Oper} {R : St → Prop} {Q : Ex → St → Prop}
variable {dst : Option Tmp} {ty : TypeId} {ps : String} {af : Array Edge} {g : Option (Nat × Bool)} {t u : TypeId} {x y z : Operand} {v : AV} {ρ : Type} {r : ρ}

/-- the results of a run -/
def RA (C : Cfg) (s : St) (rs : List ResultVar) (vs : List AV) : Prop := resultsA C s rs = some vs
theorem ra_nil {s : St} : RA C s [] [] := rfl
theorem ra_tmp {s : St} {t : Tmp} {rs : List ResultVar} {vs : List AV} (v : AV) (hv : s.regs t = v) (h : RA C s rs vs) : RA C s (.tmp t :: rs) (v :: vs) := by
  simp only [RA] at h; simp [RA, resultsA, h, hv]
theorem ra_cell {s : St} {a : Tmp} {t : TypeId} {rs : List ResultVar} {vs : List AV} (v : AV) {l : List Item} {i id off m : Nat} {ag : Bool} {cs : List AV} (hz : szg C t = some (m, ag)) (hH : HP s.homes s.next l) (hi : l[i]? = some (.box id cs)) (hx : s.regs a = .pt id off)
    (hr : (cutA cs off m).bind (mkA ag) = some v) (h : RA C s rs vs) : RA C s (.cell a t :: rs) (v :: vs) := by
  obtain ⟨h1, h2⟩ := szg_parts hz
  have h3 : s.homes id = .box cs := hH.get hi
  have : loadA C s.homes t (s.regs a) = some v := by simp [loadA, h1, h2, hx, h3, hr]
  simp only [RA] at h
  simp [RA, resultsA, h, this]

/-- how a call with trees ends -/
theorem pdF {s : St} {F : Func} {rs : List Dat} {ex : Ex} {vs : List AV} {L' : List Item} (he : ex = .ret ∨ ex = .normal) (h1 : RA C s F.results.toList vs) (h2 : FS 3 s.homes s.next vs rs L') : PostD C F rs ex s := by
  obtain ⟨H', h3, _⟩ := h2
  exact pd he h1 h3

/-- a call with trees, of what is handed over for good -/
theorem w_datF {β : Type} {m : Option β} {k : β → Option ρ} {f : FuncId} {args : Array Operand} {ts : Array TypeId} {xs : List Dat} {E : β → List Dat} {L' : List Item} (hm : m.bind k = some r)
    (hw : wantedA ops gs ⟨dst, .call ⟨.value (.func f), args, ts⟩, ty, ps, af, g⟩ = some true) (hs : C.sig f = .dat) (hf : FS 3 hom nx (args.toList.map (ev C ⟨gs, hom, nx⟩)) xs L')
    (hc : ∀ y, m = some y → callD C f xs = some (E y))
    (h : ∀ y H', k y = some r → HP H' nx L' → EW false C ops rest ⟨putR gs dst (tupA ((E y).map .d)), H', nx⟩ R) : EW false C ops (⟨dst, .call ⟨.value (.func f), args, ts⟩, ty, ps, af, g⟩ :: rest) ⟨gs, hom, nx⟩ R := by
  obtain ⟨y, h1, h2⟩ := Option.bind_eq_some_iff.1 hm
  obtain ⟨H', h3, h4⟩ := hf
  exact w_op hw (o_dat rfl hs h3 (hc y h1)) (by simp) (h y H' h2 h4)

/-- a part of a literal slice that is one, fixed for good -/
theorem partsD_one {sz : Nat} {H H1 : Hs} {v : AV} {x d : Dat} (h : frz 4 H v = some (x, H1)) (hs : x.cells.length = sz) (hk : (x.cells.map AV.d).all okC = true) : partsD sz H [d] [(0, v)] = some ([x], H1) := by
  simp only [partsD, h]
  rw [if_pos ⟨by simp, hs, hk⟩]
  rfl

theorem w_bslice1 {α : Type} {enc : α → Dat} {e : α} (v : AV) {el m : Nat} {a : Bool} {zs : List AV} {o : Operand} {L : List Item} (hw : wantedA ops gs ⟨dst, .buildSlice t 1 #[(0, o)], ty, ps, af, g⟩ = some true)
    (he : elemT C t = some el) (hz : szg C el = some (m, a)) (hy : (C.ty el).map (·.zero) = some zs) (h0 : 0 < m ∧ 1 * m ≤ 16777216) (hZ : ∃ z, zeroD C el = some z ∧ z.cells.length = m ∧ (z.cells.map AV.d).all okC = true) (hc : ∀ v, (enc v).cells.length = m) (hk : ∀ v, ((enc v).cells.map AV.d).all okC = true)
    (h1 : ev C ⟨gs, hom, nx⟩ o = v) (h2 : FS 3 hom nx [v] [enc e] L)
    (h : ∀ w H' n', HP H' n' (.own w ⟨el, m⟩ ([e].map enc) :: L) → EW false C ops rest ⟨putR gs dst w, H', n'⟩ R) : EW false C ops (⟨dst, .buildSlice t 1 #[(0, o)], ty, ps, af, g⟩ :: rest) ⟨gs, hom, nx⟩ R := by
  obtain ⟨zd, h3, h4, h5⟩ := hZ
  obtain ⟨yt, h6, rfl⟩ := Option.map_eq_some_iff.1 hy
  have h7 : yt.size = m := by have := (szg_parts hz).1; simpa [sizeT, h6] using this
  obtain ⟨H1, h8, hH⟩ := h2
  have h9 : frz 4 hom v = some (enc e, H1) := by
    rw [frzL] at h8
    revert h8
    cases hv : frz (3 + 1) hom v with
    | none => intro h8; cases h8
    | some p => intro h8; simp only [frzL, Option.some.injEq, Prod.mk.injEq, List.cons.injEq, and_true] at h8; rw [← h8.1, ← h8.2]
  have hp' : HP (upd H1 nx (.own ⟨el, m⟩ ([e].map enc))) (nx + 1) (.own (.sl nx 0 1) ⟨el, m⟩ ([e].map enc) :: L) :=
    hH.new (by simp [Item.ids, idOf]) (.inr ⟨nx, [], by simp, by simp [upd]⟩)
  refine w_op hw (v := .sl nx 0 1) (H1 := upd H1 nx (.own ⟨el, m⟩ ([e].map enc))) (n1 := nx + 1) ?_ (by simp) (h _ _ _ hp')
  rw [opV_act (fun _ _ _ h => by cases h)]
  simp only [act, he, h3, h6, h7]
  rw [if_pos ⟨h4, h5, h0.1, h0.2⟩]
  simp only [List.map_cons, List.map_nil, h1]
  rw [show List.replicate 1 zd = [zd] from rfl, partsD_one h9 (hc e) (hk e)]

/-- a call that takes the homes along: what it gives, what it leaves. L: what the caller knows besides. -/
def Raw (C : Cfg) (f : FuncId) (vs : List AV) (H : Hs) (n : Nat) (Q : List AV → Hs → Nat → Prop) : Prop := ∃ rs H1 n1, callR C f vs H n = some (rs, H1, n1) ∧ Q rs H1 n1

theorem w_raw {β : Type} {m : Option β} {k : β → Option ρ} {f : FuncId} {args : Array Operand} {ts : Array TypeId} (vs : List AV) {P : β → List AV → Hs → Nat → Prop} (hm : m.bind k = some r)
    (hw : wantedA ops gs ⟨dst, .call ⟨.value (.func f), args, ts⟩, ty, ps, af, g⟩ = some true) (hs : C.sig f = .raw) (ha : args.toList.map (ev C ⟨gs, hom, nx⟩) = vs)
    (hc : ∀ y, m = some y → Raw C f vs hom nx (P y))
    (h : ∀ y rs H' n', k y = some r → P y rs H' n' → EW false C ops rest ⟨putR gs dst (tupA rs), H', n'⟩ R) : EW false C ops (⟨dst, .call ⟨.value (.func f), args, ts⟩, ty, ps, af, g⟩ :: rest) ⟨gs, hom, nx⟩ R := by
  obtain ⟨y, h1, h2⟩ := Option.bind_eq_some_iff.1 hm
  obtain ⟨rs, H1, n1, h3, h4⟩ := hc y h1
  exact w_op hw (o_raw (n1 := n1) rfl hs (ha ▸ h3)) (by simp) (h y rs H1 n1 h2 h4)

/-- how a call that takes the homes along ends -/
def PostR (C : Cfg) (F : Func) (Q : List AV → Hs → Nat → Prop) : Ex → St → Prop := fun ex s => (∀ i, ex ≠ .exit i) ∧ ∃ rs, resultsA C s F.results.toList = some rs ∧ Q rs s.homes s.next

theorem raw_at {f : FuncId} {vs : List AV} {F : Func} {H : Hs} {n : Nat} {Q : List AV → Hs → Nat → Prop} (hf : C.fn f = some F) (hb : F.body.isSome = true)
    (h : PAt C (bodyOf F) .o ⟨ini vs, H, n⟩ (PostR C F Q)) : Raw C f vs H n Q := callR_at hf hb h

theorem prF {s : St} {F : Func} {ex : Ex} {vs : List AV} {Q : List AV → Hs → Nat → Prop} (he : ex = .ret ∨ ex = .normal) (h1 : RA C s F.results.toList vs) (h2 : Q vs s.homes s.next) : PostR C F Q ex s :=
  ⟨fun i hi => (by rcases he with e | e <;> rw [e] at hi <;> cases hi), vs, h1, h2⟩

/-- some of the first k pieces, and all behind them -/
theorem HP.selT {H : Hs} {n : Nat} {L : List Item} (hH : HP H n L) (k : Nat) (is : List Nat) (hn : is.Nodup) (hk : ∀ i ∈ is, i < k) : HP H n ((is.filterMap fun i => L[i]?) ++ L.drop k) := by
  have h := hH.sel (is ++ (List.range' k (L.length - k))) (by
    rw [List.nodup_append]
    refine ⟨hn, List.nodup_range', ?_⟩
    intro a ha b hb e
    subst e
    have h1 := hk a ha
    have h2 := List.mem_range'.1 hb
    obtain ⟨i, _, h3⟩ := h2
    omega)
  rw [List.filterMap_append] at h
  have e : (List.range' k (L.length - k)).filterMap (fun i => L[i]?) = L.drop k := by
    apply List.ext_getElem?
    intro i
    have : ∀ (k : Nat) (m : Nat), k + m ≤ L.length → (List.range' k m).filterMap (fun i => L[i]?) = (L.drop k).take m := by
      intro k m
      induction m generalizing k with
      | zero => intro _; simp
      | succ m ih =>
        intro hkm
        rw [List.range'_succ, List.filterMap_cons, List.getElem?_eq_getElem (by omega)]
        simp only
        rw [ih (k + 1) (by omega), List.drop_eq_getElem_cons (i := k) (by omega), List.take_succ_cons]
    by_cases hkl : k ≤ L.length
    · rw [this k (L.length - k) (by omega)]
      rw [List.take_of_length_le (by simp)]
    · rw [show L.length - k = 0 by omega, List.drop_eq_nil_of_le (by omega)]
      simp
  rwa [e] at h

/-- the rest of an own slice, to be looked at -/
def tailA (w : AV) (lo hi : Nat) : AV := match w with | .sl id _ _ => .sl id lo hi | _ => .nil

theorem w_view {α : Type} {enc : α → Dat} {l : List α} {M : Int} {k : List α → Option ρ} {lo : Operand} {el : TypeId} {m : Nat} {a : Bool} {L : List Item} {j : Nat} {w : AV} (hm : (cut l M l.length).bind k = some r) (hw : wantedA ops gs ⟨dst, .slice t x (some lo) none none, ty, ps, af, g⟩ = some true)
    (he : elemT C t = some el) (hz : szg C el = some (m, a)) (hH : HP hom nx L) (hj : L[j]? = some (.own w ⟨el, m⟩ (l.map enc))) (hx : ev C ⟨gs, hom, nx⟩ x = w) (hlo : ev C ⟨gs, hom, nx⟩ lo = .d (.int .i64 M))
    (h : k (l.drop M.toNat) = some r → EW q C ops rest ⟨putR gs dst (tailA w M.toNat l.length), hom, nx⟩ R) : EW q C ops (⟨dst, .slice t x (some lo) none none, ty, ps, af, g⟩ :: rest) ⟨gs, hom, nx⟩ R := by
  obtain ⟨v, h1, h2⟩ := Option.bind_eq_some_iff.1 hm
  unfold cut at h1
  obtain ⟨ye, h3, h4⟩ := elemT_ty he
  split at h1
  · rename_i h0
    cases h1
    have e : List.take ((l.length : Int).toNat - M.toNat) (List.drop M.toNat l) = l.drop M.toNat := List.take_of_length_le (by simp)
    rw [e] at h2
    have hlh := lh_ln (n := l.length) (L := M) h0.1 h0.2.1 h0.2.2
    rcases hH.get hj with ⟨h5, h6⟩ | ⟨id, ys, h5, h6⟩
    · simp only [List.map_eq_nil_iff] at h6
      subst h6
      refine w_op hw (v := tailA w M.toNat 0) (H1 := hom) (n1 := nx) (o_slice ?_) (fun _ => rfl) (h h2)
      simp only [List.length_nil] at hlh
      simp only [sliceA, h3, h4, hx, h5, Bool.false_eq_true, if_false, (szg_parts hz).1, Option.isSome_some, if_true, Option.map_none, Option.map_some, hlo, hlh, tailA]
    · rw [List.length_map] at h5
      refine w_op hw (v := tailA w M.toNat l.length) (H1 := hom) (n1 := nx) (o_slice ?_) (fun _ => rfl) (h h2)
      have hsz : szIs (hom id) (some m) = true := by simp [szIs, h6, szOf]
      simp only [sliceA, h3, h4, hx, h5, Bool.false_eq_true, if_false, (szg_parts hz).1, hsz, if_true, Option.map_none, Option.map_some, hlo, Nat.sub_zero, hlh, tailA]
      simp
  · cases h1

theorem w_len_view {α : Type} {enc : α → Dat} {l : List α} {el : TypeId} {L : List Item} {j : Nat} {w : AV} {z : Row} {M : Int} (hw : wantedA ops gs ⟨dst, .call ⟨.builtin .len, #[x], #[t]⟩, ty, ps, af, g⟩ = some true) (he : elemT C t = some el)
    (hH : HP hom nx L) (hj : L[j]? = some (.own w z (l.map enc))) (hx : ev C ⟨gs, hom, nx⟩ x = tailA w M.toNat l.length)
    (h : EW q C ops rest ⟨putR gs dst (.d (.int .i64 ((l.drop M.toNat).length : Int))), hom, nx⟩ R) : EW q C ops (⟨dst, .call ⟨.builtin .len, #[x], #[t]⟩, ty, ps, af, g⟩ :: rest) ⟨gs, hom, nx⟩ R := by
  obtain ⟨y, h1, h2⟩ := elemT_ty he
  refine w_len hw ?_ h
  rcases hH.get hj with ⟨h3, h4⟩ | ⟨id, ys, h3, h4⟩
  · simp only [List.map_eq_nil_iff] at h4
    subst h4
    simp [lenA, h1, h2, hx, h3, tailA]
  · simp [lenA, h1, h2, hx, h3, tailA]

/-- an element of the rest of an own slice -/
theorem w_idx_view {α : Type} {enc : α → Dat} {l : List α} {i M : Int} {kd : IntKind} {k : α → Option ρ} {el : TypeId} {m : Nat} {a : Bool} {L : List Item} {j : Nat} {w : AV} (hm : (idx (l.drop M.toNat) i).bind k = some r) (hw : wantedA ops gs ⟨dst, .indexAddr t x y, ty, ps, af, g⟩ = some true)
    (he : elemT C t = some el) (hz : szg C el = some (m, a)) (hH : HP hom nx L) (hj : L[j]? = some (.own w ⟨el, m⟩ (l.map enc))) (hx : ev C ⟨gs, hom, nx⟩ x = tailA w M.toNat l.length) (hy : ev C ⟨gs, hom, nx⟩ y = .d (.int kd i))
    (h : ∀ id v, k v = some r → w = .sl id 0 l.length → l[M.toNat + i.toNat]? = some v → EW q C ops rest ⟨putR gs dst (.pe id (M.toNat + i.toNat) 0), hom, nx⟩ R) : EW q C ops (⟨dst, .indexAddr t x y, ty, ps, af, g⟩ :: rest) ⟨gs, hom, nx⟩ R := by
  obtain ⟨v, h1, h2⟩ := Option.bind_eq_some_iff.1 hm
  obtain ⟨h0, h1⟩ := get_of_idx h1
  rw [List.getElem?_drop] at h1
  rcases hH.get hj with ⟨_, h3⟩ | ⟨id, ys, h3, h4⟩
  · simp only [List.map_eq_nil_iff] at h3
    subst h3
    simp at h1
  · rw [List.length_map] at h3
    refine w_op hw (v := .pe id (M.toNat + i.toNat) 0) (H1 := hom) (n1 := nx) (o_iaddr ?_) (fun _ => rfl) (h id v h2 h3 h1)
    have hl : M.toNat + i.toNat < l.length := (List.getElem?_eq_some_iff.1 h1).1
    simp only [indexAddrA, hx, hy, intOfA, he, h3, tailA]
    rw [if_neg (by omega)]
    simp only [szIs, h4, szOf, (szg_parts hz).1]
    rw [if_pos ⟨by omega, by simp⟩]

theorem w_iaddr_b2 {α : Type} {f : α → Dat} {w : A2 α} {a : Bool} {el : TypeId} {i : Int} {kd : IntKind} {k : α → Option ρ} {off id : Nat} {cs : List AV} (hm : (w.get i).bind k = some r) (hw : wantedA ops gs ⟨dst, .indexAddr t x y, ty, ps, af, g⟩ = some true) (ha : arrT C t = some (2, el)) (he : elemT C t = none) (hz : szg C el = some (1, a))
    (hx : ev C ⟨gs, hom, nx⟩ x = .pt id off) (hy : ev C ⟨gs, hom, nx⟩ y = .d (.int kd i)) (hc : cutA cs off 2 = some [.d (f w.e0), .d (f w.e1)])
    (h : ∀ v o', k v = some r → cutA cs o' 1 = some [.d (f v)] → EW q C ops rest ⟨putR gs dst (.pt id o'), hom, nx⟩ R) : EW q C ops (⟨dst, .indexAddr t x y, ty, ps, af, g⟩ :: rest) ⟨gs, hom, nx⟩ R := by
  obtain ⟨v, h1, h2⟩ := Option.bind_eq_some_iff.1 hm
  have key : ∀ j : Nat, j < 2 → i = j → cutA cs (off + j) 1 = some [.d (f v)] → EW q C ops (⟨dst, .indexAddr t x y, ty, ps, af, g⟩ :: rest) ⟨gs, hom, nx⟩ R := by
    intro j hj hij hp
    subst hij
    refine w_op hw (v := .pt id (off + j)) (H1 := hom) (n1 := nx) (o_iaddr ?_) (fun _ => rfl) (h v _ h2 hp)
    simp only [indexAddrA, hx, hy, intOfA, he, ha, (szg_parts hz).1]
    rw [if_neg (by omega), if_pos (by omega)]
    simp
  have hcut : ∀ j : Nat, j < 2 → cutA cs (off + j) 1 = (([.d (f w.e0), .d (f w.e1)] : List AV)[j]?).map fun c => [c] := by
    intro j hj
    unfold cutA at hc ⊢
    split at hc
    · rename_i hle
      have h1 : off + j < cs.length := by omega
      rw [if_pos (by omega)]
      have e := Option.some.inj hc
      have e2 : (cs.drop (off + j)).take 1 = [cs[off + j]] := by rw [List.drop_eq_getElem_cons h1]; rfl
      rw [← e, List.getElem?_take, if_pos hj, List.getElem?_drop, List.getElem?_eq_getElem h1, e2]
      rfl
    · cases hc
  unfold A2.get at h1
  split at h1
  · rename_i e; cases h1; exact key 0 (by omega) (by simpa using e) (by rw [hcut 0 (by omega)]; rfl)
  · split at h1
    · rename_i e; cases h1; exact key 1 (by omega) (by simpa using e) (by rw [hcut 1 (by omega)]; rfl)
    · cases h1

theorem w_iaddr_b3 {α : Type} {f : α → Dat} {w : A3 α} {a : Bool} {el : TypeId} {i : Int} {kd : IntKind} {k : α → Option ρ} {off id : Nat} {cs : List AV} (hm : (w.get i).bind k = some r) (hw : wantedA ops gs ⟨dst, .indexAddr t x y, ty, ps, af, g⟩ = some true) (ha : arrT C t = some (3, el)) (he : elemT C t = none) (hz : szg C el = some (1, a))
    (hx : ev C ⟨gs, hom, nx⟩ x = .pt id off) (hy : ev C ⟨gs, hom, nx⟩ y = .d (.int kd i)) (hc : cutA cs off 3 = some [.d (f w.e0), .d (f w.e1), .d (f w.e2)])
    (h : ∀ v o', k v = some r → cutA cs o' 1 = some [.d (f v)] → EW q C ops rest ⟨putR gs dst (.pt id o'), hom, nx⟩ R) : EW q C ops (⟨dst, .indexAddr t x y, ty, ps, af, g⟩ :: rest) ⟨gs, hom, nx⟩ R := by
  obtain ⟨v, h1, h2⟩ := Option.bind_eq_some_iff.1 hm
  have key : ∀ j : Nat, j < 3 → i = j → cutA cs (off + j) 1 = some [.d (f v)] → EW q C ops (⟨dst, .indexAddr t x y, ty, ps, af, g⟩ :: rest) ⟨gs, hom, nx⟩ R := by
    intro j hj hij hp
    subst hij
    refine w_op hw (v := .pt id (off + j)) (H1 := hom) (n1 := nx) (o_iaddr ?_) (fun _ => rfl) (h v _ h2 hp)
    simp only [indexAddrA, hx, hy, intOfA, he, ha, (szg_parts hz).1]
    rw [if_neg (by omega), if_pos (by omega)]
    simp
  have hcut : ∀ j : Nat, j < 3 → cutA cs (off + j) 1 = (([.d (f w.e0), .d (f w.e1), .d (f w.e2)] : List AV)[j]?).map fun c => [c] := by
    intro j hj
    unfold cutA at hc ⊢
    split at hc
    · rename_i hle
      have h1 : off + j < cs.length := by omega
      rw [if_pos (by omega)]
      have e := Option.some.inj hc
      have e2 : (cs.drop (off + j)).take 1 = [cs[off + j]] := by rw [List.drop_eq_getElem_cons h1]; rfl
      rw [← e, List.getElem?_take, if_pos hj, List.getElem?_drop, List.getElem?_eq_getElem h1, e2]
      rfl
    · cases hc
  unfold A3.get at h1
  split at h1
  · rename_i e; cases h1; exact key 0 (by omega) (by simpa using e) (by rw [hcut 0 (by omega)]; rfl)
  · split at h1
    · rename_i e; cases h1; exact key 1 (by omega) (by simpa using e) (by rw [hcut 1 (by omega)]; rfl)
    · split at h1
      · rename_i e; cases h1; exact key 2 (by omega) (by simpa using e) (by rw [hcut 2 (by omega)]; rfl)
      · cases h1

/-- a load of a box's cell whose place is known by what stands there -/
theorem w_load_x {l : List Item} {i id o : Nat} {cs : List AV} {d : Dat} (hw : wantedA ops gs ⟨dst, .load t x, ty, ps, af, g⟩ = some true) (hz : szg C t = some (1, false)) (hH : HP hom nx l) (hi : l[i]? = some (.box id cs))
    (hx : ev C ⟨gs, hom, nx⟩ x = .pt id o) (hr : cutA cs o 1 = some [.d d])
    (h : EW q C ops rest ⟨putR gs dst (.d d), hom, nx⟩ R) : EW q C ops (⟨dst, .load t x, ty, ps, af, g⟩ :: rest) ⟨gs, hom, nx⟩ R :=
  w_load_b hw hz hH hi hx (by rw [hr]; rfl) h
end
end Go.Jv
