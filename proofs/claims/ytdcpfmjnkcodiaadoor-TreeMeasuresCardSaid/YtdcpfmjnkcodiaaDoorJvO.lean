/- An operation looks at its operands and at the homes that it names, and changes no others. -/
import Derived.Test.YtdcpfmjnkcodiaaDoorJvN
namespace Go.Jv

def Ft.looks (f : Ft) (id : Nat) : Prop := match f.rd with | none => True | some l => id ∈ l
def Ft.mods (f : Ft) (id : Nat) : Prop := match f.md with | none => True | some l => id ∈ l

theorem act_congr {C : Cfg} {H : Hs} {nx : Nat} {e e' : Operand → AV} {o : Op} (he : ∀ x ∈ o.operands, e' x = e x) : act C H nx e' o = act C H nx e o := by
  have hps : ∀ (ps : Array (Nat × Operand)), (∀ x ∈ (ps.toList.map (·.2)).toArray, e' x = e x) → (ps.toList.map fun (i, x) => (i, e' x)) = ps.toList.map fun (i, x) => (i, e x) := by
    intro ps h
    refine List.map_congr_left fun q hq => ?_
    obtain ⟨i, x⟩ := q
    simp only
    rw [h x (by simp; exact ⟨i, by simpa using hq⟩)]
  cases o with
  | build t ps => simp only [act, hps ps he]
  | buildSlice t n ps => simp only [act, hps ps he]
  | slice t x lo hi mx =>
    have h1 : lo.map e' = lo.map e := by cases lo with | none => rfl | some l => simp [he l (by simp [Op.operands])]
    have h2 : hi.map e' = hi.map e := by cases hi with | none => rfl | some l => simp [he l (by simp [Op.operands])]
    simp only [act, h1, h2, he x (by simp [Op.operands])]
  | call c =>
    obtain ⟨callee, args, ats⟩ := c
    have ha : ∀ a ∈ args.toList, e' a = e a := fun a h => he a (by simp [Op.operands, Call.operands]; exact .inr (by simpa using h))
    have hm : args.toList.map e' = args.toList.map e := List.map_congr_left ha
    simp only [act, hm]
    split
    · split
      · rename_i hx _; rw [hx] at ha; simp at ha; simp only [ha]
      · rfl
    · split
      · rename_i hx _; rw [hx] at ha; simp at ha; simp only [ha]
      · rfl
    · rfl
    · rfl
    · rfl
  | _ => simp_all [act, Op.operands]

theorem footA_congr {C : Cfg} {nx : Nat} {e e' : Operand → AV} {o : Op} (he : ∀ x ∈ o.operands, e' x = e x) : footA C nx e' o = footA C nx e o := by
  cases o with
  | buildSlice t n ps =>
    have : (ps.toList.all fun (_, x) => (datA (e' x)).isSome) = ps.toList.all fun (_, x) => (datA (e x)).isSome := by
      rw [Bool.eq_iff_iff]
      simp only [List.all_eq_true]
      refine forall_congr' fun q => forall_congr' fun hq => ?_
      rw [he q.2 (by simp [Op.operands]; exact ⟨q.1, by simpa using hq⟩)]
    simp only [footA, this]
  | call c =>
    obtain ⟨callee, args, ats⟩ := c
    have ha : ∀ a ∈ args.toList, e' a = e a := fun a h => he a (by simp [Op.operands, Call.operands]; exact .inr (by simpa using h))
    have hm : args.toList.map e' = args.toList.map e := List.map_congr_left ha
    simp only [footA, hm]
    split
    · rfl
    · rfl
    · rfl
    · split
      · rename_i hx; rw [hx] at ha; simp at ha; simp only [ha]
      · rfl
    · rename_i fv
      rw [he fv (by simp [Op.operands, Call.operands])]
    · rfl
  | _ => simp_all [footA, Op.operands]

/-- locality, as one says it of what an operation comes to -/
def Local (f : Ft) (H H' H1 H1' : Hs) : Prop := (∀ id, f.mods id → H1' id = H1 id) ∧ ∀ id, ¬ f.mods id → H1' id = H' id ∧ H1 id = H id

theorem Local.quiet {f : Ft} {H H' : Hs} (h : ∀ id, f.mods id → H' id = H id) : Local f H H' H H' := ⟨h, fun _ _ => ⟨rfl, rfl⟩⟩

theorem map_pure {H : Hs} {nx : Nat} {r : Option AV} {x : AV} {H1 : Hs} {n1 : Nat} (h : (r.map fun v => (v, H, nx)) = some (x, H1, n1)) (H' : Hs) :
    H1 = H ∧ n1 = nx ∧ (r.map fun v => (v, H', nx)) = some (x, H', nx) := by
  obtain ⟨y, rfl, he⟩ := Option.map_eq_some_iff.1 h
  cases he
  exact ⟨rfl, rfl, rfl⟩

/-- what an operation that neither looks at homes nor changes one comes to -/
theorem act_quiet {C : Cfg} {H : Hs} {nx : Nat} {e : Operand → AV} {o : Op} (hq : quietOp o = true) {x : AV} {H1 : Hs} {n1 : Nat} (h : act C H nx e o = some (x, H1, n1)) (H' : Hs) :
    H1 = H ∧ n1 = nx ∧ act C H' nx e o = some (x, H', nx) := by
  cases o with
  | move a => exact map_pure (r := some (e a)) h H'
  | assign a => exact map_pure (r := some (e a)) h H'
  | pick c a b => simp only [act] at h ⊢; split at h <;> first | exact map_pure h H' | cases h
  | nilCheck a => simp only [act] at h ⊢; split at h <;> first | exact map_pure h H' | cases h
  | extract a i => simp only [act] at h ⊢; split at h <;> first | exact map_pure h H' | cases h
  | fieldAddr t a f =>
    simp only [act] at h ⊢
    split at h
    · split at h
      · cases h
      · rename_i hz; rw [if_neg hz]; exact map_pure h H'
    · cases h
  | field t a f =>
    simp only [act] at h ⊢
    split at h
    · split at h
      · exact map_pure h H'
      · cases h
    · cases h
  | call c =>
    obtain ⟨callee, args, ats⟩ := c
    simp only [act] at h ⊢
    split at h
    · split at h
      · exact map_pure h H'
      · cases h
    · simp [quietOp] at hq
    · exact map_pure h H'
    · exact map_pure h H'
    · cases h
  | _ => first | exact map_pure h H' | simp [quietOp] at hq

theorem footA_quiet {C : Cfg} {nx : Nat} {e : Operand → AV} {o : Op} (hq : quietOp o = true) : footA C nx e o = noFt := by
  cases o with
  | call c =>
    obtain ⟨callee, args, ats⟩ := c
    simp only [quietOp] at hq
    split at hq <;> simp_all [footA]
  | _ => first | rfl | simp [quietOp] at hq

theorem upd_local {H H' : Hs} {i : Nat} {h : Home} {l : List Nat} (hi : i ∈ l) {f : Ft} (hf : f.md = some l) (hH : ∀ id, id ∈ l → H' id = H id) : Local f H H' (upd H i h) (upd H' i h) := by
  refine ⟨fun id hm => ?_, fun id hm => ?_⟩
  · simp only [Ft.mods, hf] at hm
    simp only [upd]
    split
    · rfl
    · exact hH id hm
  · simp only [Ft.mods, hf] at hm
    have : id ≠ i := fun e => hm (e ▸ hi)
    simp [upd, this]

theorem frz_plain {n : Nat} {H : Hs} {v : AV} {x : Dat} {H1 : Hs} (hp : (datA v).isSome = true) (h : frz n H v = some (x, H1)) (H' : Hs) : H1 = H ∧ frz n H' v = some (x, H') := by
  match n, v, hp, h with
  | 0, _, _, h => simp [frz] at h
  | n + 1, .d y, _, h => simp only [frz, Option.some.injEq, Prod.mk.injEq] at h ⊢; exact ⟨h.2.symm, by simp [h.1]⟩
  | n + 1, .nil, _, h => simp only [frz, Option.some.injEq, Prod.mk.injEq] at h ⊢; exact ⟨h.2.symm, by simp [h.1]⟩
  | n + 1, .agg cs, hp, h =>
    have key : ∀ (cs : List AV) (H H' : Hs) (xs : List Dat) (H1 : Hs), (seeAll (fun | .d x => some x | .nil => some (.lst []) | _ => none) cs).isSome = true → frzL (frz n) H cs = some (xs, H1) → H1 = H ∧ frzL (frz n) H' cs = some (xs, H') := by
      intro cs
      induction cs with
      | nil => intro H H' xs H1 _ h; simp only [frzL, Option.some.injEq, Prod.mk.injEq] at h ⊢; exact ⟨h.2.symm, by simp [h.1]⟩
      | cons c cs ih =>
        intro H H' xs H1 hp h
        simp only [seeAll] at hp
        simp only [frzL] at h ⊢
        split at hp
        · rename_i y ys hc hcs
          cases hf : frz n H c with
          | none => simp [hf] at h
          | some r =>
            simp only [hf] at h
            have hr : r.2 = H ∧ frz n H' c = some (r.1, H') := by
              match n, c, hf, hc with
              | 0, _, hf, _ => simp [frz] at hf
              | n + 1, .d y, hf, _ => simp only [frz, Option.some.injEq] at hf ⊢; subst hf; exact ⟨rfl, rfl⟩
              | n + 1, .nil, hf, _ => simp only [frz, Option.some.injEq] at hf ⊢; subst hf; exact ⟨rfl, rfl⟩
            rw [hr.1] at h
            simp only [hr.2]
            cases hl : frzL (frz n) H cs with
            | none => simp [hl] at h
            | some q =>
              simp only [hl, Option.some.injEq, Prod.mk.injEq] at h
              obtain ⟨h1, h2⟩ := ih H H' q.1 q.2 (by rw [hcs]; rfl) hl
              rw [h2]
              exact ⟨h.2.symm.trans h1, by simp only [h.1]⟩
        · cases hp
    simp only [frz] at h ⊢
    obtain ⟨r, hr, he⟩ := Option.map_eq_some_iff.1 h
    simp only [Prod.mk.injEq] at he
    have hp' : (seeAll (fun | .d x => some x | .nil => some (.lst []) | _ => none) cs).isSome = true := by
      simp only [datA, Option.isSome_map] at hp; exact hp
    obtain ⟨h1, h2⟩ := key cs H H' r.1 r.2 hp' hr
    exact ⟨he.2.symm.trans h1, by simp [h2, he.1]⟩

theorem partsD_plain {sz : Nat} {H : Hs} : ∀ {as : List (Nat × AV)} {xs : List Dat} {ys : List Dat} {H1 : Hs}, (∀ p ∈ as, (datA p.2).isSome = true) → partsD sz H xs as = some (ys, H1) → ∀ H', H1 = H ∧ partsD sz H' xs as = some (ys, H')
  | [], xs, ys, H1, _, h, H' => by simp only [partsD, Option.some.injEq, Prod.mk.injEq] at h ⊢; exact ⟨h.2.symm, by simp [h.1]⟩
  | (i, v) :: as, xs, ys, H1, hp, h, H' => by
    simp only [partsD] at h ⊢
    split at h
    · rename_i x H2 h2
      obtain ⟨h3, h4⟩ := frz_plain (hp (i, v) (by simp)) h2 H'
      subst h3
      rw [h4]
      simp only
      split at h
      · rename_i hc
        rw [if_pos hc]
        exact partsD_plain (fun p hq => hp p (by simp [hq])) h H'
      · cases h
    · cases h

theorem see1_local {H H' : Hs} {v : AV} (h : ∀ id ∈ idOf v, H' id = H id) {xs : List Dat} (hs : see 1 H v = some (.lst xs)) : see 1 H' v = some (.lst xs) := by
  cases v with
  | sl id lo hi => simp only [see] at hs ⊢; rw [h id (by simp [idOf])]; exact hs
  | pt id off =>
    simp only [see] at hs
    split at hs
    · simp at hs
    · simp at hs
    · cases hs
  | d x => exact hs
  | nil => exact hs
  | _ => simp [see] at hs

theorem loadA_local {C : Cfg} {H H' : Hs} {t : TypeId} {p : AV} (h : ∀ id ∈ idOf p, H' id = H id) : loadA C H' t p = loadA C H t p := by
  cases p with
  | pt id off => simp only [loadA, h id (by simp [idOf])]
  | pe id i j => simp only [loadA, h id (by simp [idOf])]
  | d x => cases x <;> rfl
  | _ => rfl

theorem sliceA_local {C : Cfg} {H H' : Hs} {t : TypeId} {x : AV} {lo hi : Option AV} {mx : Bool} (h : ∀ id ∈ idOf x, H' id = H id) : sliceA C H' t x lo hi mx = sliceA C H t x lo hi mx := by
  unfold sliceA
  cases C.ty t with
  | none => rfl
  | some y =>
    obtain ⟨desc, size, bytes, zero⟩ := y
    cases x with
    | sl id a b =>
      have hid := h id (by simp [idOf])
      cases desc <;> first | rfl | simp only [hid]
    | d x => cases x <;> cases desc <;> rfl
    | _ => cases desc <;> rfl

theorem indexAddrA_local {C : Cfg} {H H' : Hs} {t : TypeId} {x i : AV} (h : ∀ id ∈ idOf x, H' id = H id) : indexAddrA C H' t x i = indexAddrA C H t x i := by
  unfold indexAddrA
  cases x with
  | sl id a b => simp only [h id (by simp [idOf])]
  | d x => cases x <;> rfl
  | _ => rfl

theorem storeA_local {C : Cfg} {H H' : Hs} {t : TypeId} {p v : AV} (h : ∀ id ∈ idOf p, H' id = H id) {H1 : Hs} (hs : storeA C H t p v = some H1) :
    ∃ id hm, idOf p = [id] ∧ H1 = upd H id hm ∧ storeA C H' t p v = some (upd H' id hm) := by
  unfold storeA at hs ⊢
  cases hz : sizeT C t with
  | none => simp [hz] at hs
  | some n =>
    simp only [hz] at hs ⊢
    cases p with
    | pt id off =>
      have hid := h id (by simp [idOf])
      simp only [hid] at hs ⊢
      split at hs
      · split at hs
        · rename_i hc
          cases hs
          exact ⟨id, _, rfl, rfl, by rw [if_pos hc]⟩
        · cases hs
      · cases hs
    | pe id i j =>
      have hid := h id (by simp [idOf])
      simp only [hid] at hs ⊢
      split at hs
      · split at hs
        · split at hs
          · rename_i hc
            split at hs
            · cases hs
              exact ⟨id, _, rfl, rfl, by rw [if_pos hc]⟩
            · split at hs
              · cases hs
                exact ⟨id, _, rfl, rfl, by rw [if_pos hc]⟩
              · cases hs
          · cases hs
        · cases hs
      · cases hs
    | _ => cases hs

theorem baseA_local {H H' : Hs} {r : Row} {s : AV} (h : ∀ id ∈ idOf s, H' id = H id) {xs : List Dat} {H1 : Hs} (hs : baseA H r s = some (xs, H1)) :
    ∃ H1', baseA H' r s = some (xs, H1') ∧ (∀ id, id ∈ idOf s → H1' id = H1 id) ∧ ∀ id, id ∉ idOf s → H1' id = H' id ∧ H1 id = H id := by
  cases s with
  | nil =>
    simp only [baseA, Option.some.injEq, Prod.mk.injEq] at hs
    obtain ⟨rfl, rfl⟩ := hs
    exact ⟨H', rfl, h, fun _ _ => ⟨rfl, rfl⟩⟩
  | sl id lo hi =>
    have hid := h id (by simp [idOf])
    simp only [baseA, hid] at hs ⊢
    split at hs
    · split at hs
      · rename_i hc
        cases hs
        rw [if_pos hc]
        exact ⟨_, rfl, fun j hj => by simp [idOf] at hj; subst hj; simp [upd], fun j hj => by simp [idOf] at hj; simp [upd, hj]⟩
      · cases hs
    · cases hs
  | _ => cases hs

theorem act_local {C : Cfg} {H : Hs} {nx : Nat} {e : Operand → AV} {o : Op} {x : AV} {H1 : Hs} {n1 : Nat} (h : act C H nx e o = some (x, H1, n1)) (H' : Hs)
    (hH : ∀ id, (footA C nx e o).looks id ∨ (footA C nx e o).mods id → H' id = H id) :
    ∃ H1', act C H' nx e o = some (x, H1', n1) ∧ Local (footA C nx e o) H H' H1 H1' := by
  by_cases hq : quietOp o = true
  · obtain ⟨h1, h2, h3⟩ := act_quiet hq h H'
    subst h1 h2
    exact ⟨H', h3, .quiet fun id hm => hH id (.inr hm)⟩
  · have whole : (footA C nx e o).md = none → ∃ H1', act C H' nx e o = some (x, H1', n1) ∧ Local (footA C nx e o) H H' H1 H1' := fun hw => by
      have : H' = H := funext fun id => hH id (.inr (by simp [Ft.mods, hw]))
      subst this
      exact ⟨H1, h, fun _ _ => rfl, fun id hn => absurd (by simp [Ft.mods, hw]) hn⟩
    cases o with
    | alloc t =>
      simp only [act] at h ⊢
      obtain ⟨y, hy, h⟩ := Option.bind_eq_some_iff.1 h
      cases h
      refine ⟨_, by rw [hy]; rfl, upd_local (l := [nx]) (by simp) rfl (fun id hm => hH id (.inr (by simpa [Ft.mods, footA] using hm)))⟩
    | box t a =>
      simp only [act] at h ⊢
      obtain ⟨y, hy, h⟩ := Option.bind_eq_some_iff.1 h
      split at h
      · rename_i hc
        cases h
        refine ⟨_, by rw [hy]; simp only [Option.bind_some]; rw [if_pos hc], upd_local (l := [nx]) (by simp) rfl (fun id hm => hH id (.inr (by simpa [Ft.mods, footA] using hm)))⟩
      · cases h
    | buildSlice t len ps =>
      by_cases hp : (ps.toList.all fun (_, x) => (datA (e x)).isSome) = true
      · have hf : footA C nx e (.buildSlice t len ps) = ⟨some [], some [nx]⟩ := by simp only [footA, hp, if_true]
        rw [hf] at hH ⊢
        simp only [act] at h ⊢
        split at h
        · rename_i el hel
          split at h
          · rename_i z ye hz hye
            split at h
            · rename_i hc
              split at h
              · rename_i xs H2 hpd
                cases h
                obtain ⟨h1, h2⟩ := partsD_plain (fun q hq => by
                  obtain ⟨p, hpm, rfl⟩ := List.mem_map.1 hq
                  exact List.all_eq_true.1 hp p hpm) hpd H'
                subst h1
                rw [if_pos hc, h2]
                exact ⟨_, rfl, upd_local (l := [nx]) (by simp) rfl (fun id hm => hH id (.inr (by simpa [Ft.mods] using hm)))⟩
              · cases h
            · cases h
          · cases h
        · cases h
      · exact whole (by simp only [footA]; rw [if_neg hp])
    | load t p =>
      have hl := loadA_local (C := C) (t := t) (fun id hi => hH id (.inl hi))
      simp only [act] at h ⊢
      obtain ⟨rfl, rfl, h3⟩ := map_pure h H'
      exact ⟨H', by rw [hl]; exact h3, .quiet fun id hm => by simp [Ft.mods, footA] at hm⟩
    | slice t a lo hi mx =>
      have hl := sliceA_local (C := C) (t := t) (lo := lo.map e) (hi := hi.map e) (mx := mx.isSome) (fun id hi => hH id (.inl hi))
      simp only [act] at h ⊢
      obtain ⟨rfl, rfl, h3⟩ := map_pure h H'
      exact ⟨H', by rw [hl]; exact h3, .quiet fun id hm => by simp [Ft.mods, footA] at hm⟩
    | indexAddr t a i =>
      have hl := indexAddrA_local (C := C) (t := t) (i := e i) (fun id hi => hH id (.inl hi))
      simp only [act] at h ⊢
      obtain ⟨rfl, rfl, h3⟩ := map_pure h H'
      exact ⟨H', by rw [hl]; exact h3, .quiet fun id hm => by simp [Ft.mods, footA] at hm⟩
    | store t p v =>
      simp only [act] at h ⊢
      obtain ⟨H2, h2, he⟩ := Option.map_eq_some_iff.1 h
      simp only [Prod.mk.injEq] at he
      obtain ⟨rfl, rfl, rfl⟩ := he
      obtain ⟨id, hm, hid, rfl, h3⟩ := storeA_local (fun id hi => hH id (.inl hi)) h2
      refine ⟨_, by rw [h3]; rfl, upd_local (l := [id]) (by simp) (by simp [footA, hid]) (fun j hj => hH j (.inr ?_))⟩
      simp only [Ft.mods, footA, hid]; exact hj
    | call c =>
      obtain ⟨callee, args, ats⟩ := c
      simp only [act] at h
      split at h
      · simp [quietOp] at hq
      · split at h
        · rename_i s0 x0 ts tx hx ht
          have hf : footA C nx e (.call ⟨.builtin .append, args, ats⟩) = ⟨some (idOf (e s0) ++ idOf (e x0)), some (nx :: idOf (e s0))⟩ := by simp only [footA, hx]
          rw [hf] at hH ⊢
          have hs0 : ∀ id ∈ idOf (e s0), H' id = H id := fun id hi => hH id (.inl (by simp [Ft.looks, hi]))
          have hx0 : ∀ id ∈ idOf (e x0), H' id = H id := fun id hi => hH id (.inl (by simp [Ft.looks, hi]))
          simp only [act, hx, ht]
          unfold appendA at h ⊢
          split at h
          · rename_i htt
            rw [if_pos htt]
            split at h
            · cases h
            · split at h
              · cases h
              · rename_i ye hye
                split at h
                · rename_i xs H2 new hb hn
                  split at h
                  · rename_i hc
                    simp only [Option.some.injEq, Prod.mk.injEq] at h
                    obtain ⟨rfl, rfl, rfl⟩ := h
                    obtain ⟨H2', h3, h4, h5⟩ := baseA_local hs0 hb
                    rw [h3, see1_local hx0 hn]
                    simp only [if_pos hc]
                    refine ⟨_, rfl, fun id hm => ?_, fun id hm => ?_⟩
                    · simp only [upd]
                      split
                      · rfl
                      · rename_i hne
                        refine h4 id ?_
                        simp only [Ft.mods, List.mem_cons] at hm
                        exact hm.resolve_left hne
                    · simp only [Ft.mods, List.mem_cons, not_or] at hm
                      simp only [upd, hm.1, if_false]
                      exact h5 id hm.2
                  · cases h
                · cases h
          · cases h
        · cases h
      · simp [quietOp] at hq
      · simp [quietOp] at hq
      · cases h
    | _ => first | exact whole rfl | simp [quietOp] at hq

end Go.Jv
