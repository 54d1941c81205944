/- Trees of a type as plain values: what an argument reads as. -/
import Derived.Test.YtdcpfmjnkcodiaaDoorJvW
import Derived.Test.YtdcpfmjnkcodiaaDoorJwE
namespace Go.Jv

section
variable {P : Program}

/-- a number of its kind -/
def inK (k : IntKind) (n : Int) : Prop := (Lit.int k n).wf = true
/-- a string that a process can hold -/
def strOk (s : ByteArray) : Prop := s.size ≤ reachBytes
/-- a slice that a process can hold -/
def lstOk {α : Type} (B : Nat) (wf : α → Prop) (l : List α) : Prop := l.length * B ≤ reachBytes ∧ ∀ v ∈ l, wf v

theorem has_int {t : TypeId} {k : IntKind} {x : Dat} (hu : P.underlying t = some (.int k)) (h : Has P t x) : ∃ n, x = .int k n ∧ inK k n := by
  cases h with
  | int n h hn => rw [hu] at h; cases h; exact ⟨n, rfl, hn⟩
  | bool b h => rw [hu] at h; cases h
  | str s h => rw [hu] at h; cases h
  | lst xs h => rw [hu] at h; cases h
  | ptr x h => rw [hu] at h; cases h
  | nilp h => rw [hu] at h; cases h
  | struct p h => rw [hu] at h; cases h
  | array p h => rw [hu] at h; cases h
theorem has_bool {t : TypeId} {x : Dat} (hu : P.underlying t = some .bool) (h : Has P t x) : ∃ b, x = .bool b ∧ True := by
  cases h with
  | bool b h => exact ⟨b, rfl, trivial⟩
  | int n h hn => rw [hu] at h; cases h
  | str s h => rw [hu] at h; cases h
  | lst xs h => rw [hu] at h; cases h
  | ptr x h => rw [hu] at h; cases h
  | nilp h => rw [hu] at h; cases h
  | struct p h => rw [hu] at h; cases h
  | array p h => rw [hu] at h; cases h
theorem has_str {t : TypeId} {x : Dat} (hu : P.underlying t = some .string) (h : Has P t x) : ∃ s, x = .str s ∧ strOk s := by
  cases h with
  | str s h hs => exact ⟨s, rfl, hs⟩
  | bool b h => rw [hu] at h; cases h
  | int n h hn => rw [hu] at h; cases h
  | lst xs h => rw [hu] at h; cases h
  | ptr x h => rw [hu] at h; cases h
  | nilp h => rw [hu] at h; cases h
  | struct p h => rw [hu] at h; cases h
  | array p h => rw [hu] at h; cases h
theorem map_of {α : Type} {enc : α → Dat} {wf : α → Prop} : ∀ {xs : List Dat}, (∀ x ∈ xs, ∃ v : α, x = enc v ∧ wf v) → ∃ l : List α, xs = l.map enc ∧ ∀ v ∈ l, wf v := by
  intro xs
  induction xs with
  | nil => intro _; exact ⟨[], rfl, by simp⟩
  | cons x xs ih =>
    intro h
    obtain ⟨v, rfl, hv⟩ := h x List.mem_cons_self
    obtain ⟨l, rfl, hl⟩ := ih fun y hy => h y (List.mem_cons_of_mem _ hy)
    refine ⟨v :: l, rfl, fun w hw => ?_⟩
    rcases List.mem_cons.1 hw with rfl | hw
    · exact hv
    · exact hl w hw
theorem has_lst {α : Type} {enc : α → Dat} {wf : α → Prop} {t e : TypeId} {B : Nat} {x : Dat} (hu : P.underlying t = some (.slice e)) (hB : P.bytesOf e = B) (hd : ∀ y, Has P e y → ∃ v : α, y = enc v ∧ wf v) (h : Has P t x) : ∃ l : List α, x = .lst (l.map enc) ∧ lstOk B wf l := by
  cases h with
  | lst xs h hb hx =>
    rw [hu] at h; cases h
    obtain ⟨l, rfl, hl⟩ := map_of fun y hy => hd y (hx y hy)
    exact ⟨l, rfl, by rw [← hB]; simpa using hb, hl⟩
  | bool b h => rw [hu] at h; cases h
  | int n h hn => rw [hu] at h; cases h
  | str s h => rw [hu] at h; cases h
  | ptr x h => rw [hu] at h; cases h
  | nilp h => rw [hu] at h; cases h
  | struct p h => rw [hu] at h; cases h
  | array p h => rw [hu] at h; cases h

def HasAll (P : Program) : List TypeId → List Dat → Prop
  | [], [] => True
  | t :: ts, x :: xs => Has P t x ∧ HasAll P ts xs
  | _, _ => False

theorem hasAll_of : ∀ {ts : List TypeId} {xs : List Dat}, xs.length = ts.length → (∀ (i : Nat) t x, ts[i]? = some t → xs[i]? = some x → Has P t x) → HasAll P ts xs := by
  intro ts
  induction ts with
  | nil => intro xs h _; cases xs with | nil => trivial | cons => simp at h
  | cons t ts ih =>
    intro xs h hx
    cases xs with
    | nil => simp at h
    | cons x xs => exact ⟨hx 0 t x rfl rfl, ih (by simpa using h) fun i t' x' ht hx' => hx (i + 1) t' x' (by simpa using ht) (by simpa using hx')⟩

theorem has_struct {t : TypeId} {fs : Array Field} {ts : List TypeId} {x : Dat} (hu : P.underlying t = some (.struct fs)) (hts : fs.toList.map (·.type) = ts) (h : Has P t x) : ∃ parts, x = .agg (parts.flatMap Dat.cells) ∧ HasAll P ts parts := by
  cases h with
  | struct parts h hl hx =>
    rw [hu] at h; cases h
    refine ⟨parts, rfl, hasAll_of (by rw [← hts]; simpa using hl) fun i t' x' ht hx' => ?_⟩
    rw [← hts, List.getElem?_map] at ht
    obtain ⟨f, hf, rfl⟩ := Option.map_eq_some_iff.1 ht
    exact hx i f x' (by simpa using hf) hx'
  | bool b h => rw [hu] at h; cases h
  | int n h hn => rw [hu] at h; cases h
  | str s h => rw [hu] at h; cases h
  | lst xs h => rw [hu] at h; cases h
  | ptr x h => rw [hu] at h; cases h
  | nilp h => rw [hu] at h; cases h
  | array p h => rw [hu] at h; cases h

theorem has_array {t e : TypeId} {n : Nat} {x : Dat} (hu : P.underlying t = some (.array n e)) (h : Has P t x) : ∃ parts, x = .agg (parts.flatMap Dat.cells) ∧ HasAll P (List.replicate n e) parts := by
  cases h with
  | array parts h hl hx =>
    rw [hu] at h; cases h
    refine ⟨parts, rfl, hasAll_of (by simpa using hl) fun i t' x' ht hx' => ?_⟩
    rw [List.getElem?_replicate] at ht
    split at ht
    · cases ht; exact hx x' (List.mem_of_getElem? hx')
    · cases ht
  | bool b h => rw [hu] at h; cases h
  | int n h hn => rw [hu] at h; cases h
  | str s h => rw [hu] at h; cases h
  | lst xs h => rw [hu] at h; cases h
  | ptr x h => rw [hu] at h; cases h
  | nilp h => rw [hu] at h; cases h
  | struct p h => rw [hu] at h; cases h

theorem len48 {α : Type} {B : Nat} {wf : α → Prop} {l : List α} (h : lstOk B wf l) : l.length * B ≤ 140737488351232 := h.1
end
end Go.Jv
