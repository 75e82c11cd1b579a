/- The pure machine, part 23: what a law is handed, opened as data. -/
import Derived.Test.YtcjmpignjljfbaaPM22
import Derived.ChangeArms
import Derived.WideShapes
namespace Go.PM
open Go.RowKit
set_option linter.unusedVariables false
set_option linter.unusedSimpArgs false

def Row.of : List Ty → Row
  | [] => .nil
  | t :: l => .cons t (Row.of l)

theorem sz_of : ∀ l : List Ty, sz (Row.of l) = l.length
  | [] => rfl
  | t :: l => by simp only [Row.of, sz, sz_of l, List.length_cons]

mutual
def WfT : (t : Ty) → Den t → Prop
  | .bool, _ => True
  | .int k, n => (Lit.int k n).wf = true
  | .str, s => s.size ≤ maxLen
  | .sl r, l => l.length ≤ maxLen ∧ ∀ x ∈ l, WfR r x
def WfR : (r : Row) → DenR r → Prop
  | .nil, _ => True
  | .cons t .nil, x => WfT t x
  | .cons t (.cons u r), x => WfT t x.1 ∧ WfR (.cons u r) x.2
  | .cons t .expr, x => WfT t x.1
  | .expr, _ => True
end

def flatF (P : Program) (fl : TypeId → Option (List Ty)) : List Field → Nat → Option (List Ty)
  | [], _ => some []
  | f :: fs, off => match fl f.type with
    | some l => bif Nat.beq f.offset off && Nat.beq (P.cellsOf f.type) l.length then (match flatF P fl fs (off + l.length) with
      | some l' => some (l ++ l')
      | none => none) else none
    | none => none

/-- A type's cells. -/
def flatT (P : Program) : Nat → TypeId → Option (List Ty)
  | 0, _ => none
  | n + 1, t => match P.underlying t with
    | some .bool => some [.bool]
    | some (.int k) => some [.int k]
    | some .string => some [.str]
    | some (.slice e) => (match flatT P n e with
      | some l => bif Nat.beq (P.cellsOf e) l.length && Nat.blt 0 l.length then some [.sl (Row.of l)] else none
      | none => none)
    | some (.struct fs) => (match flatF P (flatT P n) fs.toList 0 with
      | some l => bif Nat.beq (P.cellsOf t) l.length then some l else none
      | none => none)
    | _ => none

def TyCells : List Ty → List Cell → Prop
  | [], cs => cs = []
  | t :: l, cs => ∃ (x : Den t) (cs' : List Cell), cs = inj t x :: cs' ∧ WfT t x ∧ TyCells l cs'

theorem tyCells_app : ∀ {l l' : List Ty} {cs cs' : List Cell}, TyCells l cs → TyCells l' cs' → TyCells (l ++ l') (cs ++ cs')
  | [], l', cs, cs', h, h' => by rw [show cs = [] from h]; exact h'
  | t :: l, l', cs, cs', ⟨x, cs1, h1, h2, h3⟩, h' => by subst h1; exact ⟨x, cs1 ++ cs', rfl, h2, tyCells_app h3 h'⟩

theorem tyCells_length : ∀ {l : List Ty} {cs : List Cell}, TyCells l cs → cs.length = l.length
  | [], cs, h => by rw [show cs = [] from h]; rfl
  | t :: l, cs, ⟨x, cs1, h1, h2, h3⟩ => by subst h1; simp [tyCells_length h3]

section
variable {E : Env} {G : Gh} {w : World}

theorem inj_repD {t : Ty} {x : Den t} {u : Value} (h : RepC E G w (inj t x) u) : RepD w (okG E G) (toD t x) u := by
  cases t with
  | bool => rw [show u = _ from h]; simp [toD, RepD]
  | int k => rw [show u = _ from h]; simp [toD, RepD]
  | str => rw [show u = _ from h]; simp [toD, RepD]
  | sl r => exact h.1

theorem cells_row : ∀ {l : List Ty} {cs : List Cell} {us : List Value}, TyCells l cs → RepCs E G w cs us → ∃ y : DenR (Row.of l), expl (Row.of l) y = cs ∧ WfR (Row.of l) y ∧
    ∀ j, j < l.length → ∃ u, us[j]? = some u ∧ RepD w (okG E G) ((toDs (Row.of l) y).getD j dNo) u
  | [], cs, us, h, _ => ⟨(), by rw [show cs = [] from h]; simp [Row.of, expl], by simp [Row.of, WfR], fun j hj => by simp at hj⟩
  | [t], cs, us, ⟨x, cs1, h1, h2, h3⟩, hr => by
    subst h1
    have : cs1 = [] := h3
    subst this
    obtain ⟨u, us', rfl, ⟨g1, _⟩, g2⟩ := hr
    refine ⟨x, by simp [Row.of, expl], by simpa [Row.of, WfR] using h2, fun j hj => ?_⟩
    have : j = 0 := by simp at hj; omega
    subst this
    exact ⟨u, rfl, by simpa [Row.of, toDs] using inj_repD g1⟩
  | t :: t' :: l, cs, us, ⟨x, cs1, h1, h2, h3⟩, hr => by
    subst h1
    obtain ⟨u, us', rfl, ⟨g1, _⟩, g2⟩ := hr
    obtain ⟨y, k1, k2, k3⟩ := cells_row h3 g2
    refine ⟨(x, y), ?_, ?_, fun j hj => ?_⟩
    · simp only [Row.of, expl] at k1 ⊢
      rw [k1]
    · simp only [Row.of, WfR] at k2 ⊢
      exact ⟨h2, k2⟩
    · cases j with
      | zero => exact ⟨u, rfl, by simpa [Row.of, toDs] using inj_repD g1⟩
      | succ j =>
        obtain ⟨v, q1, q2⟩ := k3 j (by simpa using hj)
        exact ⟨v, by simpa using q1, by simpa [Row.of, toDs] using q2⟩

theorem list_of {α : Type} {Q : Nat → α → Prop} : ∀ n : Nat, (∀ i, i < n → ∃ y, Q i y) → ∃ ys : List α, ys.length = n ∧ ∀ (i : Nat) y, ys[i]? = some y → Q i y
  | 0, _ => ⟨[], rfl, fun i y h => by simp at h⟩
  | n + 1, h => by
    obtain ⟨ys, h1, h2⟩ := list_of n fun i hi => h i (by omega)
    obtain ⟨y, hy⟩ := h n (by omega)
    refine ⟨ys ++ [y], by simp [h1], fun i z hz => ?_⟩
    by_cases hi : i < ys.length
    · rw [List.getElem?_append_left hi] at hz; exact h2 i z hz
    · rw [List.getElem?_append_right (by omega)] at hz
      have : i = n := by
        have := (List.getElem?_eq_some_iff.1 hz).1
        simp at this; omega
      subst this
      simp [h1] at hz
      subst hz; exact hy

variable {H : Type} {enc : TypeId × Value → H} {P : Program} {spare : Nat → Bool} {held : Bool}

theorem flatF_open {n : Nat} (hrec : ∀ (t : TypeId) (l : List Ty), flatT P n t = some l → ∀ fuel cs x, DataW.trod enc P w 0 spare held fuel t cs = some x → ∃ cells, TyCells l cells ∧ RepCs E G w cells cs) {cs : List Value} {fuel : Nat} :
    ∀ (fs : List Field) (off : Nat) (l : List Ty), flatF P (flatT P n) fs off = some l → (∀ f ∈ fs, ∃ y, DataW.trod enc P w 0 spare held fuel f.type ((cs.drop f.offset).take (P.cellsOf f.type)) = some y) →
      ∃ cells, TyCells l cells ∧ RepCs E G w cells ((cs.drop off).take l.length)
  | [], off, l, h, _ => by simp [flatF] at h; subst h; exact ⟨[], rfl, by simp [RepCs]⟩
  | f :: fs, off, l, h, hf => by
    simp only [flatF] at h
    split at h
    · rename_i l1 hl1
      cases hc : (Nat.beq f.offset off && Nat.beq (P.cellsOf f.type) l1.length) with
      | false => rw [hc] at h; cases h
      | true =>
        rw [hc] at h
        simp only [cond_true] at h
        simp only [Bool.and_eq_true, Nat.beq_eq] at hc
        split at h
        · rename_i l2 hl2
          cases h
          obtain ⟨y, hy⟩ := hf f List.mem_cons_self
          rw [hc.1, hc.2] at hy
          obtain ⟨c1, a1, a2⟩ := hrec _ _ hl1 _ _ _ hy
          obtain ⟨c2, b1, b2⟩ := flatF_open hrec fs _ l2 hl2 fun g hg => hf g (List.mem_cons_of_mem _ hg)
          refine ⟨c1 ++ c2, tyCells_app a1 b1, ?_⟩
          rw [List.length_append, List.take_add, List.drop_drop]
          exact a2.app b2
        · cases h
    · cases h

theorem flat_open (hok : ∀ b o, okG E G b o) (hsmall : ∀ e ∈ G.tk, False) : ∀ (n : Nat) (t : TypeId) (l : List Ty), flatT P n t = some l → ∀ fuel cs x, DataW.trod enc P w 0 spare held fuel t cs = some x → ∃ cells, TyCells l cells ∧ RepCs E G w cells cs
  | 0, t, l, h, fuel, cs, x, hx => by simp [flatT] at h
  | n + 1, t, l, h, fuel, cs, x, hx => by
    simp only [flatT] at h
    split at h
    · rename_i hu
      cases h
      obtain ⟨b, rfl, _⟩ := DataW.trod_bool hu hx
      exact ⟨[.val (.bool b)], ⟨b, [], rfl, by simp [WfT], rfl⟩, _, _, rfl, ⟨rfl, rfl⟩, rfl⟩
    · rename_i k hu
      cases h
      obtain ⟨m, rfl, _, hw⟩ := DataW.trod_int hu hx
      exact ⟨[.val (.int k m)], ⟨m, [], rfl, by simpa [WfT] using hw, rfl⟩, _, _, rfl, ⟨rfl, rfl⟩, rfl⟩
    · rename_i hu
      cases h
      obtain ⟨s, rfl, _, hw⟩ := DataW.trod_string hu hx
      exact ⟨[.val (.string s)], ⟨s, [], rfl, by simpa [WfT] using hw, rfl⟩, _, _, rfl, ⟨rfl, rfl⟩, rfl⟩
    · rename_i e hu
      split at h
      · rename_i l1 hl1
        cases hc : (Nat.beq (P.cellsOf e) l1.length && Nat.blt 0 l1.length) with
        | false => rw [hc] at h; cases h
        | true =>
          rw [hc] at h
          cases h
          simp only [Bool.and_eq_true, Nat.beq_eq, Nat.blt_eq] at hc
          have mk : ∀ (ys : List (DenR (Row.of l1))) (v : Value), ys.length ≤ maxLen → (∀ y ∈ ys, WfR (Row.of l1) y) → RepD w (okG E G) (toD (.sl (Row.of l1)) ys) v → v.oneCell' = true → ∃ cells, TyCells [.sl (Row.of l1)] cells ∧ RepCs E G w cells [v] := by
            intro ys v h1 h2 h3 h4
            exact ⟨[.sl (Row.of l1) ys 0], ⟨ys, [], rfl, by simp only [WfT]; exact ⟨h1, h2⟩, rfl⟩, _, _, rfl, ⟨⟨h3, Nat.zero_le _, fun e he => (hsmall e he).elim⟩, h4⟩, rfl⟩
          rcases DataW.trod_slice hu hx with ⟨rfl, _⟩ | ⟨a, len, cap, elems, rest, m, _, rfl, _, _, hle, hcap, hlen, hel, _, _⟩
          · exact mk [] _ (Nat.zero_le _) (fun y hy => by cases hy) ⟨none, 0, rfl, Nat.le_refl _, fun i j hi => by simp at hi⟩ rfl
          · have each : ∀ i, i < len → ∃ y : DenR (Row.of l1), WfR (Row.of l1) y ∧ ∀ j, j < l1.length → ∃ u, w.cell? (a.add (i * l1.length + j)) = some u ∧ RepD w (okG E G) ((toDs (Row.of l1) y).getD j dNo) u := by
              intro i hi
              have h1 := hel i hi
              rw [List.getElem?_eq_getElem (by omega), Option.bind_eq_some_iff] at h1
              obtain ⟨ci, h2, h3⟩ := h1
              obtain ⟨cells, g1, g2⟩ := flat_open hok hsmall n e l1 hl1 _ _ _ h3
              obtain ⟨y, k1, k2, k3⟩ := cells_row g1 g2
              obtain ⟨_, h5, h6⟩ := World.cells?_some h2
              refine ⟨y, k2, fun j hj => ?_⟩
              obtain ⟨u, q1, q2⟩ := k3 j hj
              refine ⟨u, ?_, q2⟩
              have := h6 j (by omega)
              rw [add_add, hc.1] at this
              rw [this]; exact q1
            obtain ⟨ys, h1, h2⟩ := list_of len each
            refine mk ys _ (by omega) (fun y hy => ?_) ?_ rfl
            · obtain ⟨i, hi⟩ := List.getElem?_of_mem hy
              exact (h2 i y hi).1
            · refine ⟨some a, cap, by rw [h1], by omega, fun i j hi hj => ?_⟩
              rw [sz_of] at hj ⊢
              obtain ⟨_, q⟩ := h2 i ys[i] (List.getElem?_eq_getElem hi)
              obtain ⟨u, q1, q2⟩ := q j hj
              refine ⟨a, u, rfl, hok _ _, q1, ?_⟩
              have : (List.map (toDs (Row.of l1)) ys).getD i [] = toDs (Row.of l1) ys[i] := by
                simp [List.getD, hi]
              show RepD w (okG E G) (((List.map (toDs (Row.of l1)) ys).getD i []).getD j dNo) u
              rw [this]; exact q2
      · cases h
    · rename_i fs hu
      split at h
      · rename_i l1 hl1
        cases hc : Nat.beq (P.cellsOf t) l1.length with
        | false => rw [hc] at h; cases h
        | true =>
          rw [hc] at h
          cases h
          rw [Nat.beq_eq] at hc
          obtain ⟨xs, m, _, _, h1, h2, h3⟩ := DataW.trod_struct hu hx
          obtain ⟨cells, g1, g2⟩ := flatF_open (cs := cs) (fuel := m) (flat_open hok hsmall n) fs.toList 0 _ hl1 (by
            intro f hf
            obtain ⟨i, hi⟩ := List.getElem?_of_mem hf
            rw [Array.getElem?_toList] at hi
            have hlt : i < xs.length := by rw [h2]; exact (Array.getElem?_eq_some_iff.1 hi).1
            exact ⟨xs[i], by rw [h3 i f hi, List.getElem?_eq_getElem hlt]⟩)
          refine ⟨cells, g1, ?_⟩
          rw [List.drop_zero, List.take_of_length_le (by omega)] at g2
          exact g2
      · cases h
    · cases h

end

/-- The world that a law begins in. -/
def E0 (w : World) : Env := ⟨w.heap.size, fun _ _ => True, w⟩
def G0 : Gh := ⟨[], [], 0⟩

theorem okG0 (w : World) (b o : Nat) : okG (E0 w) G0 b o := ⟨fun _ => trivial, fun h => (by cases h), fun e h => (by cases h)⟩

section
variable {H : Type} {enc : TypeId × Value → H} {P : Program} {spare : Nat → Bool} {held : Bool} {w : World}

/-- An argument that is a struct. -/
theorem open_agg {n : Nat} {t : TypeId} {fs : Array Field} {l : List Ty} (hu : P.underlying t = some (.struct fs)) (hl : flatT P n t = some l) {r : Reach} {b0 : Nat} {v : Value} {d : DataW H} {p : List MemPlace} (hv : Value.okWide P w r b0 t v)
    (h : DataW.Trod enc P w 0 spare held t v d p) : ∃ y : DenR (Row.of l), WfR (Row.of l) y ∧ RepP (E0 w) G0 w (.agg (expl (Row.of l) y)) v := by
  obtain ⟨cs, rfl, _⟩ := WideShapes.okWide_struct hu hv
  obtain ⟨fuel, hf⟩ := h
  obtain ⟨cells, h1, h2⟩ := flat_open (okG0 w) (fun e h => by cases h) n t l hl fuel _ _ hf
  obtain ⟨y, k1, k2, _⟩ := cells_row h1 h2
  exact ⟨y, k2, cs.toList, by simp, by rw [k1]; exact h2⟩

/-- An argument of one cell. -/
theorem open_one {n : Nat} {t : TypeId} {ty : Ty} (hl : flatT P n t = some [ty]) {v : Value} (hv : v.cells = #[v]) {d : DataW H} {p : List MemPlace}
    (h : DataW.Trod enc P w 0 spare held t v d p) : ∃ y : Den ty, WfT ty y ∧ RepP (E0 w) G0 w (.one (inj ty y)) v := by
  obtain ⟨fuel, hf⟩ := h
  rw [hv] at hf
  obtain ⟨cells, h1, h2⟩ := flat_open (okG0 w) (fun e h => by cases h) n t _ hl fuel _ _ hf
  obtain ⟨x, cs', rfl, h3, h4⟩ := h1
  obtain ⟨u, us, h5, ⟨h6, _⟩, _⟩ := h2
  cases h5
  exact ⟨x, h3, h6⟩

end
end Go.PM
