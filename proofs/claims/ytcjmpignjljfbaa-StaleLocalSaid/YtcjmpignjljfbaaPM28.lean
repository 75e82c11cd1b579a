/- The pure machine, part 28: a law's arguments opened all at once, and its row out of its text. -/
import Derived.Test.YtcjmpignjljfbaaPM27
import Derived.Carry
import Derived.ChangeShapes
import Derived.ChangeOld
namespace Go.PM
open Go.RowKit Go.ChangeShapes
set_option linter.unusedVariables false
set_option linter.unusedSimpArgs false

/-- An argument's shape and its cells' types. -/
def flatA (P : Program) (n : Nat) (t : TypeId) : Option (Sh × List Ty) :=
  match P.underlying t, flatT P n t with
  | some (.struct _), some l => some (.agg l.length, l)
  | some .bool, some [ty] => some (.one, [ty])
  | some (.int _), some [ty] => some (.one, [ty])
  | some .string, some [ty] => some (.one, [ty])
  | some (.slice _), some [ty] => some (.one, [ty])
  | _, _ => none

def flatAll (P : Program) (n : Nat) : List TypeId → Option (List Sh × List Ty)
  | [] => some ([], [])
  | t :: ts => match flatA P n t, flatAll P n ts with
    | some (s, l), some (ss, ls) => some (s :: ss, l ++ ls)
    | _, _ => none

section
variable {H : Type} {enc : TypeId × Value → H} {P : Program} {spare : Nat → Bool} {held : Bool} {w : World}

theorem tyCells_row : ∀ {l : List Ty} {cs : List Cell}, TyCells l cs → ∃ y : DenR (Row.of l), expl (Row.of l) y = cs ∧ WfR (Row.of l) y
  | [], cs, h => ⟨(), by rw [show cs = [] from h]; simp [Row.of, expl], by simp [Row.of, WfR]⟩
  | [t], cs, ⟨x, cs1, h1, h2, h3⟩ => by
    subst h1
    have : cs1 = [] := h3
    subst this
    exact ⟨x, by simp [Row.of, expl], by simpa [Row.of, WfR] using h2⟩
  | t :: t' :: l, cs, ⟨x, cs1, h1, h2, h3⟩ => by
    subst h1
    obtain ⟨y, k1, k2⟩ := tyCells_row h3
    refine ⟨(x, y), ?_, ?_⟩
    · simp only [Row.of, expl] at k1 ⊢
      rw [k1]
    · simp only [Row.of, WfR] at k2 ⊢
      exact ⟨h2, k2⟩

theorem open_cells {n : Nat} : ∀ {ts : List TypeId} {ss : List Sh} {ls : List Ty} {vs : List Value} {ds : List (DataW H)} {ps : List MemPlace} {r : Reach} {b0 : Nat}, flatAll P n ts = some (ss, ls) →
    (∀ (j : Nat) t v, ts[j]? = some t → vs[j]? = some v → Value.okWide P w r b0 t v) → DataW.TrodAll enc P w 0 spare held ts vs ds ps →
    ∃ cells, TyCells ls cells ∧ RepPs (E0 w) G0 w (argPVs ss cells) vs
  | [], ss, ls, vs, ds, ps, r, b0, h, _, hA => by
    simp [flatAll] at h
    obtain ⟨rfl, rfl⟩ := h
    obtain ⟨rfl, _, _⟩ := trodAll_nil hA
    exact ⟨[], rfl, rfl⟩
  | t :: ts, ss, ls, vs, ds, ps, r, b0, h, hv, hA => by
    obtain ⟨v, vs, d, ds, p, q, rfl, rfl, rfl, h1, h2⟩ := trodAll_cons hA
    simp only [flatAll] at h
    split at h
    · rename_i s l ss' ls' hs hss
      cases h
      obtain ⟨cells, k1, k2⟩ := open_cells hss (fun j t' v' ht hv' => hv (j + 1) t' v' (by simpa using ht) (by simpa using hv')) h2
      have hv0 := hv 0 t v rfl rfl
      have one : ∀ ty, flatT P n t = some [ty] → v.cells = #[v] → ∃ cells, TyCells ([ty] ++ ls') cells ∧ RepPs (E0 w) G0 w (argPVs (.one :: ss') cells) (v :: vs) := by
        intro ty hl hc
        obtain ⟨y, g1, g2⟩ := open_one hl hc h1
        exact ⟨inj ty y :: cells, tyCells_app (show TyCells [ty] [inj ty y] from ⟨y, [], rfl, g1, rfl⟩) k1, v, vs, rfl, g2, k2⟩
      unfold flatA at hs
      split at hs
      · rename_i fs l0 hu hl
        cases hs
        obtain ⟨y, g1, g2⟩ := open_agg hu hl hv0 h1
        have hlen : (expl (Row.of l) y).length = l.length := by rw [expl_length, sz_of]
        have hty : ∀ (l : List Ty) (y : DenR (Row.of l)), WfR (Row.of l) y → TyCells l (expl (Row.of l) y) := by
          intro l
          induction l with
          | nil => intro y _; simp [Row.of, expl, TyCells]
          | cons t0 l ih =>
            intro y hy
            cases l with
            | nil => simp only [Row.of, expl, WfR] at hy ⊢; exact ⟨y, [], rfl, hy, rfl⟩
            | cons t1 l =>
              simp only [Row.of, expl, WfR] at hy ⊢
              exact ⟨y.1, _, rfl, hy.1, ih y.2 hy.2⟩
        refine ⟨expl (Row.of l) y ++ cells, tyCells_app (hty l y g1) k1, ?_⟩
        refine ⟨v, vs, rfl, ?_, ?_⟩
        · have : (expl (Row.of l) y ++ cells).take l.length = expl (Row.of l) y := by rw [← hlen, List.take_left]
          rw [this]; exact g2
        · have : (expl (Row.of l) y ++ cells).drop l.length = cells := by rw [← hlen, List.drop_left]
          rw [this]; exact k2
      · rename_i ty hu hl
        cases hs
        obtain ⟨b, rfl⟩ := WideShapes.okWide_bool hu hv0
        exact one ty hl rfl
      · rename_i k ty hu hl
        cases hs
        obtain ⟨b, rfl⟩ := WideShapes.okWide_int hu hv0
        exact one ty hl rfl
      · rename_i ty hu hl
        cases hs
        obtain ⟨b, rfl⟩ := WideShapes.okWide_string hu hv0
        exact one ty hl rfl
      · rename_i e ty hu hl
        cases hs
        obtain ⟨a, len, cap, rfl⟩ := WideShapes.okWide_slice hu hv0
        exact one ty hl rfl
      · cases hs
    · cases h

theorem open_all {n : Nat} {ts : List TypeId} {ss : List Sh} {ls : List Ty} {vs : List Value} {ds : List (DataW H)} {ps : List MemPlace} {r : Reach} {b0 : Nat} (h : flatAll P n ts = some (ss, ls))
    (hv : ∀ (j : Nat) t v, ts[j]? = some t → vs[j]? = some v → Value.okWide P w r b0 t v) (hA : DataW.TrodAll enc P w 0 spare held ts vs ds ps) :
    ∃ y : DenR (Row.of ls), WfR (Row.of ls) y ∧ RepPs (E0 w) G0 w (argPVs ss (expl (Row.of ls) y)) vs := by
  obtain ⟨cells, h1, h2⟩ := open_cells h hv hA
  obtain ⟨y, k1, k2⟩ := tyCells_row h1
  exact ⟨y, k2, by rw [k1]; exact h2⟩

/-- The arguments read behind the call as they did before. -/
theorem trodAll_below {W W' : World} (hl : laidOutB P = true) (hb : Below W.heap.size W W') : ∀ {ts : List TypeId} {vs : List Value} {ds : List (DataW H)} {ps : List MemPlace}, ts.all (fun t => P.readableRec t && decide (t < P.types.size)) = true →
    DataW.TrodAll enc P W 0 (fun _ => true) true ts vs ds ps → DataW.TrodAll enc P W' 0 (fun b => decide (b < W.heap.size)) true ts vs ds ps
  | [], vs, ds, ps, _, hA => by
    obtain ⟨rfl, rfl, rfl⟩ := trodAll_nil hA
    exact rfl
  | t :: ts, vs, ds, ps, ht, hA => by
    obtain ⟨v, vs, d, ds, p, q, rfl, rfl, rfl, h1, h2⟩ := trodAll_cons hA
    simp only [List.all_cons, Bool.and_eq_true, decide_eq_true_eq] at ht
    have hlt : ∀ x ∈ p, x.block < W.heap.size := by obtain ⟨m, hm⟩ := h1; exact DataW.trod_lt m _ _ _ hm
    exact ⟨p, q, Below.trod hl ht.1.1 ht.1.2 h1 hb hlt, trodAll_below hl hb (by simpa using ht.2) h2, rfl⟩

/-- The law's call, out of its text. -/
theorem law_calls {n : Nat} {ts : List TypeId} {ss : List Sh} {ls : List Ty} {vs : List Value} {ds : List (DataW H)} {ps : List MemPlace} {r : Reach} {b0 : Nat} {cx : Ctx} {f : FuncId} {fd : Body} {fn : Func} {fds : FuncId → Option Body} {d : Nat}
    (htab : TabOk P cx.ti) (hsp : SpecsOK P cx) (hmx : P.follows .mixedOrders = true) (hfd : FdsOK P fds) (hf : FnOK P f fd fn) (h : flatAll P n ts = some (ss, ls))
    (hv : ∀ (j : Nat) t v, ts[j]? = some t → vs[j]? = some v → Value.okWide P w r b0 t v) (hA : DataW.TrodAll enc P w 0 spare held ts vs ds ps)
    (hrun : ∀ y : DenR (Row.of ls), WfR (Row.of ls) y → runT (rb := .cons .bool .nil) cx (calls cx fds d) fd ss .one (expl (Row.of ls) y) = some true) :
    Calls P f vs.toArray w (fun e w' => e = .returned (.bool true) ∧ Below w.heap.size w w') := by
  obtain ⟨y, h1, h2⟩ := open_all h hv hA
  obtain ⟨p1, p2⟩ := expl_strip (Row.of ls) y
  refine (run_sound htab hsp hmx (calls_sound htab hsp hmx hfd d) hf p1 p2 (hrun y h1) (simM_bare rfl rfl) h2).mono ?_
  rintro e w' ⟨x, rfl, hb, hr⟩
  have : x = .bool true := hr
  exact ⟨by rw [this], hb⟩

end
end Go.PM
