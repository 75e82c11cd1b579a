/- The pure machine, part 26: loops over lists. -/
import Derived.Test.YtcjmpignjljfbaaPM24
import Derived.IntWalk
namespace Go.PM
set_option linter.unusedVariables false
set_option linter.unusedSimpArgs false

/-- A walk over a list with a state, that may end early. -/
def walkL {α σ ρ : Type} (step : σ → α → Option ρ ⊕ σ) (last : σ → Option ρ) : List α → σ → Option ρ
  | [], s => last s
  | x :: l, s => match step s x with
    | .inl r => r
    | .inr s' => walkL step last l s'

theorem loopT_walk {α σ ρ τ : Type} {B : (τ → Option ρ) → τ → Option ρ} (l : List α) (mk : Nat → σ → τ) (step : σ → α → Option ρ ⊕ σ) (last : σ → Option ρ)
    (hstep : ∀ (R : τ → Option ρ) (i : Nat) (hi : i < l.length) s, B R (mk i s) = match step s l[i] with
      | .inl r => r
      | .inr s' => R (mk (i + 1) s'))
    (hlast : ∀ (R : τ → Option ρ) s, B R (mk l.length s) = last s) : ∀ (k i N : Nat) (s : σ), k + i = l.length → k < N → loopT N B (mk i s) = walkL step last (l.drop i) s
  | k, i, 0, s, _, h => by omega
  | 0, i, N + 1, s, h, _ => by
    have hi : i = l.length := by omega
    subst hi
    rw [List.drop_length]
    exact hlast _ _
  | k + 1, i, N + 1, s, h, hN => by
    have hi : i < l.length := by omega
    rw [List.drop_eq_getElem_cons hi]
    show B (loopT N B) (mk i s) = _
    rw [hstep _ i hi]
    simp only [walkL]
    cases step s l[i] with
    | inl r => rfl
    | inr s' => exact loopT_walk l mk step last hstep hlast k (i + 1) N s' (by omega) (by omega)

/-! ### What functions are known to give, grown one by one -/
def look : List (Nat × Spec) → FuncId → Option Spec
  | [], _ => none
  | (f, g) :: l, k => bif Nat.beq f k then some g else look l k

theorem specsOK_nil {P : Program} {ti : Nat → Option TI} {n : Nat} : SpecsOK P ⟨ti, look [], n⟩ := fun f g h => by cases h

theorem specsOK_cons {P : Program} {ti : Nat → Option TI} {n : Nat} {l : List (Nat × Spec)} {f : Nat} {g : Spec} (h : SpecOK P f g) (hl : SpecsOK P ⟨ti, look l, n⟩) : SpecsOK P ⟨ti, look ((f, g) :: l), n⟩ := by
  intro k g' hk
  simp only [look] at hk
  cases hb : Nat.beq f k with
  | true => rw [hb] at hk; cases hk; rw [← Nat.eq_of_beq_eq_true hb]; exact h
  | false => rw [hb] at hk; exact hl k g' hk

open Go.RowKit in
/-- Out of any contract that leaves alone what was there. -/
theorem specOK_mk {P : Program} {f : FuncId} (hcall : Callable P f) {ss : List Sh} {ra : Row} {sh : Sh} {rb : Row} {C : DenR ra → Bool} {F : DenR ra → DenR rb}
    (hg : ∀ x, C x = true → ∀ E G w us, RepPs E G w (argPVs ss (expl ra x)) us → Calls P f us.toArray w (fun e w' => ∃ y, e = .returned y ∧ Below w.heap.size w w' ∧ RepP E G w' (sh.pv (expl rb (F x))) y)) : SpecOK P f (mkSpec ss ra sh rb C F) := by
  intro vs v hv E G w s hm us hu
  refine ⟨hcall, ?_⟩
  unfold mkSpec at hv
  split at hv
  · rename_i cs hcs
    split at hv
    · rename_i x hx
      obtain ⟨hC, rfl⟩ : C x = true ∧ sh.pv (expl rb (F x)) = v := by simpa using hv
      obtain ⟨q1, q2⟩ := expl_strip rb (F x)
      obtain ⟨r1, r2⟩ := pv_strip (sh := sh) q1 q2
      refine (hg x hC E G w us (argCs_rep hcs (impl_eq hx) hu)).mono ?_
      rintro e w' ⟨y, rfl, hb, hr⟩
      obtain ⟨g1, g2⟩ := adopt_strip (sh.pv (expl rb (F x))) s.nt
      rw [r1] at g1 g2
      refine ⟨y, rfl, hb, G, by rw [g1]; exact hr, ?_, .below hb (.below hb) rfl rfl rfl, fun e he => he⟩
      refine (hm.below hb).congr rfl ?_ ?_
      · show nameOwn s.nt (sh.pv (expl rb (F x))).own ++ s.live = s.live
        rw [g2]; rfl
      · show s.nt + (sh.pv (expl rb (F x))).own.length = s.nt
        rw [g2]; rfl
    · cases hv
  · cases hv

end Go.PM
