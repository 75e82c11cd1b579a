/- The law StaleSafe returns true at every input, and leaves its arguments as they were: no condition. -/
import Derived.Test.YtcjmpignjljfbaaRows
import Derived.Test.YtcjmpignjljfbaaTB
import Derived.Test.YtcjmpignjljfbaaPureStaleSafe
import Derived.Test.YtcjmpignjljfbaaPM28
import Derived.WalkKit
import Derived.ProofKit
import Derived.OpenShut
import Derived.ChangeOld
import Derived.Below
import Derived.SizedLaws
namespace Go.Proofs.Ytcjmpignjljfbaa.staleSafe
open Go.ChangeShapes Go.WideShapes Go.ChangeAt Go.RowKit Go.PM
set_option linter.unusedVariables false
theorem own : ownKnob Try.prog.godebug = none := by kernel_rfl
theorem laidOut : laidOutB Try.prog = true := by kernel_rfl
theorem walk {H : Type} {enc : TypeId × Value → H} {W : World} {vs : List Value} {ds : List (DataW H)} {ps : List MemPlace} {r : Reach} {b0 : Nat} (hv : ∀ (j : Nat) t v, [(33 : TypeId), (34 : TypeId), (2 : TypeId)][j]? = some t → vs[j]? = some v → Value.okWide Try.prog W r b0 t v)
    (hA : DataW.TrodAll enc Try.prog W 0 (fun _ => true) true [33, 34, 2] vs ds ps) : Calls Try.prog 5 vs.toArray W (fun e w' => e = .returned (.bool true) ∧ Below W.heap.size W w') :=
  law_calls (n := 12) (cx := cx5 f6.n f9.n f10.n f11.n f13.n BIG) (fds := lookF fds5) (d := 4) (ss := [.agg 9, .one, .one]) (ls := [Ty.int .i64, Ty.int .i64, Ty.int .i64, Ty.int .i64, Ty.int .i64, Ty.int .i64, Ty.sl R49, Ty.sl R68, Ty.sl R68, Ty.sl R55, Ty.int .i64]) tab (specsOK_cons f6.spec (specsOK_cons f9.spec (specsOK_cons f10.spec (specsOK_cons f11.spec (specsOK_cons f13.spec specsOK_nil))))) mx fdsOK_nil fn5 (by kernel_rfl) hv hA (fun y hy => (f5.run f6.n f9.n f10.n f11.n f13.n BIG y).trans (f5.ref y true (Pure.staleSafe y hy)))
set_option maxRecDepth 100000 in
theorem lifted (os : Os) (started : os.Started) (H : Type) (enc : TypeId × Value → H) :
    ReturnsInHanded {} Try.checked os 5 .any (Rows.staleSafeSpec.pre6 enc Try.prog Try.f5 Rows.staleSafeRow.domain false) (Rows.staleSafeSpec.post enc Try.prog Try.f5 false true false false) := by
  refine returnsInHanded_of_change_sized (C := Try.checked) own started (by kernel_rfl) Try.func5
    (ChangeSpec.witness6 (enc := enc) (C := Try.checked) false ⟨#[], #[.agg #[.int .i64 0, .int .i64 0, .int .i64 0, .int .i64 0, .int .i64 0, .int .i64 0, .slice none 0 0, .slice none 0 0, .slice none 0 0], .slice none 0 0, .int .i64 0], []⟩ 8 (by kernel_rfl) (by kernel_rfl) (by kernel_rfl) (by kernel_rfl)) ?_
  intro W base args ds gs before hval0 hW hcnd hsz0 _
  have hval : ∀ (j : Nat) t v, Try.f5.params[j]? = some t → args[j]? = some v → Value.okWide Try.prog W .any base t v := hval0
  have hW' := hW
  obtain ⟨p, q, hA0, hV, rfl, hfz, hnd⟩ := hW
  have hA : DataW.TrodAll enc Try.prog W 0 (fun _ => true) true Try.f5.params.toList args.toList ds p := hA0
  rw [Try.params5] at hA hval
  have hv : ∀ (j : Nat) t v, [(33 : TypeId), (34 : TypeId), (2 : TypeId)][j]? = some t → args.toList[j]? = some v → Value.okWide Try.prog W .any base t v := fun j t v ht hv' => hval j t v (by simpa using ht) (by simpa using hv')
  have hA1 := hA
  obtain ⟨v0, vs0, d0, ds0, p0, q0, hvs0, rfl, rfl, h0, r0⟩ := trodAll_cons hA
  obtain ⟨v1, vs1, d1, ds1, p1, q1, hvs1, rfl, rfl, h1, r1⟩ := trodAll_cons r0
  obtain ⟨v2, vs2, d2, ds2, p2, q2, hvs2, rfl, rfl, h2, r2⟩ := trodAll_cons r1
  obtain ⟨hvs, rfl, rfl⟩ := trodAll_nil r2
  obtain ⟨rfl, rfl⟩ := trodVars_none hV
  have hw := walk hv hA1
  rw [Array.toArray_toList] at hw
  refine hw.mono fun e W' ⟨he, bel⟩ => ?_
  subst he
  exact ⟨_, rfl, _, _, _, [], _, [], hW', trodAll_mk1 (shut_bool Try.underlying4 _), trodAll_below laidOut bel (by kernel_rfl) hA1, rfl, bel.frame _, fun h => by cases h⟩
theorem over : Rows.staleSafeRow.holds Try.pinned (OpenSpec.ofChange Rows.staleSafeSpec) :=
  OpenClaim.holds_of_wide 5 Try.f5 rfl rfl rfl rfl rfl rfl rfl ⟨rfl, rfl, rfl, rfl, rfl⟩ rfl rfl rfl rfl rfl (by kernel_rfl) Try.func5 (by kernel_rfl)
    (of_decide_eq_true (by kernel_rfl)) (by unfold Func.isWrapper; first | (rw [if_pos (by decide +kernel)]; kernel_rfl) | (rw [if_neg (by decide +kernel)]; exact ⟨rfl, rfl⟩))
    (fun os started H enc _ => lifted os started H enc)
theorem proved : Rows.StaleSafeSaid := over
#print axioms proved
end Go.Proofs.Ytcjmpignjljfbaa.staleSafe
namespace Go.Proofs.Ytcjmpignjljfbaa
/-- The row, under a short name, for the claim. -/
theorem staleSafe_holds : Rows.StaleSafeSaid := staleSafe.proved
end Go.Proofs.Ytcjmpignjljfbaa
