/- StalePicks: what stale.Pick gives, and that the document's Pick gives the same. -/
import Derived.Test.YtcjmpignjljfbaaTB
import Derived.Test.YtcjmpignjljfbaaPM30
namespace Go.Proofs.Ytcjmpignjljfbaa.Pure
open Go.PM
set_option maxRecDepth 100000

theorem begun : f6.n () = some true := by kernel_rfl

theorem less_eq (a b : Int) : f16.p (a, if (0 : Int) > b then 0 else b) = f15.p (a, b) := rfl

theorem pick_eq (x : Int × Int × Int × List T2 × List T2) (h : -9223372036854775808 ≤ x.2.1) : f8.n x = f7.n x := by
  unfold f8.n f7.n
  by_cases h1 : x.1 = 1
  · have h2 : ¬ x.2.1 < -9223372036854775808 := by omega
    simp [h1, h2, lt]
  · by_cases h2 : x.1 = 2
    · simp only [lt, less_eq, h2, beq_self_eq_true, Bool.true_and, show ((2 : Int) == 1) = false from rfl, if_true, Bool.false_eq_true, if_false]
      rfl
    · simp [h1, h2]

theorem pick_some (x : Int × Int × Int × List T2 × List T2) (h1 : x.2.2.2.1.length ≤ 20) (h2 : x.2.2.2.2.length ≤ 20) : ∃ r, f7.n x = some r := by
  have s1 : small x.2.2.2.1 = true := small_of (by omega)
  have s2 : small x.2.2.2.2 = true := small_of (by omega)
  unfold f7.n
  simp only [foldE_any, foldE_go, s1, s2, lt, if_true, bindE_go, bindE_ite, bindE_ret]
  repeat' split
  all_goals exact ⟨_, rfl⟩

theorem stalePicks (y : DenR (Row.of [Ty.int .i64, Ty.int .i64, Ty.int .i64, Ty.sl R2, Ty.sl R2])) (hy : WfR _ y) : f3.n y = some true := by
  refine oS.eq ?_
  unfold f3.n
  refine .bindO (.of begun) ?_
  rintro _ rfl
  refine .no (by simp) (.ite (fun _ => .some rfl) fun h => ?_)
  simp only [Bool.or_eq_true, decide_eq_true_eq, not_or] at h
  obtain ⟨r, hr1⟩ := pick_some y (by omega) (by omega)
  refine .bindO (.of hr1) ?_
  rintro _ rfl
  refine .bindO (.of ((pick_eq y (wf_i64 hy.2.1).1).trans hr1)) ?_
  rintro _ rfl
  exact .some (by simp)

end Go.Proofs.Ytcjmpignjljfbaa.Pure
