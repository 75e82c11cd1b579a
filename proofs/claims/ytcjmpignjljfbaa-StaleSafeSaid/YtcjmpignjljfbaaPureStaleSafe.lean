/- StaleSafe: a part tells something at a time just if that is not past the time up to which it is safe. -/
import Derived.Test.YtcjmpignjljfbaaPureStaleLocal
namespace Go.Proofs.Ytcjmpignjljfbaa.Pure
open Go.PM
set_option maxRecDepth 100000
set_option linter.unusedVariables false
set_option linter.unusedSimpArgs false
noncomputable section

theorem safe_le {v closed : Int} {l : List T49} {spans : List T55} : v ≤ safeF closed l spans ↔ v ≤ closed ∧ ∀ c ∈ l, ∀ s ∈ spans, (c.2.2.1 && inS s c) = true → v ≤ edge c := by
  unfold safeF
  induction l generalizing closed with
  | nil => simp
  | cons c l ih =>
    rw [List.foldl_cons, ih, foldl_min_le (fun a => c.2.2.1 && inS a c) (fun _ => edge c)]
    constructor
    · rintro ⟨⟨h1, h2⟩, h3⟩
      refine ⟨h1, fun d hd s hs hp => ?_⟩
      rcases List.mem_cons.1 hd with rfl | hd
      · exact h2 s hs hp
      · exact h3 d hd s hs hp
    · rintro ⟨h1, h2⟩
      exact ⟨⟨h1, fun s hs hp => h2 c List.mem_cons_self s hs hp⟩, fun d hd => h2 d (List.mem_cons_of_mem _ hd)⟩

theorem blocked_iff {l : List T49} {spans : List T55} {w : Int} (ht : ∀ c ∈ l, c.2.2.2.2.2.2.2.2.2.1 ≤ 4611686018427387904) :
    blocked l w 4611686018427387904 spans = true ↔ ∃ c ∈ l, ∃ s ∈ spans, (c.2.2.1 && inS s c) = true ∧ c.2.2.2.2.2.2.2.2.1 ≤ w := by
  unfold blocked
  simp only [List.any_eq_true, List.mem_filter, blk, f24.p, Bool.and_eq_true, Bool.not_eq_true', Bool.or_eq_false_iff, decide_eq_false_iff_not, Bool.and_eq_false_imp, beq_iff_eq]
  constructor
  · rintro ⟨s, hs, c, ⟨hc, hi⟩, hk, h1, h2⟩
    exact ⟨c, hc, s, hs, ⟨hk, hi⟩, by omega⟩
  · rintro ⟨c, hc, s, hs, ⟨hk, hi⟩, hw⟩
    have := ht c hc
    exact ⟨s, hs, c, ⟨hc, hi⟩, hk, by omega, fun _ => by omega⟩

theorem safeTyped (y1 y2 y3 y4 closed low : Int) (l : List T49) (d1 d2 : List T68) (spans : List T55) (v : Int) (hcl : -9223372036854775808 ≤ closed ∧ closed ≤ 9223372036854775807)
    (hw : ∀ c ∈ l, -9223372036854775808 ≤ c.2.2.2.2.2.2.2.2.1 ∧ c.2.2.2.2.2.2.2.2.1 ≤ 9223372036854775807) : f5.n (y1, y2, y3, y4, closed, low, l, d1, d2, spans, v) = some true := by
  refine oS.eq ?_
  unfold f5.n
  dsimp only
  refine .bindO (.of begun) ?_
  rintro _ rfl
  refine .no (by simp) (.bindO (light9 _) fun b hb => ?_)
  dsimp only at hb
  by_cases hg : b = true ∧ spans.length ≤ 20
  case neg =>
    have hg' : ((!b) || decide ((spans.length : Int) > 20)) = true := by
      cases b
      · rfl
      · have : (spans.length : Int) > 20 := by have : ¬ spans.length ≤ 20 := fun h => hg ⟨rfl, h⟩; omega
        simp only [this, decide_true, Bool.or_true]
    refine .chk ?_ (.lt (.chk ?_ (.some rfl)))
    · rw [hg']; rfl
    · rw [hg']; rfl
  obtain ⟨rfl, hn⟩ := hg
  obtain ⟨hl, hd1, hd2⟩ := hb rfl
  have hg' : ((!true) || decide ((spans.length : Int) > 20)) = false := by
    have : ¬ (spans.length : Int) > 20 := by omega
    simp only [this, decide_false, Bool.or_false, Bool.not_true]
  rw [hg']
  obtain ⟨b2, hb2, hs⟩ := may10 (y1, y2, y3, y4, closed, low, l, d1, d2) hl hd1 hd2
  rw [hb2]
  refine .chk rfl (.lt (.ite (fun _ => .some rfl) fun hnb => ?_))
  have hb2t : b2 = true := by simpa using hnb
  have hsrt : Srt l := hs hb2t
  have h60 := hl.1
  refine .chk (small_of (by omega)) (.bindE ?_)
  refine rS.foldE (fun i _ => ∀ k (hk : k < l.length), k < i → l[k].2.2.2.2.2.2.2.2.2.1 ≤ 4611686018427387904 ∧ -4611686018427387904 ≤ l[k].2.2.2.2.2.2.2.2.1) (fun k _ hk => by omega) ?_ ?_
  · intro i hi u hI
    refine .ite (fun _ => .ret (.some rfl)) fun hb => .go fun k hk hki => ?_
    by_cases hk' : k = i
    · subst hk'
      simp only [Bool.or_eq_true, decide_eq_true_eq, not_or] at hb
      exact ⟨by omega, by omega⟩
    · exact hI k hk (by omega)
  intro u hI
  have ht : ∀ c ∈ l, c.2.2.2.2.2.2.2.2.2.1 ≤ 4611686018427387904 ∧ -4611686018427387904 ≤ c.2.2.2.2.2.2.2.2.1 := fun c hc => by
    obtain ⟨k, hk, rfl⟩ := List.getElem_of_mem hc
    exact hI k hk hk
  refine .bindO (.of (safe13 (y1, y2, y3, y4, closed, low, l, d1, d2, spans) hl hn hw)) ?_
  rintro _ rfl
  dsimp only
  refine .bindO (.of (local11 (y1, y2, y3, y4, closed, low, l, d1, d2, safeF closed l spans, 4611686018427387904, spans) hl hsrt hn)) ?_
  rintro _ rfl
  refine .bindO (.of (local11 (y1, y2, y3, y4, closed, low, l, d1, d2, v, 4611686018427387904, spans) hl hsrt hn)) ?_
  rintro _ rfl
  dsimp only
  have hedge : ∀ c ∈ l, edge c = c.2.2.2.2.2.2.2.2.1 - 1 := fun c hc => by
    have := (ht c hc).2
    unfold edge; rw [if_neg (by omega)]
  have hsafe : ∀ v, v ≤ safeF closed l spans ↔ v ≤ closed ∧ ¬ blocked l v 4611686018427387904 spans = true := by
    intro v
    rw [safe_le, blocked_iff fun c hc => (ht c hc).1]
    refine and_congr_right fun _ => ⟨?_, ?_⟩
    · rintro h ⟨c, hc, s, hs', hp, hle⟩
      have := h c hc s hs' hp
      rw [hedge c hc] at this
      omega
    · intro h c hc s hs' hp
      rw [hedge c hc]
      have : ¬ c.2.2.2.2.2.2.2.2.1 ≤ v := fun hle => h ⟨c, hc, s, hs', hp, hle⟩
      omega
  have told2 : ∀ it : List T41, (told 512 it).2 = 0 ∨ (told 512 it).2 = 3 := fun it => by
    unfold told
    by_cases h : (it.length : Int) > (if (0 : Int) > 512 then 0 else 512)
    · rw [if_pos h]; exact .inr rfl
    · rw [if_neg h]; exact .inl rfl
  have hself := (hsafe (safeF closed l spans)).1 (Int.le_refl _)
  generalize safeF closed l spans = sf at hself hsafe ⊢
  refine .ite (fun _ => .some rfl) fun h3 => ?_
  simp only [Bool.or_eq_true, beq_iff_eq, not_or] at h3
  obtain ⟨h3, h4⟩ := h3
  refine .ite (fun hlow => .some ?_) fun hlow => .some ?_
  · simp only [decide_eq_true_eq] at hlow
    unfold localF
    rw [if_pos hlow]; rfl
  · simp only [decide_eq_true_eq] at hlow
    simp only [Bool.and_eq_true, Bool.or_eq_true, beq_iff_eq, decide_eq_true_eq]
    constructor
    · by_cases hsl : sf < low
      · right; unfold localF; rw [if_pos hsl]; exact ⟨rfl, hsl⟩
      · left
        unfold localF at h3 ⊢
        rw [if_neg hsl, if_neg (by omega), if_neg hself.2] at h3 ⊢
        rcases told2 (all l sf 4611686018427387904 spans) with h | h
        · exact h
        · exact absurd h h3
    · unfold localF at h4 ⊢
      rw [if_neg hlow] at h4 ⊢
      by_cases hv : v ≤ sf
      · obtain ⟨g1, g2⟩ := (hsafe v).1 hv
        rw [if_neg (by omega), if_neg g2] at h4 ⊢
        rcases told2 (all l v 4611686018427387904 spans) with h | h
        · rw [h]; simp [hv]
        · exact absurd h h4
      · have hv' : decide (v ≤ sf) = false := by simpa using hv
        rw [hv']
        by_cases hc : v > closed
        · rw [if_pos hc]; rfl
        · rw [if_neg hc]
          have : blocked l v 4611686018427387904 spans = true := by
            cases hb : blocked l v 4611686018427387904 spans with
            | true => rfl
            | false => exact absurd ((hsafe v).2 ⟨by omega, by simp [hb]⟩) hv
          rw [if_pos this]; rfl

theorem staleSafe (y : DenR (Row.of [Ty.int .i64, Ty.int .i64, Ty.int .i64, Ty.int .i64, Ty.int .i64, Ty.int .i64, Ty.sl R49, Ty.sl R68, Ty.sl R68, Ty.sl R55, Ty.int .i64])) (hy : WfR _ y) : f5.n y = some true := by
  obtain ⟨y1, y2, y3, y4, closed, low, l, d1, d2, spans, v⟩ := y
  exact safeTyped y1 y2 y3 y4 closed low l d1 d2 spans v (wf_i64 hy.2.2.2.2.1) (wfCells hy.2.2.2.2.2.2.1)

end
end Go.Proofs.Ytcjmpignjljfbaa.Pure
