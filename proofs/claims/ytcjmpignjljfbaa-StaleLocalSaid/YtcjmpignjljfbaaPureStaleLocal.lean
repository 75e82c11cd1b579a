/- StaleLocal: stale.Local and stale.Safe give what the document's functions give. -/
import Derived.Test.YtcjmpignjljfbaaPureScan
namespace Go.Proofs.Ytcjmpignjljfbaa.Pure
open Go.PM
set_option maxRecDepth 100000
set_option linter.unusedVariables false
set_option linter.unusedSimpArgs false
noncomputable section

theorem lock_any (q : List T49) (p : T49 → Bool) : (lockOf (q.find? p)).2.2.2.2.2.2.2.2.2 = q.any p := by
  cases h : q.find? p with
  | none =>
    rw [List.find?_eq_none] at h
    symm
    rw [lockOf, List.any_eq_false]
    exact h
  | some a =>
    symm
    rw [lockOf, List.any_eq_true]
    exact ⟨a, List.mem_of_find?_eq_some h, List.find?_some h⟩

def blocked (l : List T49) (w t : Int) (spans : List T55) : Bool := spans.any fun s => (l.filter (inS s)).any (blk w t)
def all (l : List T49) (w t : Int) (spans : List T55) : List T41 := spans.flatMap (items l w t)

def localF (closed low : Int) (l : List T49) (w t : Int) (spans : List T55) : List T41 × Int :=
  if w < low then ([], 24) else if w > closed then ([], 23) else if blocked l w t spans then ([], 20) else told 512 (all l w t spans)

/-- A round of the second loop. -/
theorem gather {C : Type} {l : List T49} {w t : Int} {spans : List T55} (hl : Lil l) (acc : List T41) (i : Nat) (hi : i < spans.length) (ha : acc = (spans.take i).flatMap (items l w t)) (hm : acc.length ≤ 512) :
    ∃ y : List T41 × Int, told (IntKind.wrap .i64 ((512 : Int) - (acc.length : Int))) (items l w t spans[i]) = y ∧ (y.2 = 0 ∨ (y.2 = 3 ∧ told 512 (all l w t spans) = ([], 3))) ∧
      (y.2 = 0 → Nat.ble ((acc.length + y.1.length) * 32) LIM = true ∧ acc ++ y.1 = (spans.take (i + 1)).flatMap (items l w t) ∧ (acc ++ y.1).length ≤ 512) := by
  refine ⟨_, rfl, ?_⟩
  rw [wrap_id (by omega) (by omega)]
  have h60 : (items l w t spans[i]).length ≤ 60 := Nat.le_trans (items_length _ _ _ _) hl.1
  have hs1 : (spans.take (i + 1)).flatMap (items l w t) = acc ++ items l w t spans[i] := by rw [take_snoc hi, List.flatMap_append, ← ha]; simp
  unfold told
  have h0 : (if (0 : Int) > 512 - (acc.length : Int) then 0 else 512 - (acc.length : Int)) = 512 - (acc.length : Int) := by split <;> omega
  rw [h0]
  by_cases h : ((items l w t spans[i]).length : Int) > 512 - (acc.length : Int)
  · rw [if_pos h]
    refine ⟨.inr ⟨rfl, ?_⟩, fun h => by cases h⟩
    have : (all l w t spans).length ≥ acc.length + (items l w t spans[i]).length := by
      unfold all
      conv => lhs; rw [← List.take_append_drop (i + 1) spans, List.flatMap_append, hs1]
      simp only [List.length_append]
      omega
    rw [if_pos]
    rw [if_neg (by omega)]; omega
  · rw [if_neg h]
    refine ⟨.inl rfl, fun _ => ⟨lim_ok (by dsimp only; omega), hs1.symm, ?_⟩⟩
    simp only [List.length_append]
    omega

theorem told_all {l : List T49} {w t : Int} {spans : List T55} (acc : List T41) (ha : acc = (spans.take spans.length).flatMap (items l w t)) (hm : acc.length ≤ 512) : told 512 (all l w t spans) = (acc, 0) := by
  rw [List.take_length] at ha
  unfold told all
  rw [← ha, if_neg]
  rw [if_neg (by omega)]; omega

theorem local11 (y : Int × Int × Int × Int × Int × Int × (List T49) × (List T68) × (List T68) × Int × Int × (List T55)) (hl : Lil y.2.2.2.2.2.2.1) (hs : Srt y.2.2.2.2.2.2.1) (hn : y.2.2.2.2.2.2.2.2.2.2.2.length ≤ 20) :
    f11.n y = some (localF y.2.2.2.2.1 y.2.2.2.2.2.1 y.2.2.2.2.2.2.1 y.2.2.2.2.2.2.2.2.2.1 y.2.2.2.2.2.2.2.2.2.2.1 y.2.2.2.2.2.2.2.2.2.2.2) := by
  obtain ⟨y1, y2, y3, y4, closed, low, l, d1, d2, w, t, spans⟩ := y
  dsimp only at hl hs hn ⊢
  have h60 := hl.1
  refine oS.eq ?_
  unfold f11.n localF
  dsimp only
  refine .ite (fun h => .some ?_) fun h => .ite (fun h' => .some ?_) fun h' => ?_
  · simp only [decide_eq_true_eq] at h; rw [if_pos h]
  · simp only [decide_eq_true_eq] at h h'; rw [if_neg h, if_pos h']
  simp only [decide_eq_true_eq] at h h'
  rw [if_neg h, if_neg h']
  refine .chk (small_of (by omega)) (.bindE ?_)
  refine rS.foldE (fun i _ => (spans.take i).any (fun s => (l.filter (inS s)).any (blk w t)) = false) (by simp) ?_ ?_
  · intro i hi u hI
    rw [blocks20 l spans[i] w t (by omega) hs]
    refine .bindO (.of rfl) ?_
    rintro _ rfl
    rw [lock_any]
    refine .ite (fun hb => .ret (.some ?_)) fun hb => .go ?_
    · have : blocked l w t spans = true := List.any_eq_true.2 ⟨spans[i], List.getElem_mem hi, hb⟩
      rw [if_pos this]
    · rw [take_snoc hi, List.any_append, hI]; simpa using hb
  · intro u hI
    rw [List.take_length] at hI
    have hnb : ¬ blocked l w t spans = true := by rw [Bool.not_eq_true]; exact hI
    rw [if_neg hnb]
    refine .chk (small_of (by omega)) (.bindE ?_)
    refine rS.foldE (fun i acc => acc = (spans.take i).flatMap (items l w t) ∧ acc.length ≤ 512) (by simp) ?_ ?_
    · rintro i hi acc ⟨ha, hm⟩
      rw [scan21 l spans[i] w t _ hl hs]
      obtain ⟨y, hy, h1, h2⟩ := gather (C := Unit) hl acc i hi ha hm
      rw [hy]
      refine .bindO (.of rfl) ?_
      rintro z rfl
      refine .ite (fun hne => ?_) fun heq => ?_
      · simp only [bne_iff_ne, ne_eq] at hne
        rcases h1 with h1 | ⟨h1, h3⟩
        · exact absurd h1 hne
        · rw [h1]; exact .ret (.some h3.symm)
      · have h0 : z.2 = 0 := by simpa using heq
        obtain ⟨g1, g2, g3⟩ := h2 h0
        exact .chk g1 (.go ⟨g2, g3⟩)
    · rintro acc ⟨ha, hm⟩
      exact .some (told_all acc ha hm).symm

theorem local12 (y : Int × Int × Int × Int × Int × Int × (List T49) × (List T68) × (List T68) × Int × Int × (List T55)) (hl : Lil y.2.2.2.2.2.2.1) (hn : y.2.2.2.2.2.2.2.2.2.2.2.length ≤ 20) :
    f12.n y = some (localF y.2.2.2.2.1 y.2.2.2.2.2.1 y.2.2.2.2.2.2.1 y.2.2.2.2.2.2.2.2.2.1 y.2.2.2.2.2.2.2.2.2.2.1 y.2.2.2.2.2.2.2.2.2.2.2) := by
  obtain ⟨y1, y2, y3, y4, closed, low, l, d1, d2, w, t, spans⟩ := y
  dsimp only at hl hn ⊢
  have h60 := hl.1
  refine oS.eq ?_
  unfold f12.n localF
  dsimp only
  refine .ite (fun h => .some ?_) fun h => .ite (fun h' => .some ?_) fun h' => ?_
  · simp only [decide_eq_true_eq] at h; rw [if_pos h]
  · simp only [decide_eq_true_eq] at h h'; rw [if_neg h, if_pos h']
  simp only [decide_eq_true_eq] at h h'
  rw [if_neg h, if_neg h']
  have h22 : oS (fun r => (if blocked l w t spans then ([], 20) else told 512 (all l w t spans)) = ((if r.2.1 ≠ 0 then [] else r.1 : List T41), r.2.1)) (f22.n (y1, y2, y3, y4, closed, low, l, d1, d2, w, t, spans)) := by
    unfold f22.n
    dsimp only
    refine .chk (small_of (by omega)) (.bindE ?_)
    refine rS.foldE (fun i _ => (spans.take i).any (fun s => (l.filter (inS s)).any (blk w t)) = false) (by simp) ?_ ?_
    · intro i hi u hI
      rw [blocks29 l spans[i] w t (by omega)]
      refine .bindO (.of rfl) ?_
      rintro _ rfl
      rw [lock_any]
      refine .ite (fun hb => .lt (.ret (.some ?_))) fun hb => .go ?_
      · have : blocked l w t spans = true := List.any_eq_true.2 ⟨spans[i], List.getElem_mem hi, hb⟩
        rw [if_pos this]; rfl
      · rw [take_snoc hi, List.any_append, hI]; simpa using hb
    · intro u hI
      rw [List.take_length] at hI
      have hnb : ¬ blocked l w t spans = true := by rw [Bool.not_eq_true]; exact hI
      rw [if_neg hnb]
      refine .chk (small_of (by omega)) (.bindE ?_)
      refine rS.foldE (fun i acc => acc = (spans.take i).flatMap (items l w t) ∧ acc.length ≤ 512) (by simp) ?_ ?_
      · rintro i hi acc ⟨ha, hm⟩
        rw [scan31 l spans[i] w t _ hl]
        obtain ⟨y, hy, h1, h2⟩ := gather (C := Unit) hl acc i hi ha hm
        rw [hy]
        refine .bindO (.of rfl) ?_
        rintro z rfl
        refine .ite (fun hne => ?_) fun heq => ?_
        · simp only [bne_iff_ne, ne_eq] at hne
          rcases h1 with h1 | ⟨h1, h3⟩
          · exact absurd h1 hne
          · rw [h1]; exact .ret (.some h3)
        · have h0 : z.2 = 0 := by simpa using heq
          obtain ⟨g1, g2, g3⟩ := h2 h0
          exact .chk g1 (.go ⟨g2, g3⟩)
      · rintro acc ⟨ha, hm⟩
        exact .some (told_all acc ha hm)
  refine .bindO h22 ?_
  rintro r hr
  refine .ite (fun hne => .some ?_) fun heq => .some ?_
  · have : r.2.1 ≠ 0 := by simpa using hne
    rw [hr, if_pos this]
  · have : r.2.1 = 0 := by simpa using heq
    rw [hr, if_neg (by simpa using this), this]

/-! ### Up to when a part is safe -/
def edge (c : T49) : Int := if c.2.2.2.2.2.2.2.2.1 = -9223372036854775808 then -9223372036854775808 else c.2.2.2.2.2.2.2.2.1 - 1
def safeF (closed : Int) (l : List T49) (spans : List T55) : Int := l.foldl (fun s c => spans.foldl (fun s a => if c.2.2.1 && inS a c then (if edge c < s then edge c else s) else s) s) closed

theorem safe13 (y : Int × Int × Int × Int × Int × Int × (List T49) × (List T68) × (List T68) × (List T55)) (hl : Lil y.2.2.2.2.2.2.1) (hn : y.2.2.2.2.2.2.2.2.2.length ≤ 20)
    (hw : ∀ c ∈ y.2.2.2.2.2.2.1, -9223372036854775808 ≤ c.2.2.2.2.2.2.2.2.1 ∧ c.2.2.2.2.2.2.2.2.1 ≤ 9223372036854775807) : f13.n y = some (safeF y.2.2.2.2.1 y.2.2.2.2.2.2.1 y.2.2.2.2.2.2.2.2.2) := by
  obtain ⟨y1, y2, y3, y4, closed, low, l, d1, d2, spans⟩ := y
  dsimp only at hl hn hw ⊢
  have h60 := hl.1
  refine oS.eq ?_
  unfold f13.n
  dsimp only
  refine .chk (small_of (by omega)) (.bindE ?_)
  rw [foldE_pure (fun s c => spans.foldl (fun s a => if c.2.2.1 && inS a c then (if edge c < s then edge c else s) else s) s)]
  · exact .go (.some rfl)
  · intro c hc s
    rw [if_pos (small_of (by omega)), foldE_pure (fun s a => if c.2.2.1 && inS a c then (if edge c < s then edge c else s) else s)]
    · rfl
    · intro a _ s
      have he : IntKind.wrap .i64 ((if (-9223372036854775807 : Int) > c.2.2.2.2.2.2.2.2.1 then (-9223372036854775807 : Int) else c.2.2.2.2.2.2.2.2.1) - (1 : Int)) = edge c := by
        have := hw c hc
        unfold edge
        rw [wrap_id (by split <;> omega) (by split <;> omega)]
        split <;> split <;> omega
      rw [he, Bool.and_assoc, show ((!Op.bytesLess c.1.toList a.1.toList) && Op.bytesLess c.1.toList a.2.toList) = inS a c from rfl]
      split <;> rfl

theorem safe14 (y : Int × Int × Int × Int × Int × Int × (List T49) × (List T68) × (List T68) × (List T55)) (hl : Lil y.2.2.2.2.2.2.1) (hn : y.2.2.2.2.2.2.2.2.2.length ≤ 20)
    (hw : ∀ c ∈ y.2.2.2.2.2.2.1, -9223372036854775808 ≤ c.2.2.2.2.2.2.2.2.1 ∧ c.2.2.2.2.2.2.2.2.1 ≤ 9223372036854775807) (hcl : -9223372036854775808 ≤ y.2.2.2.2.1) : f14.n y = some (safeF y.2.2.2.2.1 y.2.2.2.2.2.2.1 y.2.2.2.2.2.2.2.2.2) := by
  obtain ⟨y1, y2, y3, y4, closed, low, l, d1, d2, spans⟩ := y
  dsimp only at hl hn hw hcl ⊢
  have h60 := hl.1
  refine oS.eq ?_
  unfold f14.n
  dsimp only
  refine .chk (small_of (by omega)) (.bindE ?_)
  have inner : ∀ c ∈ l, ∀ (q : List T55) (s : Int), -9223372036854775808 ≤ s → -9223372036854775808 ≤ q.foldl (fun s a => if c.2.2.1 && inS a c then (if edge c < s then edge c else s) else s) s := by
    intro c hc q
    induction q with
    | nil => intro s h; exact h
    | cons a q ih =>
      intro s h
      refine ih _ ?_
      dsimp only
      have := hw c hc
      unfold edge
      repeat' split
      all_goals omega
  rw [foldE_congr_inv (fun s => -9223372036854775808 ≤ s) (step' := fun c s => (.go (spans.foldl (fun s a => if c.2.2.1 && inS a c then (if edge c < s then edge c else s) else s) s) : Res (Option Int) Int)) hcl, foldE_go]
  · exact .go (.some rfl)
  · intro c hc s hs
    refine ⟨?_, fun s' h => by cases h; exact inner c hc spans s hs⟩
    rw [if_pos (small_of (by omega)), foldE_congr_inv (fun s => -9223372036854775808 ≤ s) (step' := fun a s => (.go (if c.2.2.1 && inS a c then (if edge c < s then edge c else s) else s) : Res (Res (Option Int) Int) Int)) hs, foldE_go]
    · rfl
    · intro a _ s hs
      have hw' := hw c hc
      refine ⟨?_, fun s' h => by cases h; exact inner c hc [a] s hs⟩
      have h1 : IntKind.wrap .i64 ((-9223372036854775808 : Int) + 1) = -9223372036854775807 := by decide
      simp only [lt, f16.p, h1, show f23.p (c.1, a.1, a.2) = inS a c from rfl]
      cases c.2.2.1 && inS a c
      · simp
      · simp only [Bool.true_and, decide_eq_true_eq, if_true]
        unfold edge
        by_cases hle : c.2.2.2.2.2.2.2.2.1 ≤ s
        · rw [if_pos hle]
          congr 1
          by_cases hmin : c.2.2.2.2.2.2.2.2.1 = -9223372036854775808
          · rw [if_pos (by omega), if_pos hmin]
            split <;> omega
          · rw [if_neg (by omega), if_neg hmin, wrap_id (by omega) (by omega), if_pos (by omega)]
        · rw [if_neg hle]
          congr 1
          rw [if_neg (show ¬ c.2.2.2.2.2.2.2.2.1 = -9223372036854775808 by omega), if_neg (by omega)]

theorem begun : f6.n () = some true := by kernel_rfl

theorem wfCells {l : List T49} (h : WfT (.sl R49) l) : ∀ c ∈ l, -9223372036854775808 ≤ c.2.2.2.2.2.2.2.2.1 ∧ c.2.2.2.2.2.2.2.2.1 ≤ 9223372036854775807 := fun c hc => by
  have := h.2 c hc
  exact wf_i64 this.2.2.2.2.2.2.2.2.1

theorem staleLocal (y : DenR (Row.of [Ty.int .i64, Ty.int .i64, Ty.int .i64, Ty.int .i64, Ty.int .i64, Ty.int .i64, Ty.sl R49, Ty.sl R68, Ty.sl R68, Ty.int .i64, Ty.int .i64, Ty.sl R55])) (hy : WfR _ y) : f4.n y = some true := by
  obtain ⟨y1, y2, y3, y4, closed, low, l, d1, d2, w, t, spans⟩ := y
  have hcl := wf_i64 hy.2.2.2.2.1
  have hw := wfCells hy.2.2.2.2.2.2.1
  refine oS.eq ?_
  unfold f4.n
  dsimp only at hcl hw ⊢
  refine .bindO (.of begun) ?_
  rintro _ rfl
  refine .no (by simp) (.bindO (light9 _) fun b hb => ?_)
  dsimp only at hb
  by_cases hg : b = true ∧ spans.length ≤ 20
  case neg =>
    have hg' : ((!b) || decide ((spans.length : Int) > 20)) = true := by
      cases b
      · rfl
      · have : (spans.length : Int) > 20 := by have : ¬ spans.length ≤ 20 := fun h => hg ⟨rfl, h⟩; omega
        simp only [this, decide_true, Bool.or_true]
    refine .chk ?_ (.lt (.chk ?_ (.some rfl)))
    · rw [hg']; rfl
    · rw [hg']; rfl
  obtain ⟨rfl, hn⟩ := hg
  obtain ⟨hl, hd1, hd2⟩ := hb rfl
  have hg' : ((!true) || decide ((spans.length : Int) > 20)) = false := by
    have : ¬ (spans.length : Int) > 20 := by omega
    simp only [this, decide_false, Bool.or_false, Bool.not_true]
  rw [hg']
  obtain ⟨b2, hb2, hs⟩ := may10 (y1, y2, y3, y4, closed, low, l, d1, d2) hl hd1 hd2
  rw [hb2]
  refine .chk rfl (.lt (.ite (fun _ => .some rfl) fun hnb => ?_))
  have hb2t : b2 = true := by simpa using hnb
  have hsrt : Srt l := hs hb2t
  refine .bindO (.of (local11 _ hl hsrt hn)) ?_
  rintro _ rfl
  refine .bindO (.of (local12 _ hl hn)) ?_
  rintro _ rfl
  have e13 := safe13 (y1, y2, y3, y4, closed, low, l, d1, d2, spans) hl hn hw
  have e14 := safe14 (y1, y2, y3, y4, closed, low, l, d1, d2, spans) hl hn hw hcl.1
  rw [e13, e14]
  dsimp only
  refine .chk (by simp) (.lt (.chk (by simp) (.lt ?_)))
  refine .no (by simp) ?_
  generalize hr : (localF closed low l w t spans).1 = r
  have hlen : r.length ≤ 512 := by
    rw [← hr]; unfold localF told
    repeat' split
    all_goals first
      | (simp; done)
      | (dsimp only; omega)
  refine .chk (small_of (by omega)) (.bindE ?_)
  refine rS.foldI (fun _ _ => True) trivial (fun i hi s _ => ?_) fun s _ => .some rfl
  refine .chk (idx_ok hi) (.lt ?_)
  rw [rd_nat (r := R41) hi]
  exact .no (by simp) (.go trivial)

end
end Go.Proofs.Ytcjmpignjljfbaa.Pure
