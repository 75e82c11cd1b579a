/- What the functions under StaleLocal and StaleSafe give: one closed form for the program's and for the document's. -/
import Derived.Test.YtcjmpignjljfbaaTB
import Derived.Test.YtcjmpignjljfbaaPM30
namespace Go.Proofs.Ytcjmpignjljfbaa.Pure
open Go.PM
set_option maxRecDepth 100000
set_option linter.unusedVariables false
set_option linter.unusedSimpArgs false

noncomputable section
def inS (s : T55) (c : T49) : Bool := (!(Op.bytesLess c.1.toList s.1.toList)) && (Op.bytesLess c.1.toList s.2.toList)
def blk (w t : Int) (c : T49) : Bool := c.2.2.1 && !(f24.p (w, t, c.2.2.2.2.2.2.2.2.1, c.2.2.2.2.2.2.2.2.2.1))
def Srt (l : List T49) : Prop := l.Pairwise fun a b => Op.bytesLess a.1.toList b.1.toList = true
def Lil (l : List T49) : Prop := l.length ≤ 60 ∧ ∀ c ∈ l, c.2.1.length ≤ 30

/-! ### Comparing stamps -/
theorem less27 (x : Int × Int × Int × Int) : f27.n x = some (f24.p x) := by
  have h40 : ∀ n, f40.p n = false := fun n => by simp [f40.p]
  have s2 : ∀ a b : Int, small [a, b] = true := fun a b => small_of (by simp)
  unfold f27.n
  simp only [lt, f33.n, f34.p, h40, s2, if_true, Bool.false_eq_true, if_false, decide_eq_true_eq]
  unfold f24.p
  by_cases h1 : x.1 < x.2.2.1
  · simp [h1, foldE, bindE, bindO]
  · by_cases h2 : x.1 > x.2.2.1
    · have : ¬ x.1 = x.2.2.1 := by omega
      simp [h1, h2, this, foldE, bindE, bindO]
    · have h3 : x.1 = x.2.2.1 := by omega
      have h4 : ¬ x.2.2.1 < x.2.2.1 := by omega
      by_cases h5 : x.2.1 < x.2.2.2
      · simp [h3, h5, foldE, bindE, bindO]
      · by_cases h6 : x.2.1 > x.2.2.2
        · have : ¬ x.2.1 < x.2.2.2 := by omega
          simp [h3, h5, h6, foldE, bindE, bindO]
        · simp [h3, h5, h6, foldE, bindE, bindO]

/-! ### The law's guards -/
theorem light (l : List T49) : oS (fun b => b = true → Lil l) (f17.n l) := by
  unfold f17.n
  refine .ite (fun _ => .some fun h => by cases h) fun h => ?_
  rw [decide_eq_true_eq] at h
  refine .chk (small_of (by omega)) (.bindE ?_)
  refine rS.foldE (fun i _ => ∀ k (hk : k < l.length), k < i → l[k].2.1.length ≤ 30) (fun k _ hk => by omega) ?_ ?_
  · intro i hi s hI
    refine .ite (fun _ => .ret (.some fun h => by cases h)) fun hb => ?_
    simp only [Bool.or_eq_true, decide_eq_true_eq, not_or] at hb
    refine .chk (small_of (by omega)) (.bindE ?_)
    refine rS.foldE (fun _ _ => True) trivial ?_ ?_
    · intro j hj s _
      exact .ite (fun _ => .ret (.ret (.some fun h => by cases h))) fun _ => .go trivial
    · intro s _
      refine .go fun k hk hki => ?_
      by_cases hk' : k = i
      · subst hk'; omega
      · exact hI k hk (by omega)
  · intro s hI
    refine .some fun _ => ⟨by omega, fun c hc => ?_⟩
    obtain ⟨k, hk, rfl⟩ := List.getElem_of_mem hc
    exact hI k hk hk

theorem light9 (x : Int × Int × Int × Int × Int × Int × (List T49) × (List T68) × (List T68)) : oS (fun b => b = true → Lil x.2.2.2.2.2.2.1 ∧ x.2.2.2.2.2.2.2.1.length < 100 ∧ x.2.2.2.2.2.2.2.2.length < 100) (f9.n x) := by
  unfold f9.n
  refine .bindO (light _) fun b hb => .some fun h => ?_
  simp only [Bool.and_eq_true, decide_eq_true_eq] at h
  exact ⟨hb h.1.1, by omega, by omega⟩

theorem srt_of {l : List T49} (h : ∀ i (hi : i < l.length), 0 < i → Op.bytesLess l[i - 1].1.toList l[i].1.toList = true) : Srt l := by
  unfold Srt
  rw [List.pairwise_iff_getElem]
  intro i j hi hj hij
  obtain ⟨d, rfl⟩ : ∃ d, j = i + 1 + d := ⟨j - (i + 1), by omega⟩
  clear hij
  induction d with
  | zero => simpa using h (i + 1) (by omega) (by omega)
  | succ d ih => exact bl_trans (ih (by omega)) (by simpa using h (i + 1 + (d + 1)) hj (by omega))

theorem may18 (l : List T49) (hl : Lil l) : oS (fun b => b = true → Srt l) (f18.n l) := by
  have h60 := hl.1
  unfold f18.n
  refine .chk (small_of (by omega)) (.bindE ?_)
  refine rS.foldI (fun i _ => ∀ k (hk : k < l.length), 0 < k → k < i → Op.bytesLess l[k - 1].1.toList l[k].1.toList = true) (fun k _ _ hk => by omega) ?_ ?_
  · intro i hi s hI
    have hv : l[i].2.1.length ≤ 30 := hl.2 _ (List.getElem_mem hi)
    refine .chk (prev_ok' hi (by omega)) (.lt (.ite (fun _ => .ret (.some fun h => by cases h)) fun hb => ?_))
    refine .chk (small_of (by omega)) (.bindE ?_)
    refine rS.foldI (fun _ _ => True) trivial ?_ ?_
    · intro j hj s _
      exact .chk (prev_ok hj (by omega) _) (.lt (.lt (.ite (fun _ => .ret (.ret (.some fun h => by cases h))) fun _ => .go trivial)))
    · intro s _
      refine .go fun k hk hk0 hki => ?_
      by_cases hk' : k = i
      · subst hk'
        simp only [Bool.not_eq_true, Bool.or_eq_false_iff] at hb
        have h3 := hb.1.1.1
        rw [prev_at hi (by omega) hk0] at h3
        have h4 : (k : Int) > 0 := by omega
        simpa [h4, hk0] using h3
      · exact hI k hk hk0 (by omega)
  · intro s hI
    exact .some fun _ => srt_of fun i hi h0 => hI i hi h0 hi

theorem find25 (x : (List T68) × Int × Int × Int × Int) (h : x.1.length < 100) : oS (fun _ => True) (f25.n x) := by
  unfold f25.n
  refine .chk (small_of (by omega)) (.bindE ?_)
  refine rS.foldE (fun _ _ => True) trivial (fun i hi s _ => ?_) fun s _ => .some trivial
  exact .ite (fun _ => .ret (.some trivial)) fun _ => .go trivial

theorem once19 (l : List T68) (h : l.length < 100) : oS (fun _ => True) (f19.n l) := by
  unfold f19.n
  refine .chk (small_of (by omega)) (.bindE ?_)
  refine rS.foldI (fun _ _ => True) trivial (fun i hi s _ => ?_) fun s _ => .some trivial
  have h1 : (i : Int) ≤ (l.length : Int) := by omega
  refine .chk (by simp; omega) (.bindO (find25 _ (by simp; omega)) fun y _ => ?_)
  exact .ite (fun _ => .ret (.some trivial)) fun _ => .go trivial

theorem may10 (x : Int × Int × Int × Int × Int × Int × (List T49) × (List T68) × (List T68)) (hl : Lil x.2.2.2.2.2.2.1) (h1 : x.2.2.2.2.2.2.2.1.length < 100) (h2 : x.2.2.2.2.2.2.2.2.length < 100) : oS (fun b => b = true → Srt x.2.2.2.2.2.2.1) (f10.n x) := by
  unfold f10.n
  refine .bindO (may18 _ hl) fun b hb => .ite (fun _ => .some fun h => by cases h) fun hn => ?_
  have hbt : b = true := by
    simp only [Bool.or_eq_true, Bool.not_eq_true', not_or] at hn
    simpa using hn.1.1.1
  refine .bindO (once19 _ h1) fun y _ => ?_
  obtain ⟨z, hz, _⟩ := once19 _ h2
  rw [hz]
  exact .chk (by simp) (.lt (.some fun _ => hb hbt))

/-! ### The binary search -/
theorem find32 (l : List T49) (t : ByteArray) (hl : l.length < 2 ^ 62) (hs : Srt l) :
    oS (fun y => ∃ m : Nat, y.1 = (m : Int) ∧ m ≤ l.length ∧ ∀ k (hk : k < l.length), (Op.bytesLess l[k].1.toList t.toList = true ↔ k < m)) (f32.n (l, t)) := by
  have hsrt : ∀ i j (hi : i < l.length) (hj : j < l.length), i ≤ j → Op.bytesLess l[j].1.toList t.toList = true → Op.bytesLess l[i].1.toList t.toList = true := by
    intro i j hi hj hij h
    by_cases h' : i = j
    · subst h'; exact h
    · exact bl_trans (List.pairwise_iff_getElem.1 hs i j hi hj (by omega)) h
  have hcmp : ∀ c : T49, (f38.p (c.1, c.2.1, c.2.2.1, c.2.2.2.1, c.2.2.2.2.1, c.2.2.2.2.2.1, c.2.2.2.2.2.2.1, c.2.2.2.2.2.2.2.1, c.2.2.2.2.2.2.2.2.1, c.2.2.2.2.2.2.2.2.2.1, c.2.2.2.2.2.2.2.2.2.2.1, c.2.2.2.2.2.2.2.2.2.2.2, t) < 0) ↔ Op.bytesLess c.1.toList t.toList = true := by
    intro c
    rw [ByteArray.toList_eq, ByteArray.toList_eq]
    exact cmp_lt _ _
  unfold f32.n
  refine .while (fun s => ∃ i j : Nat, s = ((i : Int), (j : Int)) ∧ i ≤ j ∧ j ≤ l.length ∧ (∀ k (hk : k < l.length), k < i → Op.bytesLess l[k].1.toList t.toList = true) ∧ (∀ k (hk : k < l.length), j ≤ k → ¬ Op.bytesLess l[k].1.toList t.toList = true))
    (fun s => (s.2 - s.1).toNat) ⟨0, l.length, rfl, by omega, by omega, fun k _ h => by omega, fun k hk h => by omega⟩ (by dsimp only; omega) ?_
  rintro _ ⟨i, j, rfl, hij, hj, h1, h2⟩
  dsimp only
  rw [mid_ok (by omega)]
  refine .ite (fun hlt => ?_) fun hge => ?_
  · simp only [decide_eq_true_eq] at hlt
    have hm : (i + j) / 2 < l.length := by omega
    refine .chk (idx_ok hm) (.lt ?_)
    rw [rd_nat (r := R49) hm]
    refine .lt (.ite (fun hy => ?_) fun hy => ?_)
    · rw [decide_eq_true_eq, hcmp] at hy
      refine .go ⟨⟨(i + j) / 2 + 1, j, ?_, by omega, hj, fun k hk hki => hsrt k _ hk hm (by omega) hy, h2⟩, ?_⟩
      · rw [wrap_id (by omega) (by omega)]; rfl
      · rw [wrap_id (by omega) (by omega)]; omega
    · rw [decide_eq_true_eq, hcmp] at hy
      refine .go ⟨⟨i, (i + j) / 2, rfl, by omega, by omega, h1, fun k hk hki hp => hy (hsrt _ k hm hk (by omega) hp)⟩, ?_⟩
      omega
  · simp only [decide_eq_true_eq] at hge
    have he : i = j := by omega
    subst he
    refine .chk ?_ (.lt (.lt (.ret (.some ⟨i, rfl, hj, fun k hk => ⟨fun hp => ?_, fun hk' => h1 k hk hk'⟩⟩))))
    · by_cases h : i < l.length
      · rw [or_ok (idx_ok h)]
      · have : ¬ (i : Int) < (l.length : Int) := by omega
        simp [this]
    · by_cases h : k < i
      · exact h
      · exact absurd hp (h2 k hk (by omega))

theorem within26 (l : List T49) (s : T55) (hl : l.length < 2 ^ 62) (hs : Srt l) : oS (fun y => y = l.filter (inS s)) (f26.n (l, s)) := by
  unfold f26.n
  refine .ite (fun h => .some ?_) fun h => ?_
  · symm
    rw [List.filter_eq_nil_iff]
    intro c _ hc
    simp only [inS, Bool.and_eq_true, Bool.not_eq_true'] at hc
    have h1 := bl_lt_of_le_lt hc.1 hc.2
    simp only [Bool.or_eq_true, beq_iff_eq] at h
    rcases h with h | h
    · rw [bl_asymm h] at h1; cases h1
    · rw [h, bl_irrefl] at h1; cases h1
  · refine .bindO (find32 l s.1 hl hs) ?_
    rintro y1 ⟨m1, e1, hm1, g1⟩
    refine .bindO (find32 l s.2 hl hs) ?_
    rintro y2 ⟨m2, e2, hm2, g2⟩
    dsimp only at e1 e2 ⊢
    rw [e1, e2]
    have hmax : (if (m1 : Int) > (m2 : Int) then (m1 : Int) else (m2 : Int)) = ((max m1 m2 : Nat) : Int) := by split <;> omega
    rw [hmax]
    refine .chk (by simp; omega) (.some ?_)
    symm
    have := filter_range (p := inS s) (l := l) (m := m1) (n := max m1 m2) (by omega) (by omega) fun k hk => ?_
    · simpa using this
    · simp only [inS, Bool.and_eq_true, Bool.not_eq_true']
      rw [g2 k hk, ← Bool.not_eq_true, g1 k hk]
      omega

/-! ### Who stands in the way -/
def lockOf (c : Option T49) : Int × Int × Int × Int × Int × Int × Int × Bool × ByteArray × Bool :=
  match c with
  | some a => (a.2.2.2.1, a.2.2.2.2.1, a.2.2.2.2.2.1, a.2.2.2.2.2.2.1, a.2.2.2.2.2.2.2.1, a.2.2.2.2.2.2.2.2.1, a.2.2.2.2.2.2.2.2.2.1, a.2.2.2.2.2.2.2.2.2.2.1, a.2.2.2.2.2.2.2.2.2.2.2, true)
  | none => (0, 0, 0, 0, 0, 0, 0, false, ⟨#[]⟩, false)

theorem blocks20 (l : List T49) (s : T55) (w t : Int) (hl : l.length < 2 ^ 62) (hs : Srt l) : f20.n (l, s.1, s.2, w, t) = some (lockOf ((l.filter (inS s)).find? (blk w t))) := by
  refine oS.eq ?_
  unfold f20.n
  refine .bindO (within26 l s hl hs) ?_
  rintro _ rfl
  have hlen : (l.filter (inS s)).length < 2 ^ 62 := Nat.lt_of_le_of_lt (List.length_filter_le _ _) hl
  refine .chk (small_of hlen) (.bindE ?_)
  rw [foldE_congr (step' := fun a (_ : Unit) => if blk w t a then .ret (some (lockOf (some a))) else .go ()), foldE_find]
  · cases (l.filter (inS s)).find? (blk w t) with
    | none => exact .some rfl
    | some a => exact .some rfl
  · intro a _ _
    dsimp only
    rw [less27]
    simp only [ok_some, vl_some, Bool.or_true, if_true, lt]
    rfl

theorem blocks29 (l : List T49) (s : T55) (w t : Int) (hl : l.length < 2 ^ 62) : f29.n (l, s.1, s.2, w, t) = some (lockOf ((l.filter (inS s)).find? (blk w t))) := by
  refine oS.eq ?_
  unfold f29.n
  refine .chk (small_of hl) (.bindE ?_)
  rw [foldE_congr (step' := fun a (_ : Unit) => if decide (inS s a = true ∧ blk w t a = true) then .ret (some (lockOf (some a))) else .go ()), foldE_find, List.find?_filter]
  · cases l.find? (fun a => decide (inS s a = true ∧ blk w t a = true)) with
    | none => exact .some rfl
    | some a => exact .some rfl
  · intro a _ _
    have : (f23.p (a.1, s.1, s.2) && a.2.2.1 && !f24.p (w, t, a.2.2.2.2.2.2.2.2.1, a.2.2.2.2.2.2.2.2.2.1)) = decide (inS s a = true ∧ blk w t a = true) := by
      rw [Bool.and_assoc, show f23.p (a.1, s.1, s.2) = inS s a from rfl, show (a.2.2.1 && !f24.p (w, t, a.2.2.2.2.2.2.2.2.1, a.2.2.2.2.2.2.2.2.2.1)) = blk w t a from rfl]
      cases inS s a <;> cases blk w t a <;> rfl
    simp only [lt, this]
    rfl

/-! ### What a cell tells -/
def pastQ (w t : Int) (v : T65) : Bool := !(f24.p (w, t, v.1, v.2.1))
def ver (w t : Int) (c : T49) : ByteArray × Bool :=
  match c.2.1.reverse.find? (pastQ w t) with
  | some v => if v.2.2.1 then (⟨#[]⟩, false) else (v.2.2.2, true)
  | none => (⟨#[]⟩, false)

theorem last35 (l : List T65) (w t : Int) (hl : l.length ≤ 30) :
    oS (fun r => (r = -1 ∧ l.reverse.find? (pastQ w t) = none) ∨ ∃ i, ∃ h : i < l.length, r = (i : Int) ∧ l.reverse.find? (pastQ w t) = some l[i]) (f35.n (l, w, t)) := by
  unfold f35.n
  rw [wrap_id (by dsimp only; omega) (by dsimp only; omega)]
  refine .while (fun s => ∃ k : Nat, s = (k : Int) - 1 ∧ k ≤ l.length ∧ ∀ j (hj : j < l.length), k ≤ j → pastQ w t l[j] = false) (fun s => (s + 1).toNat)
    ⟨l.length, rfl, by omega, fun j hj h => by omega⟩ (by dsimp only; omega) ?_
  rintro _ ⟨k, rfl, hk, hq⟩
  refine .ite (fun h => ?_) fun h => ?_
  · simp only [decide_eq_true_eq] at h
    obtain ⟨k, rfl⟩ : ∃ j, k = j + 1 := ⟨k - 1, by omega⟩
    have e : ((k + 1 : Nat) : Int) - 1 = (k : Int) := by omega
    rw [e]
    refine .chk (idx_ok (by dsimp only; omega)) (.lt ?_)
    rw [rd_nat (r := R65) (l := l) (by omega), less27]
    refine .bindO (.of rfl) ?_
    rintro _ rfl
    refine .ite (fun hp => ?_) fun hp => ?_
    · refine .ret (.some (.inr ⟨k, by omega, rfl, ?_⟩))
      have : (l.drop (k + 1)).reverse.find? (pastQ w t) = none := by
        rw [List.find?_eq_none]
        intro v hv
        rw [List.mem_reverse] at hv
        obtain ⟨j, hj, rfl⟩ := List.getElem_of_mem hv
        rw [List.getElem_drop]
        rw [hq _ _ (by omega)]; simp
      have hp' : pastQ w t l[k] = true := hp
      have e2 : l.reverse.find? (pastQ w t) = ((l.drop k).reverse.find? (pastQ w t)).or ((l.take k).reverse.find? (pastQ w t)) := by rw [← List.find?_append, ← List.reverse_append, List.take_append_drop]
      rw [e2, List.drop_eq_getElem_cons (show k < l.length by omega), List.reverse_cons, List.find?_append, this]
      simp [hp']
    · refine .go ⟨⟨k, ?_, by omega, fun j hj hkj => ?_⟩, ?_⟩
      · rw [wrap_id (by omega) (by omega)]
      · by_cases hjk : j = k
        · subst hjk; simpa [pastQ] using hp
        · exact hq j hj (by omega)
      · rw [wrap_id (by omega) (by omega)]; omega
  · simp only [decide_eq_true_eq] at h
    have hk0 : k = 0 := by omega
    subst hk0
    refine .ret (.some (.inl ⟨rfl, ?_⟩))
    rw [List.find?_eq_none]
    intro v hv
    rw [List.mem_reverse] at hv
    obtain ⟨j, hj, rfl⟩ := List.getElem_of_mem hv
    rw [hq j hj (by omega)]; simp

theorem tells28 (c : T49) (w t : Int) (hl : c.2.1.length ≤ 30) :
    f28.n (c.1, c.2.1, c.2.2.1, c.2.2.2.1, c.2.2.2.2.1, c.2.2.2.2.2.1, c.2.2.2.2.2.2.1, c.2.2.2.2.2.2.2.1, c.2.2.2.2.2.2.2.2.1, c.2.2.2.2.2.2.2.2.2.1, c.2.2.2.2.2.2.2.2.2.2.1, c.2.2.2.2.2.2.2.2.2.2.2, w, t) = some (ver w t c) := by
  refine oS.eq ?_
  unfold f28.n ver
  refine .bindO (last35 c.2.1 w t hl) ?_
  rintro y (⟨rfl, h⟩ | ⟨i, hi, rfl, h⟩)
  · rw [h]
    exact .chk (by simp) (.lt (.chk (by simp) (.some rfl)))
  · rw [h]
    dsimp only
    have h0 : ¬ (i : Int) < 0 := by omega
    refine .chk (by simp [h0, hi]) (.lt ?_)
    rw [rd_nat (r := R65) hi]
    refine .ite (fun hd => ?_) fun hd => ?_
    · simp only [h0, decide_false, Bool.false_or] at hd
      rw [if_pos hd]; exact .some rfl
    · simp only [h0, decide_false, Bool.false_or] at hd
      rw [if_neg hd]
      exact .chk (idx_ok hi) (.some rfl)

theorem tells36 (c : T49) (w t : Int) (hl : c.2.1.length ≤ 30) :
    f36.n (c.1, c.2.1, c.2.2.1, c.2.2.2.1, c.2.2.2.2.1, c.2.2.2.2.2.1, c.2.2.2.2.2.2.1, c.2.2.2.2.2.2.2.1, c.2.2.2.2.2.2.2.2.1, c.2.2.2.2.2.2.2.2.2.1, c.2.2.2.2.2.2.2.2.2.2.1, c.2.2.2.2.2.2.2.2.2.2.2, w, t) = some (ver w t c) := by
  refine oS.eq ?_
  unfold f36.n ver
  refine .chk (small_of (by dsimp only; omega)) (.bindE ?_)
  rw [foldE_pure (fun s a => if pastQ w t a then (a.2.2.2, !a.2.2.1) else s), foldl_last]
  · cases c.2.1.reverse.find? (pastQ w t) with
    | none => exact oS.chk (by simp) (.some rfl)
    | some v =>
      dsimp only
      cases h : v.2.2.1
      · exact oS.no (by simp [h]) (.some (by simp))
      · exact oS.chk (by simp [h]) (.some (by simp))
  · intro a _ s
    dsimp only [lt]
    unfold pastQ
    split <;> rfl

/-! ### What a span tells -/
def item (w t : Int) (c : T49) : Option T41 := if (ver w t c).2 then some (c.1, (ver w t c).1) else none
def items (l : List T49) (w t : Int) (s : T55) : List T41 := (l.filter (inS s)).filterMap (item w t)
def told (m : Int) (l : List T41) : List T41 × Int := if (l.length : Int) > (if (0 : Int) > m then 0 else m) then ([], 3) else (l, 0)

theorem items_length (l : List T49) (w t : Int) (s : T55) : (items l w t s).length ≤ l.length :=
  Nat.le_trans (List.length_filterMap_le _ _) (List.length_filter_le _ _)

theorem lim_ok {a b : Nat} (h : a + b ≤ 1000000) : Nat.ble ((a + b) * 32) LIM = true := by
  rw [Nat.ble_eq]; unfold LIM; omega

theorem scan21 (l : List T49) (s : T55) (w t m : Int) (hl : Lil l) (hs : Srt l) : f21.n (l, s.1, s.2, w, t, m) = some (told m (items l w t s)) := by
  have h60 := hl.1
  refine oS.eq ?_
  unfold f21.n
  refine .bindO (within26 l s (by omega) hs) ?_
  rintro _ rfl
  have hlen : (l.filter (inS s)).length ≤ 60 := Nat.le_trans (List.length_filter_le _ _) h60
  have hmem : ∀ c ∈ l.filter (inS s), c.2.1.length ≤ 30 := fun c hc => hl.2 c (List.mem_filter.1 hc).1
  refine .chk (small_of (by omega)) (.bindE ?_)
  unfold items
  generalize l.filter (inS s) = q at hlen hmem
  refine rS.foldE (fun i acc => acc = (q.take i).filterMap (item w t) ∧ (acc.length : Int) ≤ (if (0 : Int) > m then 0 else m)) ⟨by simp, by simp; split <;> omega⟩ ?_ ?_
  · rintro i hi acc ⟨ha, hm⟩
    have hal : acc.length ≤ i := by rw [ha]; exact Nat.le_trans (List.length_filterMap_le _ _) (List.length_take_le _ _)
    refine .bindO (.of (tells28 q[i] w t (hmem _ (List.getElem_mem hi)))) ?_
    rintro _ rfl
    refine .ite (fun hv => .go ⟨?_, hm⟩) fun hv => ?_
    · rw [take_snoc hi, List.filterMap_append, ← ha]
      have : item w t q[i] = none := by unfold item; simpa using hv
      simp [this]
    · have hit : item w t q[i] = some (q[i].1, (ver w t q[i]).1) := by unfold item; rw [if_pos (by simpa using hv)]
      have hs1 : (q.take (i + 1)).filterMap (item w t) = acc ++ [(q[i].1, (ver w t q[i]).1)] := by rw [take_snoc hi, List.filterMap_append, ← ha]; simp [hit]
      refine .ite (fun hge => .ret (.some ?_)) fun hge => .chk (lim_ok (by simp; omega)) (.go ⟨hs1.symm, ?_⟩)
      · simp only [decide_eq_true_eq] at hge
        have : (q.filterMap (item w t)).length ≥ acc.length + 1 := by
          conv => lhs; rw [← List.take_append_drop (i + 1) q, List.filterMap_append, hs1]
          simp only [List.length_append, List.length_cons, List.length_nil]
          omega
        unfold told
        rw [if_pos]
        split <;> omega
      · simp only [decide_eq_true_eq] at hge
        simp only [List.length_append, List.length_cons, List.length_nil]
        split <;> omega
  · rintro s ⟨ha, hm⟩
    rw [List.take_length] at ha
    refine .some ?_
    unfold told
    rw [← ha, if_neg (by omega)]

theorem scan31 (l : List T49) (s : T55) (w t m : Int) (hl : Lil l) : f31.n (l, s.1, s.2, w, t, m) = some (told m (items l w t s)) := by
  have h60 := hl.1
  refine oS.eq ?_
  unfold f31.n
  refine .chk (small_of (by dsimp only; omega)) (.bindE ?_)
  refine rS.foldE (fun i acc => acc = ((l.take i).filter (inS s)).filterMap (item w t)) (by simp) ?_ ?_
  · rintro i hi acc ha
    have hal : acc.length ≤ i := by rw [ha]; exact Nat.le_trans (List.length_filterMap_le _ _) (Nat.le_trans (List.length_filter_le _ _) (List.length_take_le _ _))
    have hin : f23.p (l[i].1, s.1, s.2) = inS s l[i] := rfl
    refine .lt ?_
    dsimp only at hi ⊢
    rw [hin]
    refine .ite (fun hv => .go ?_) fun hv => ?_
    · rw [take_snoc hi, List.filter_append, List.filterMap_append, ← ha]
      have : inS s l[i] = false := by simpa using hv
      simp [this]
    · have hv' : inS s l[i] = true := by simpa using hv
      refine .bindO (.of (tells36 l[i] w t (hl.2 _ (List.getElem_mem hi)))) ?_
      rintro _ rfl
      refine .ite (fun hy => .chk (lim_ok (by simp; omega)) (.go ?_)) fun hy => .go ?_
      · rw [take_snoc hi, List.filter_append, List.filterMap_append, ← ha]
        simp [hv', item, hy]
      · rw [take_snoc hi, List.filter_append, List.filterMap_append, ← ha]
        simp [hv', item, hy]
  · rintro acc ha
    have ha' : acc = items l w t s := by rw [ha, List.take_length]; rfl
    subst ha'
    refine .ite (fun h => .some ?_) fun h => .some ?_
    · simp only [decide_eq_true_eq] at h; unfold told; rw [if_pos h]
    · simp only [decide_eq_true_eq] at h; unfold told; rw [if_neg h]

end
end Go.Proofs.Ytcjmpignjljfbaa.Pure
