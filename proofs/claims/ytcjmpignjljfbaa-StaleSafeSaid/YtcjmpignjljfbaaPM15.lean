/- The pure machine, part 15: regions. -/
import Derived.Test.YtcjmpignjljfbaaPM14
import Derived.Deep.Quiet
namespace Go.PM
open Go.RowKit
set_option linter.unusedVariables false
set_option linter.unusedSimpArgs false

structure Sim (E : Env) (G : Gh) (w : World) (s : St) (a : Act) : Prop where
  t : SimT E G w s a
  m : SimM E G w s

section
variable {P : Program} {E : Env} {G G' : Gh} {w w' : World} {s s' : St} {a : Act}

theorem SimT.mono (h : SimT E G w s a) (hm : Mono E G w G' w') (ht : s'.t = s.t) (hn : s'.n = s.n) : SimT E G' w' s' a :=
  ⟨fun d ids v hd => by
      rw [ht] at hd
      rcases h.tm d ids v hd with ⟨h1, h2⟩ | h1
      · exact .inl ⟨h1, h2.mono hm⟩
      · exact .inr h1,
    by rw [hn]; exact h.n, h.df⟩

theorem freeOf_mem {d : Nat} : ∀ {l : List (Nat × List (Nat × Bool) × PV)}, freeOf d l = true → ∀ k ids v, (k, ids, v) ∈ l → ∀ p ∈ ids, p.1 ≠ d
  | [], _, k, ids, v, hm, _, _ => by cases hm
  | (k', ids', v') :: l, h, k, ids, v, hm, p, hp => by
    simp only [freeOf, Bool.and_eq_true, List.all_eq_true, Bool.not_eq_true'] at h
    rcases List.mem_cons.1 hm with h1 | h1
    · cases h1
      intro he
      have := h.1 p hp
      rw [he] at this; simp at this
    · exact freeOf_mem h.2 k ids v h1 p hp

theorem rmT_mem {d : Nat} : ∀ {l : List (Nat × List (Nat × Bool) × PV)} {k ids v}, (k, ids, v) ∈ rmT d l → (k, ids, v) ∈ l ∧ k ≠ d
  | [], k, ids, v, h => by cases h
  | (k', e) :: l, k, ids, v, h => by
    simp only [rmT] at h
    cases hk : Nat.beq k' d with
    | true => rw [hk] at h; obtain ⟨h1, h2⟩ := rmT_mem h; exact ⟨List.mem_cons_of_mem _ h1, h2⟩
    | false =>
      rw [hk] at h
      rcases List.mem_cons.1 h with h1 | h1
      · cases h1
        refine ⟨List.mem_cons_self, fun he => ?_⟩
        rw [he] at hk; simp at hk
      · obtain ⟨h2, h3⟩ := rmT_mem h1; exact ⟨List.mem_cons_of_mem _ h2, h3⟩

theorem put_getD (a : Act) (d k : Nat) (x : Value) : (a.put (some d) x).tmps.getD k undef = if k = d ∧ d < a.tmps.size then x else a.tmps.getD k undef := by
  simp only [Act.put, Array.getD_eq_getD_getElem?, Array.getElem?_setIfInBounds]
  by_cases h1 : d = k
  · subst h1
    by_cases h2 : d < a.tmps.size
    · simp [h2]
    · simp [h2]
  · have h1' : ¬ k = d := fun e => h1 e.symm
    simp [h1, h1']

theorem simT_put (h : SimT E G w s a) {dst : Option Nat} {ids : List (Nat × Bool)} {v : PV} (hp : s.put dst ids v = some s') {x : Value} (hx : (IdsHold a ids ∧ RepP E G w v x) ∨ (¬ IdsHold a ids ∧ x = undef)) :
    SimT E G w s' (a.put dst x) ∧ s'.b = s.b ∧ s'.live = s.live ∧ s'.nt = s.nt ∧ s'.fresh = s.fresh ∧ s'.wr = s.wr ∧ s'.n = s.n := by
  cases dst with
  | none => simp [St.put] at hp; subst hp; exact ⟨h, rfl, rfl, rfl, rfl, rfl, rfl⟩
  | some d =>
    simp only [St.put] at hp
    cases hc : (freeOf d ((d, ids, v) :: s.t) && Nat.blt d s.n) with
    | false => rw [hc] at hp; cases hp
    | true =>
      rw [hc] at hp
      cases hp
      simp only [Bool.and_eq_true, Nat.blt_eq] at hc
      obtain ⟨h1, h2⟩ := hc
      have hfree := freeOf_mem h1
      have hsz : d < a.tmps.size := by rw [h.n]; exact h2
      have hkeep : ∀ ids', (∀ p ∈ ids', p.1 ≠ d) → (IdsHold (a.put (some d) x) ids' ↔ IdsHold a ids') := by
        intro ids' hne
        constructor
        · intro hh p hp
          have := hh p hp
          rwa [put_getD, if_neg (fun he => hne p hp he.1)] at this
        · intro hh p hp
          rw [put_getD, if_neg (fun he => hne p hp he.1)]
          exact hh p hp
      refine ⟨⟨fun k ids' v' hm => ?_, by simp [Act.put, h.n], by simp [Act.put, h.df]⟩, rfl, rfl, rfl, rfl, rfl, rfl⟩
      rcases List.mem_cons.1 hm with he | hm
      · cases he
        rw [put_getD, if_pos ⟨rfl, hsz⟩, hkeep ids (hfree d ids v List.mem_cons_self)]
        exact hx
      · obtain ⟨hm1, hm2⟩ := rmT_mem hm
        rw [put_getD, if_neg (fun he => hm2 he.1), hkeep ids' (hfree k ids' v' (List.mem_cons_of_mem _ hm1))]
        exact h.tm k ids' v' hm1

theorem SimM.congr (h : SimM E G w s) (hb : s'.b = s.b) (hl : s'.live = s.live) (hn : s'.nt = s.nt) : SimM E G w s' :=
  { h with len := by rw [hb]; exact h.len, b := ⟨fun i cs hi => by rw [hb] at hi; exact h.b.box i cs hi⟩, live := fun p hp => by rw [hl] at hp; exact h.live p hp, nt := by rw [hn]; exact h.nt }

/-! ### Guards -/
theorem lit_hold (h : SimT E G w s a) {t : Nat} {b : Bool} (hh : a.tmps.getD t undef = .bool b) : lit s t b = true := by
  unfold lit
  split
  · rename_i ids c hg
    rcases h.tm _ _ _ (getT_mem hg) with ⟨_, h2⟩ | ⟨_, h2⟩
    · have h3 : a.tmps.getD t undef = .bool c := h2
      rw [hh] at h3; cases h3
      cases b <;> rfl
    · rw [hh] at h2; cases h2
  · rfl

theorem gB_hold (h : SimT E G w s a) : ∀ {ids : List (Nat × Bool)}, IdsHold a ids → gB s ids = true
  | [], _ => rfl
  | [(t, b)], hh => lit_hold h (hh _ List.mem_cons_self)
  | (t, b) :: q :: l, hh => by
    have h1 : gB s (q :: l) = true := gB_hold h fun p hp => hh p (List.mem_cons_of_mem _ hp)
    have h2 : lit s t b = true := lit_hold h (hh _ List.mem_cons_self)
    show (gB s (q :: l) && lit s t b) = true
    rw [h1, h2]; rfl

theorem getElem?_of_getD {tmps : Array Value} {t : Nat} {x : Value} (h : tmps.getD t undef = x) (hx : x ≠ undef) : tmps[t]? = some x := by
  rw [Array.getD_eq_getD_getElem?] at h
  cases hq : tmps[t]? with
  | none => rw [hq] at h; exact absurd h.symm hx
  | some y => rw [hq] at h; exact congrArg some h

theorem getD_of_getElem? {tmps : Array Value} {t : Nat} {x : Value} (h : tmps[t]? = some x) : tmps.getD t undef = x := by
  rw [Array.getD_eq_getD_getElem?, h]; rfl

theorem guard_sound (h : SimT E G w s a) {ops : Array Oper} {o : Oper} :
    (∀ ids g, guardOf ops s o = .run ids g → (Region.wanted o (yielded ops a.tmps) = true ↔ IdsHold a ids) ∧ (g = none → ids = []) ∧ (∀ q, g = some q → (IdsHold a ids → q = true) ∧ ∀ t b, ids = [(t, b)] → q = true → IdsHold a ids)) ∧
    (guardOf ops s o = .skip → Region.wanted o (yielded ops a.tmps) = false) := by
  unfold guardOf Region.wanted
  cases hg : o.guard with
  | none =>
    refine ⟨fun ids g he => ?_, fun he => (by cases he)⟩
    cases he
    exact ⟨⟨fun _ p hp => (by cases hp), fun _ => rfl⟩, fun _ => rfl, fun q hq => (by cases hq)⟩
  | some jw =>
    obtain ⟨j, want⟩ := jw
    simp only
    cases hd : (ops[j]?).bind (·.dst) with
    | none => exact ⟨fun ids g he => (by cases he), fun he => (by cases he)⟩
    | some t =>
      simp only
      have hy : yielded ops a.tmps j = match a.tmps[t]? with
          | some (.bool b) => some b
          | _ => none := by
        unfold yielded
        rw [hd]
        rfl
      refine ⟨fun ids g he => ?_, fun he => ?_⟩
      · split at he
        · rename_i ids' b hgt
          cases he
          have key : (yielded ops a.tmps j == some want) = true ↔ a.tmps.getD t undef = .bool want := by
            rw [hy]
            constructor
            · intro hh
              split at hh
              · rename_i b' hb'
                simp at hh; subst hh
                exact getD_of_getElem? hb'
              · simp at hh
            · intro hh
              rw [getElem?_of_getD hh (by simp [undef])]
              simp
          have hent := h.tm _ _ _ (getT_mem hgt)
          have key2 : a.tmps.getD t undef = .bool want ↔ IdsHold a ((t, want) :: ids') := by
            constructor
            · intro hh p hp
              rcases List.mem_cons.1 hp with rfl | hp
              · exact hh
              · rcases hent with ⟨h1, _⟩ | ⟨_, h2⟩
                · exact h1 p hp
                · rw [hh] at h2; cases h2
            · intro hh; exact hh _ List.mem_cons_self
          refine ⟨key.trans key2, fun hn => (by cases hn), fun q hq => ?_⟩
          cases hq
          refine ⟨fun hh => gB_hold h hh, fun t' b' hi hq => ?_⟩
          cases hi
          rw [← key2]
          simp only [gB, lit, hgt] at hq
          rcases hent with ⟨_, h2⟩ | ⟨h1, _⟩
          · have h3 : a.tmps.getD t undef = .bool b := h2
            rw [h3]
            cases want <;> simp_all
          · exact absurd (fun p hp => (by cases hp)) h1
        · cases he
        · cases he
      · split at he
        · cases he
        · rename_i ids' hgt
          have hx : a.tmps.getD t undef = undef := by
            rcases h.tm _ _ _ (getT_mem hgt) with ⟨_, h2⟩ | ⟨_, h2⟩
            · exact h2
            · exact h2
          rw [hy]
          split
          · rename_i b' hb'
            rw [getD_of_getElem? hb'] at hx
            cases hx
          · simp
        · cases he

end
end Go.PM
