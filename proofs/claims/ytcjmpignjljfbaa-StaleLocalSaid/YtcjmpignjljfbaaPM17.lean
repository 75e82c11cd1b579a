/- The pure machine, part 17: regions whose order is open. -/
import Derived.Test.YtcjmpignjljfbaaPM16
import Derived.Orders
namespace Go.PM
open Go.RowKit
set_option linter.unusedVariables false
set_option linter.unusedSimpArgs false

theorem hasNat_mem {d : Nat} : ∀ {l : List Nat}, hasNat d l = true ↔ d ∈ l
  | [] => by simp [hasNat]
  | e :: l => by
    simp only [hasNat, Bool.or_eq_true, Nat.beq_eq, hasNat_mem, List.mem_cons]
    constructor
    · rintro (h | h)
      · exact .inl h.symm
      · exact .inr h
    · rintro (h | h)
      · exact .inl h.symm
      · exact .inr h

theorem distinctN_nodup : ∀ {l : List Nat}, distinctN l = true → l.Nodup
  | [], _ => List.nodup_nil
  | d :: l, h => by
    simp only [distinctN, Bool.and_eq_true, Bool.not_eq_true'] at h
    refine List.nodup_cons.2 ⟨fun hm => ?_, distinctN_nodup h.2⟩
    have := hasNat_mem.2 hm
    rw [h.1] at this; cases this

theorem keepT_mem {ds : List Nat} : ∀ {l : List (Nat × List (Nat × Bool) × PV)} {d ids v}, (d, ids, v) ∈ keepT ds l → ids = [] ∧ (d, ids, v) ∈ l ∧ d ∉ ds
  | [], d, ids, v, h => by cases h
  | (k, [], u) :: l, d, ids, v, h => by
    simp only [keepT] at h
    cases hh : hasNat k ds with
    | true => rw [hh] at h; obtain ⟨h1, h2, h3⟩ := keepT_mem h; exact ⟨h1, List.mem_cons_of_mem _ h2, h3⟩
    | false =>
      rw [hh] at h
      rcases List.mem_cons.1 h with h1 | h1
      · cases h1
        exact ⟨rfl, List.mem_cons_self, fun hm => by rw [hasNat_mem.2 hm] at hh; cases hh⟩
      · obtain ⟨h1, h2, h3⟩ := keepT_mem h1; exact ⟨h1, List.mem_cons_of_mem _ h2, h3⟩
  | (k, p :: ps, u) :: l, d, ids, v, h => by
    obtain ⟨h1, h2, h3⟩ := keepT_mem (l := l) h
    exact ⟨h1, List.mem_cons_of_mem _ h2, h3⟩

theorem idsHold_nil (a : Act) : IdsHold a [] := fun p hp => (by cases hp)

/-! ### What the checks say -/
theorem depsL_mem : ∀ {l : List Edge} {e : Edge}, e ∈ l → Region.binds .any e = true → e.on ∈ depsL l
  | [], e, h, _ => by cases h
  | x :: l, e, h, hb => by
    simp only [depsL]
    rcases List.mem_cons.1 h with rfl | h
    · rw [hb]; exact List.mem_cons_self
    · cases hx : Region.binds .any x with
      | true => exact List.mem_cons_of_mem _ (depsL_mem h hb)
      | false => exact depsL_mem h hb

theorem depsL_of : ∀ {l : List Edge} {d : Nat}, d ∈ depsL l → ∃ e ∈ l, Region.binds .any e = true ∧ e.on = d
  | [], d, h => by cases h
  | x :: l, d, h => by
    simp only [depsL] at h
    cases hx : Region.binds .any x with
    | true =>
      rw [hx] at h
      rcases List.mem_cons.1 h with rfl | h
      · exact ⟨x, List.mem_cons_self, hx, rfl⟩
      · obtain ⟨e, h1, h2⟩ := depsL_of h; exact ⟨e, List.mem_cons_of_mem _ h1, h2⟩
    | false =>
      rw [hx] at h
      obtain ⟨e, h1, h2⟩ := depsL_of h; exact ⟨e, List.mem_cons_of_mem _ h1, h2⟩

theorem ancOk_get {ancs : List (List Nat)} : ∀ {i : Nat} {os : List Oper}, ancOk ancs i os = true → ∀ (j : Nat) o, os[j]? = some o → ancOk1 ancs (i + j) o = true
  | i, [], _, j, o, h => by simp at h
  | i, p :: os, hk, j, o, h => by
    simp only [ancOk, Bool.and_eq_true] at hk
    cases j with
    | zero => simp at h; subst h; exact hk.1
    | succ j => have := ancOk_get hk.2 j o (by simpa using h); rwa [show i + (j + 1) = i + 1 + j by omega]

theorem startOk_get {ancs : List (List Nat)} {i d : Nat} : ∀ {k : Nat} {os : List Oper}, startOk ancs i d k os = true → ∀ (j : Nat) o, os[j]? = some o → o.dst = some d → k + j = i ∨ i ∈ anc ancs (k + j)
  | k, [], _, j, o, h, _ => by simp at h
  | k, p :: os, hk, j, o, h, hd => by
    simp only [startOk, Bool.and_eq_true] at hk
    cases j with
    | zero =>
      simp at h; subst h
      rw [hd] at hk
      simpa [hasNat_mem] using hk.1
    | succ j => have := startOk_get hk.2 j o (by simpa using h) hd; rwa [show k + (j + 1) = k + 1 + j by omega]

theorem wrOk_get {ancs : List (List Nat)} {i d : Nat} : ∀ {k : Nat} {os : List Oper}, wrOk ancs i d k os = true → ∀ (j : Nat) o, os[j]? = some o → o.dst = some d → k + j ∈ anc ancs i
  | k, [], _, j, o, h, _ => by simp at h
  | k, p :: os, hk, j, o, h, hd => by
    simp only [wrOk, Bool.and_eq_true] at hk
    cases j with
    | zero =>
      simp at h; subst h
      rw [hd] at hk
      simpa [hasNat_mem] using hk.1
    | succ j => have := wrOk_get hk.2 j o (by simpa using h) hd; rwa [show k + (j + 1) = k + 1 + j by omega]

theorem exactB_get {ancs : List (List Nat)} {i : Nat} : ∀ {k : Nat} {os : List Oper}, exactB ancs i k os = true → ∀ (j : Nat) o, os[j]? = some o → isMemOp o.op = true → k + j ∈ anc ancs i ∨ i ∈ anc ancs (k + j) ∨ k + j = i
  | k, [], _, j, o, h, _ => by simp at h
  | k, p :: os, hk, j, o, h, hd => by
    simp only [exactB, Bool.and_eq_true] at hk
    cases j with
    | zero =>
      simp at h; subst h
      rw [hd] at hk
      simpa [hasNat_mem] using hk.1
    | succ j => have := exactB_get hk.2 j o (by simpa using h) hd; rwa [show k + (j + 1) = k + 1 + j by omega]

theorem allExact_get {ancs : List (List Nat)} {all : List Oper} : ∀ {k : Nat} {os : List Oper}, allExact ancs all k os = true → ∀ (j : Nat) o, os[j]? = some o → exactB ancs (k + j) 0 all = true
  | k, [], _, j, o, h => by simp at h
  | k, p :: os, hk, j, o, h => by
    simp only [allExact, Bool.and_eq_true] at hk
    cases j with
    | zero => exact hk.1
    | succ j => have := allExact_get hk.2 j o (by simpa using h); rwa [show k + (j + 1) = k + 1 + j by omega]

theorem memExact_get {ancs : List (List Nat)} {all : List Oper} : ∀ {k : Nat} {os : List Oper}, memExact ancs all k os = true → ∀ (j : Nat) o, os[j]? = some o → isMemOp o.op = true → exactB ancs (k + j) 0 all = true
  | k, [], _, j, o, h, _ => by simp at h
  | k, p :: os, hk, j, o, h, hm => by
    simp only [memExact, Bool.and_eq_true] at hk
    cases j with
    | zero =>
      simp at h; subst h
      rw [hm] at hk
      simpa using hk.1
    | succ j => have := memExact_get hk.2 j o (by simpa using h) hm; rwa [show k + (j + 1) = k + 1 + j by omega]

theorem idsOk_get {ancs : List (List Nat)} {os : List Oper} : ∀ {T : TE}, idsOk ancs os T = true → ∀ j d ids v, (j, d, ids, v) ∈ T → ∀ p ∈ ids, wrOk ancs j p.1 0 os = true
  | [], _, j, d, ids, v, h, _, _ => by cases h
  | (j', d', ids', v') :: T, hk, j, d, ids, v, h, p, hp => by
    simp only [idsOk, Bool.and_eq_true, List.all_eq_true] at hk
    rcases List.mem_cons.1 h with h | h
    · cases h; exact hk.1 p hp
    · exact idsOk_get hk.2 j d ids v h p hp

theorem pickT_mem {an : List Nat} : ∀ {T : TE} {e}, e ∈ pickT an T → ∃ j, (j, e) ∈ T ∧ j ∈ an
  | [], e, h => by cases h
  | (j, e') :: T, e, h => by
    simp only [pickT] at h
    cases hh : hasNat j an with
    | true =>
      rw [hh] at h
      rcases List.mem_cons.1 h with rfl | h
      · exact ⟨j, List.mem_cons_self, hasNat_mem.1 hh⟩
      · obtain ⟨k, h1, h2⟩ := pickT_mem h; exact ⟨k, List.mem_cons_of_mem _ h1, h2⟩
    | false =>
      rw [hh] at h
      obtain ⟨k, h1, h2⟩ := pickT_mem h; exact ⟨k, List.mem_cons_of_mem _ h1, h2⟩

theorem startT_mem {ancs : List (List Nat)} {os : List Oper} {i : Nat} : ∀ {l : List (Nat × List (Nat × Bool) × PV)} {d ids v}, (d, ids, v) ∈ startT ancs os i l → ids = [] ∧ (d, ids, v) ∈ l ∧ startOk ancs i d 0 os = true
  | [], d, ids, v, h => by cases h
  | (k, [], u) :: l, d, ids, v, h => by
    simp only [startT] at h
    cases hh : startOk ancs i k 0 os with
    | false => rw [hh] at h; obtain ⟨h1, h2, h3⟩ := startT_mem h; exact ⟨h1, List.mem_cons_of_mem _ h2, h3⟩
    | true =>
      rw [hh] at h
      rcases List.mem_cons.1 h with h1 | h1
      · cases h1; exact ⟨rfl, List.mem_cons_self, hh⟩
      · obtain ⟨h1, h2, h3⟩ := startT_mem h1; exact ⟨h1, List.mem_cons_of_mem _ h2, h3⟩
  | (k, p :: ps, u) :: l, d, ids, v, h => by
    obtain ⟨h1, h2, h3⟩ := startT_mem (l := l) h
    exact ⟨h1, List.mem_cons_of_mem _ h2, h3⟩

/-! ### The lexical run, laid out -/
inductive Stp (cx : Ctx) (ops : Array Oper) (os : List Oper) (ancs : List (List Nat)) (s0 : St) (i : Nat) (o : Oper) (T : TE) (M : St) : TE → St → Prop where
  | skip (h : guardOf ops (stAt ancs os s0 M i T) o = .skip) : Stp cx ops os ancs s0 i o T M (ent i o [] .no T) M
  | pure (ids : List (Nat × Bool)) (g : Option Bool) (c : Bool) (v : PV) (h : guardOf ops (stAt ancs os s0 M i T) o = .run ids g) (hv : (opP cx (stAt ancs os s0 M i T) ids true o.op).val = some (c, v))
      (h1 : g = none → c = true) (h2 : g = some true → c = true) : Stp cx ops os ancs s0 i o T M (ent i o ids v T) M
  | mem (ids : List (Nat × Bool)) (v : PV) (s' : St) (h : guardOf ops (stAt ancs os s0 M i T) o = .run ids none) (hm : isMemOp o.op = true) (he : exactB ancs i 0 os = true)
      (hv : memV cx (stAt ancs os s0 M i T) o.op = some (true, v, s')) : Stp cx ops os ancs s0 i o T M (ent i o [] v T) { s' with t := [] }

def fin (os : List Oper) (s0 : St) (T : TE) (M : St) : St := { M with t := T.map (·.2) ++ keepT (os.filterMap (·.dst)) s0.t, fresh := s0.fresh, wr := s0.wr }

theorem denAnyL_run {ρ : Type} {cx : Ctx} {ops : Array Oper} {os : List Oper} {ancs : List (List Nat)} {s0 : St} {K : St → Option ρ} {r : ρ} :
    ∀ (l : List Oper) (i : Nat) (T : TE) (M : St), denAnyL cx ops os ancs s0 K i l T M = some r → ∃ (Ts : Nat → TE) (Ms : Nat → St), Ts i = T ∧ Ms i = M ∧
      (∀ (j : Nat) o, l[j]? = some o → Stp cx ops os ancs s0 (i + j) o (Ts (i + j)) (Ms (i + j)) (Ts (i + j + 1)) (Ms (i + j + 1))) ∧
      idsOk ancs os (Ts (i + l.length)) = true ∧ K (fin os s0 (Ts (i + l.length)) (Ms (i + l.length))) = some r
  | [], i, T, M, h => by
    simp only [denAnyL] at h
    cases hk : idsOk ancs os T with
    | false => rw [hk] at h; cases h
    | true => rw [hk] at h; exact ⟨fun _ => T, fun _ => M, rfl, rfl, fun j o hj => by simp at hj, hk, h⟩
  | o :: l, i, T, M, h => by
    have go : ∀ T2 M2, Stp cx ops os ancs s0 i o T M T2 M2 → denAnyL cx ops os ancs s0 K (i + 1) l T2 M2 = some r → ∃ (Ts : Nat → TE) (Ms : Nat → St), Ts i = T ∧ Ms i = M ∧
      (∀ (j : Nat) p, (o :: l)[j]? = some p → Stp cx ops os ancs s0 (i + j) p (Ts (i + j)) (Ms (i + j)) (Ts (i + j + 1)) (Ms (i + j + 1))) ∧
      idsOk ancs os (Ts (i + (o :: l).length)) = true ∧ K (fin os s0 (Ts (i + (o :: l).length)) (Ms (i + (o :: l).length))) = some r := by
      intro T2 M2 hs hr
      obtain ⟨Ts, Ms, e1, e2, e3, e4, e5⟩ := denAnyL_run l (i + 1) T2 M2 hr
      have k1 : ∀ m, (i + 1 + m = i) = False := fun m => by simp; omega
      refine ⟨fun k => if k = i then T else Ts k, fun k => if k = i then M else Ms k, if_pos rfl, if_pos rfl, fun j p hj => ?_, ?_, ?_⟩
      · cases j with
        | zero =>
          simp at hj; subst hj
          simp only [Nat.add_zero, if_true]
          rw [if_neg (by omega), if_neg (by omega), e1, e2]
          exact hs
        | succ j =>
          have := e3 j p (by simpa using hj)
          dsimp only
          rw [if_neg (by omega), if_neg (by omega), if_neg (by omega), if_neg (by omega)]
          rwa [show i + (j + 1) = i + 1 + j by omega]
      · dsimp only
        rw [if_neg (by simp)]
        rwa [show i + (o :: l).length = i + 1 + l.length by simp; omega]
      · dsimp only
        rw [if_neg (by simp), if_neg (by simp)]
        rwa [show i + (o :: l).length = i + 1 + l.length by simp; omega]
    simp only [denAnyL] at h
    split at h
    · cases h
    · rename_i hg; exact go _ _ (.skip hg) h
    · rename_i ids g hg
      split at h
      · rename_i v hv
        exact go _ _ (.pure ids g true v hg (by rw [hv]; rfl) (fun _ => rfl) fun _ => rfl) h
      · rename_i c v hv
        split at h
        · cases c with
          | false => cases h
          | true => exact go _ _ (.pure ids none true v hg (by rw [hv]; rfl) (fun _ => rfl) fun _ => rfl) h
        · rename_i q
          cases hc : (!q || c) with
          | false => rw [hc] at h; cases h
          | true =>
            rw [hc] at h
            refine go _ _ (.pure ids (some q) c v hg (by rw [hv]; rfl) (fun h0 => by cases h0) fun h0 => ?_) h
            cases h0
            simpa using hc
      · cases hm : (isMemOp o.op && exactB ancs i 0 os) with
        | false => rw [hm] at h; cases h
        | true =>
          rw [hm] at h
          simp only [cond_true] at h
          simp only [Bool.and_eq_true] at hm
          split at h
          · split at h
            · rename_i c v s' hv
              cases c with
              | false => cases h
              | true => exact go _ _ (.mem ids v s' hg hm.1 hm.2 hv) h
            · cases h
          · cases h


theorem Stp.out {cx : Ctx} {ops : Array Oper} {os : List Oper} {ancs : List (List Nat)} {s0 : St} {i : Nat} {o : Oper} {T T2 : TE} {M M2 : St} (h : Stp cx ops os ancs s0 i o T M T2 M2) :
    (∃ ids v, T2 = ent i o ids v T) ∧ (isMemOp o.op = false → M2 = M) := by
  cases h with
  | skip => exact ⟨⟨_, _, rfl⟩, fun _ => rfl⟩
  | pure ids g c v => exact ⟨⟨_, _, rfl⟩, fun _ => rfl⟩
  | mem ids v s' _ hm => exact ⟨⟨_, _, rfl⟩, fun h0 => by rw [hm] at h0; cases h0⟩

theorem ent_mem {i : Nat} {o : Oper} {ids : List (Nat × Bool)} {v : PV} {T : TE} {e} (h : e ∈ T) : e ∈ ent i o ids v T := by
  unfold ent; cases o.dst with
  | none => exact h
  | some d => exact List.mem_cons_of_mem _ h

theorem ent_of {i : Nat} {o : Oper} {ids : List (Nat × Bool)} {v : PV} {T : TE} {e} (h : e ∈ ent i o ids v T) : (∃ d, o.dst = some d ∧ e = (i, d, ids, v)) ∨ e ∈ T := by
  unfold ent at h
  cases hd : o.dst with
  | none => rw [hd] at h; exact .inr h
  | some d =>
    rw [hd] at h
    rcases List.mem_cons.1 h with rfl | h
    · exact .inl ⟨d, rfl, rfl⟩
    · exact .inr h

theorem dst_inj : ∀ {os : List Oper}, (os.filterMap (·.dst)).Nodup → ∀ {j k : Nat} {o o' : Oper} {d : Nat}, os[j]? = some o → os[k]? = some o' → o.dst = some d → o'.dst = some d → j = k
  | [], _, j, k, o, o', d, h, _, _, _ => by simp at h
  | p :: os, hn, j, k, o, o', d, hj, hk, h1, h2 => by
    have hn' : (os.filterMap (·.dst)).Nodup := by
      cases hp : p.dst with
      | none => simpa [hp] using hn
      | some x =>
        have e : (p :: os).filterMap (·.dst) = x :: os.filterMap (·.dst) := by simp [hp]
        rw [e] at hn; exact (List.nodup_cons.1 hn).2
    have mem : ∀ (m : Nat) q, os[m]? = some q → q.dst = some d → d ∈ os.filterMap (·.dst) := fun m q hm hq => List.mem_filterMap.2 ⟨q, List.mem_of_getElem? hm, hq⟩
    cases j with
    | zero =>
      cases k with
      | zero => rfl
      | succ k =>
        simp at hj hk; subst hj
        have e : (p :: os).filterMap (·.dst) = d :: os.filterMap (·.dst) := by simp [h1]
        rw [e] at hn
        exact ((List.nodup_cons.1 hn).1 (mem k o' hk h2)).elim
    | succ j =>
      cases k with
      | zero =>
        simp at hj hk; subst hk
        have e : (p :: os).filterMap (·.dst) = d :: os.filterMap (·.dst) := by simp [h2]
        rw [e] at hn
        exact ((List.nodup_cons.1 hn).1 (mem j o hj h1)).elim
      | succ k => exact congrArg (· + 1) (dst_inj hn' (j := j) (k := k) (by simpa using hj) (by simpa using hk) h1 h2)

structure RunOK (cx : Ctx) (ops : Array Oper) (ancs : List (List Nat)) (s0 : St) (Ts : Nat → TE) (Ms : Nat → St) : Prop where
  ancok : ancOk ancs 0 ops.toList = true
  nodup : (ops.toList.filterMap (·.dst)).Nodup
  lt : ∀ d ∈ ops.toList.filterMap (·.dst), d < s0.n
  me : memExact ancs ops.toList 0 ops.toList = true
  t0 : Ts 0 = []
  m0 : Ms 0 = lockAt ancs ops.toList s0
  stp : ∀ (j : Nat) o, ops.toList[j]? = some o → Stp cx ops ops.toList ancs s0 j o (Ts j) (Ms j) (Ts (j + 1)) (Ms (j + 1))
  ids : idsOk ancs ops.toList (Ts ops.toList.length) = true

section
variable {P : Program} {E : Env} {G0 : Gh} {w0 : World} {a0 : Act} {cx : Ctx} {ops : Array Oper} {ancs : List (List Nat)} {s0 : St} {Ts : Nat → TE} {Ms : Nat → St}

theorem RunOK.idx (h : RunOK cx ops ancs s0 Ts Ms) : ∀ (k : Nat), k ≤ ops.toList.length → ∀ j d ids v, (j, d, ids, v) ∈ Ts k → j < k ∧ ∃ o, ops.toList[j]? = some o ∧ o.dst = some d
  | 0, _, j, d, ids, v, hm => by rw [h.t0] at hm; cases hm
  | k + 1, hk, j, d, ids, v, hm => by
    have ho : ops.toList[k]? = some ops.toList[k] := List.getElem?_eq_getElem (by omega)
    obtain ⟨⟨ids', v', he⟩, _⟩ := (h.stp k _ ho).out
    rw [he] at hm
    rcases ent_of hm with ⟨d', h1, h2⟩ | h1
    · cases h2; exact ⟨Nat.lt_succ_self _, _, ho, h1⟩
    · obtain ⟨h2, h3⟩ := h.idx k (by omega) j d ids v h1; exact ⟨by omega, h3⟩

theorem RunOK.sub (h : RunOK cx ops ancs s0 Ts Ms) (j : Nat) : ∀ (k : Nat), j ≤ k → k ≤ ops.toList.length → ∀ e, e ∈ Ts j → e ∈ Ts k
  | 0, h1, _, e, he => by have : j = 0 := by omega
                          subst this; exact he
  | k + 1, h1, h2, e, he => by
    by_cases hjk : j = k + 1
    · subst hjk; exact he
    · have ho : ops.toList[k]? = some ops.toList[k] := List.getElem?_eq_getElem (by omega)
      obtain ⟨⟨ids', v', hT⟩, _⟩ := (h.stp k _ ho).out
      rw [hT]
      exact ent_mem (h.sub j k (by omega) (by omega) e he)

theorem RunOK.down (h : RunOK cx ops ancs s0 Ts Ms) {j : Nat} {d : Nat} {ids : List (Nat × Bool)} {v : PV} : ∀ (k m : Nat), m ≤ k → j < m → k ≤ ops.toList.length → (j, d, ids, v) ∈ Ts k → (j, d, ids, v) ∈ Ts m
  | 0, m, h1, h2, _, he => by omega
  | k + 1, m, h1, h2, h3, he => by
    by_cases hmk : m = k + 1
    · subst hmk; exact he
    · have ho : ops.toList[k]? = some ops.toList[k] := List.getElem?_eq_getElem (by omega)
      obtain ⟨⟨ids', v', hT⟩, _⟩ := (h.stp k _ ho).out
      rw [hT] at he
      rcases ent_of he with ⟨d', _, h5⟩ | h5
      · cases h5; omega
      · exact h.down k m (by omega) h2 (by omega) h5

theorem RunOK.at_ (h : RunOK cx ops ancs s0 Ts Ms) {i : Nat} {o : Oper} (ho : ops.toList[i]? = some o) {ids : List (Nat × Bool)} {v : PV} (hT : Ts (i + 1) = ent i o ids v (Ts i)) {d ids' v'} (hm : (i, d, ids', v') ∈ Ts ops.toList.length) :
    o.dst = some d ∧ ids' = ids ∧ v' = v := by
  have hlt := (List.getElem?_eq_some_iff.1 ho).1
  have := h.down ops.toList.length (i + 1) (by omega) (Nat.lt_succ_self _) (Nat.le_refl _) hm
  rw [hT] at this
  rcases ent_of this with ⟨d', h1, h2⟩ | h1
  · cases h2; exact ⟨h1, rfl, rfl⟩
  · have := (h.idx i (by omega) _ _ _ _ h1).1; omega

theorem RunOK.ms (h : RunOK cx ops ancs s0 Ts Ms) {i : Nat} : ∀ (k : Nat), i ≤ k → k ≤ ops.toList.length → (∀ (m : Nat) o, ops.toList[m]? = some o → isMemOp o.op = true → (m < i ↔ m < k)) → Ms i = Ms k
  | 0, h1, _, _ => by have : i = 0 := by omega
                      subst this; rfl
  | k + 1, h1, h2, h3 => by
    by_cases hik : i = k + 1
    · subst hik; rfl
    · have ho : ops.toList[k]? = some ops.toList[k] := List.getElem?_eq_getElem (by omega)
      have hnm : isMemOp ops.toList[k].op = false := by
        cases hb : isMemOp ops.toList[k].op with
        | false => rfl
        | true => have := h3 k _ ho hb; omega
      rw [((h.stp k _ ho).out).2 hnm]
      exact h.ms k (by omega) (by omega) fun m o hm hb => by
        have := h3 m o hm hb
        constructor
        · intro hx; omega
        · intro hx; exact this.2 (by omega)

theorem RunOK.ms' (h : RunOK cx ops ancs s0 Ts Ms) {i k : Nat} (hi : i ≤ ops.toList.length) (hk : k ≤ ops.toList.length) (h3 : ∀ (m : Nat) o, ops.toList[m]? = some o → isMemOp o.op = true → (m < i ↔ m < k)) : Ms i = Ms k := by
  by_cases hik : i ≤ k
  · exact h.ms k hik hk h3
  · exact (h.ms i (by omega) hi fun m o hm hb => (h3 m o hm hb).symm).symm

/-- Whom number 'i' waits for has come up. -/
theorem RunOK_before (h : RunOK cx ops ancs s0 Ts Ms) {L : Nat → Prop} (hcl : ∀ (j : Nat) o, ops.toList[j]? = some o → L j → ∀ d ∈ depsOf o, L d) : ∀ (n i : Nat), i < n → ∀ o, ops.toList[i]? = some o → (∀ d ∈ depsOf o, L d) → ∀ j ∈ anc ancs i, L j ∧ j < i
  | 0, i, hi, _, _, _, _, _ => by omega
  | n + 1, i, hi, o, ho, hd, j, hj => by
    have hk := ancOk_get h.ancok i o ho
    rw [Nat.zero_add] at hk
    simp only [ancOk1, Bool.and_eq_true, List.all_eq_true, Bool.or_eq_true, List.any_eq_true, Nat.blt_eq, hasNat_mem] at hk
    rcases hk.2 j hj with h1 | ⟨d, h1, h2⟩
    · exact ⟨hd j h1, hk.1 j h1⟩
    · have hdi := hk.1 d h1
      have hlt := (List.getElem?_eq_some_iff.1 ho).1
      have hod : ops.toList[d]? = some ops.toList[d] := List.getElem?_eq_getElem (by omega)
      obtain ⟨g1, g2⟩ := RunOK_before h hcl n d (by omega) _ hod (hcl d _ hod (hd d h1)) j h2
      exact ⟨g1, by omega⟩

/-- What holds while the region runs, in whatever order. -/
def AInv (E : Env) (G0 : Gh) (w0 : World) (a0 : Act) (ops : Array Oper) (s0 : St) (Ts : Nat → TE) (Ms : Nat → St) (L : Nat → Prop) (a : Act) (w : World) : Prop :=
  ∃ i0 G, i0 ≤ ops.toList.length ∧ (∀ (k : Nat) o, ops.toList[k]? = some o → isMemOp o.op = true → (k < i0 ↔ L k)) ∧ SimM E G w (Ms i0) ∧ Fr E G0 w0 (Ms 0) G w (Ms i0) ∧
    (∀ j d ids v, (j, d, ids, v) ∈ Ts ops.toList.length → L j → (IdsHold a ids ∧ RepP E G w v (a.tmps.getD d undef)) ∨ (¬ IdsHold a ids ∧ a.tmps.getD d undef = undef)) ∧
    (∀ d, (∀ (j : Nat) o, ops.toList[j]? = some o → L j → o.dst ≠ some d) → a.tmps.getD d undef = a0.tmps.getD d undef) ∧ a.tmps.size = s0.n ∧ a.defers = []

end
end Go.PM
