/- The pure machine, part 29: laws of plain forms: folds, loops, checks, the order of strings. -/
import Derived.Test.YtcjmpignjljfbaaPM27
namespace Go.PM
set_option linter.unusedVariables false
set_option linter.unusedSimpArgs false

theorem bot_opt {ρ : Type} : (bot : Option ρ) = none := rfl
theorem bot_res {C σ : Type} [Bot C] : (bot : Res C σ) = .ret bot := rfl
theorem ok_iff {α : Type} {o : Option α} : ok o = true ↔ ∃ v, o = some v := by cases o <;> simp [ok]

section
variable {C σ α : Type}

theorem bindO_some {β : Type} [Bot C] {y : β} {g : β → C} : bindO (some y) g = g y := rfl
theorem bindO_none {β : Type} [Bot C] {g : β → C} : bindO none g = bot := rfl
theorem bindE_ret {c : C} {g : σ → C} : bindE (.ret c) g = c := rfl
theorem bindE_go {s : σ} {g : σ → C} : bindE (.go s) g = g s := rfl
theorem bindE_ite {p : Prop} [Decidable p] {a b : Res C σ} {g : σ → C} : bindE (if p then a else b) g = if p then bindE a g else bindE b g := by split <;> rfl

theorem foldE_nil {step : α → σ → Res C σ} (s : σ) : foldE step [] s = .go s := rfl
theorem foldE_cons {step : α → σ → Res C σ} (a : α) (l : List α) (s : σ) : foldE step (a :: l) s = match step a s with
    | .ret c => .ret c
    | .go s' => foldE step l s' := rfl

theorem foldE_congr {step step' : α → σ → Res C σ} : ∀ {l : List α} {s : σ}, (∀ a ∈ l, ∀ s, step a s = step' a s) → foldE step l s = foldE step' l s
  | [], s, _ => rfl
  | a :: l, s, h => by
    simp only [foldE, h a List.mem_cons_self]
    cases step' a s with
    | ret c => rfl
    | go s' => exact foldE_congr fun b hb => h b (List.mem_cons_of_mem _ hb)

/-- A loop that only asks. -/
theorem foldE_any (p : α → Bool) (c : C) : ∀ (l : List α) (s : σ), foldE (fun a s => if p a then .ret c else .go s) l s = if l.any p then .ret c else .go s
  | [], s => by simp [foldE]
  | a :: l, s => by
    simp only [foldE, List.any_cons]
    by_cases h : p a = true
    · simp [h]
    · simp [h, foldE_any p c l s]

/-- A loop that ends at the first element that passes. -/
theorem foldE_find (p : α → Bool) (f : α → C) : ∀ (l : List α) (s : σ), foldE (fun a s => if p a then .ret (f a) else .go s) l s = match l.find? p with
    | some a => .ret (f a)
    | none => .go s
  | [], s => by simp [foldE]
  | a :: l, s => by
    simp only [foldE, List.find?_cons]
    by_cases h : p a = true
    · simp [h]
    · simp [h, foldE_find p f l s]

theorem foldE_go (f : σ → α → σ) : ∀ (l : List α) (s : σ), foldE (fun a s => (.go (f s a) : Res C σ)) l s = .go (l.foldl f s)
  | [], s => rfl
  | a :: l, s => by simp only [foldE, List.foldl_cons]; exact foldE_go f l (f s a)

/-- An invariant of a loop's rounds: each of them goes on. -/
theorem foldE_inv {step : α → σ → Res C σ} (J : List α → σ → Prop) (f : σ → α → σ) : ∀ (l : List α) (s : σ), J l s → (∀ a l s, J (a :: l) s → step a s = .go (f s a) ∧ J l (f s a)) → foldE step l s = .go (l.foldl f s) ∧ J [] (l.foldl f s)
  | [], s, h, _ => ⟨rfl, h⟩
  | a :: l, s, h, hs => by
    obtain ⟨h1, h2⟩ := hs a l s h
    simp only [foldE, h1, List.foldl_cons]
    exact foldE_inv J f l (f s a) h2 hs

theorem foldE_ask (p : α → Bool) (c : C) {step : α → σ → Res C σ} {l : List α} {s : σ} (h : ∀ a ∈ l, ∀ s, step a s = if p a then .ret c else .go s) : foldE step l s = if l.any p then .ret c else .go s :=
  (foldE_congr h).trans (foldE_any p c l s)

theorem foldE_pure (f : σ → α → σ) {step : α → σ → Res C σ} {l : List α} {s : σ} (h : ∀ a ∈ l, ∀ s, step a s = .go (f s a)) : foldE step l s = .go (l.foldl f s) :=
  (foldE_congr h).trans (foldE_go f l s)

theorem foldE_congr_inv (J : σ → Prop) {step step' : α → σ → Res C σ} : ∀ {l : List α} {s : σ}, J s → (∀ a ∈ l, ∀ s, J s → step a s = step' a s ∧ ∀ s', step' a s = .go s' → J s') → foldE step l s = foldE step' l s
  | [], s, _, _ => rfl
  | a :: l, s, hs, h => by
    obtain ⟨h1, h2⟩ := h a List.mem_cons_self s hs
    simp only [foldE, h1]
    cases hst : step' a s with
    | ret c => rfl
    | go s' => exact foldE_congr_inv J (h2 s' hst) fun b hb => h b (List.mem_cons_of_mem _ hb)

theorem foldI_ask (q : Nat → α → Bool) (c : C) {step : Nat → α → σ → Res C σ} : ∀ {l : List α} {i : Nat} {s : σ}, (∀ j a, l[j]? = some a → ∀ s, step (i + j) a s = if q (i + j) a then .ret c else .go s) →
    foldI step i l s = .ret c ∨ (foldI step i l s = .go s ∧ ∀ j a, l[j]? = some a → q (i + j) a = false)
  | [], i, s, _ => .inr ⟨rfl, fun j a h => by simp at h⟩
  | a :: l, i, s, h => by
    have h0 := h 0 a rfl s
    simp only [Nat.add_zero] at h0
    simp only [foldI, h0]
    by_cases hq : q i a = true
    · left; simp [hq]
    · have ih := foldI_ask q c (step := step) (l := l) (i := i + 1) (s := s) fun j b hb s => by
        have := h (j + 1) b (by simpa using hb) s
        rwa [Nat.add_comm j 1, ← Nat.add_assoc] at this
      simp only [hq, Bool.false_eq_true, if_false]
      rcases ih with ih | ⟨ih, ih2⟩
      · exact .inl ih
      · refine .inr ⟨ih, fun j b hb => ?_⟩
        cases j with
        | zero => simp at hb; subst hb; simpa using hq
        | succ j => have := ih2 j b (by simpa using hb); rwa [Nat.add_assoc, Nat.add_comm 1 j] at this

theorem foldl_min_le {t : Int} (p : α → Bool) (X : α → Int) : ∀ (l : List α) (s : Int), (t ≤ l.foldl (fun s a => if p a then (if X a < s then X a else s) else s) s) ↔ (t ≤ s ∧ ∀ a ∈ l, p a = true → t ≤ X a)
  | [], s => by simp
  | a :: l, s => by
    rw [List.foldl_cons, foldl_min_le p X l]
    by_cases h : p a = true
    · simp only [h, if_true, List.mem_cons, forall_eq_or_imp, forall_const]
      constructor
      · rintro ⟨h1, h2⟩; refine ⟨?_, ?_, h2⟩ <;> (split at h1 <;> omega)
      · rintro ⟨h1, h2, h3⟩; refine ⟨?_, h3⟩; split <;> omega
    · simp [h]

theorem foldl_last {β : Type} (q : α → Bool) (g : α → β) : ∀ (l : List α) (s : β), l.foldl (fun s a => if q a then g a else s) s = match l.reverse.find? q with
    | some a => g a
    | none => s
  | [], s => rfl
  | a :: l, s => by
    rw [List.foldl_cons, foldl_last q g l, List.reverse_cons, List.find?_append]
    cases h : l.reverse.find? q with
    | some b => simp
    | none => by_cases hq : q a = true <;> simp [hq]

theorem foldI_cons {step : Nat → α → σ → Res C σ} (i : Nat) (a : α) (l : List α) (s : σ) : foldI step i (a :: l) s = match step i a s with
    | .ret c => .ret c
    | .go s' => foldI step (i + 1) l s' := rfl

theorem foldI_congr {step step' : Nat → α → σ → Res C σ} : ∀ {l : List α} {i : Nat} {s : σ}, (∀ j a, l[j]? = some a → ∀ s, step (i + j) a s = step' (i + j) a s) → foldI step i l s = foldI step' i l s
  | [], i, s, _ => rfl
  | a :: l, i, s, h => by
    have h0 := h 0 a rfl s
    simp only [Nat.add_zero] at h0
    simp only [foldI, h0]
    cases step' i a s with
    | ret c => rfl
    | go s' => exact foldI_congr fun j b hb s => by have := h (j + 1) b (by simpa using hb) s; rwa [Nat.add_comm j 1, ← Nat.add_assoc] at this

end

/-- Elements that pass stand side by side. -/
theorem filter_range {α : Type} {p : α → Bool} : ∀ {l : List α} {m n : Nat}, m ≤ n → n ≤ l.length → (∀ k (h : k < l.length), p l[k] = true ↔ m ≤ k ∧ k < n) → l.filter p = (l.take n).drop m
  | [], m, n, _, _, _ => by simp
  | a :: l, m, n, hmn, hn, h => by
    have h0 := h 0 (by simp)
    have ht : ∀ k (hk : k < l.length), p l[k] = true ↔ m ≤ k + 1 ∧ k + 1 < n := fun k hk => h (k + 1) (by simp; omega)
    simp only [List.length_cons] at hn
    cases n with
    | zero =>
      have hm : m = 0 := by omega
      subst hm
      have hp : ¬ p a = true := fun hp => by have := h0.1 hp; omega
      simp only [List.filter_cons, hp, Bool.false_eq_true, if_false, List.take_zero, List.drop_nil]
      rw [List.filter_eq_nil_iff]
      intro b hb hpb
      obtain ⟨k, hk, rfl⟩ := List.getElem_of_mem hb
      have := (ht k hk).1 hpb; omega
    | succ n =>
      cases m with
      | zero =>
        have hp : p a = true := h0.2 (by omega)
        simp only [List.filter_cons, hp, if_true, List.take_succ_cons, List.drop_zero]
        have := filter_range (l := l) (m := 0) (n := n) (by omega) (by omega) fun k hk => by rw [ht k hk]; omega
        rw [this, List.drop_zero]
      | succ m =>
        have hp : ¬ p a = true := fun hp => by have := h0.1 hp; omega
        simp only [List.filter_cons, hp, Bool.false_eq_true, if_false, List.take_succ_cons, List.drop_succ_cons]
        exact filter_range (by omega) (by omega) fun k hk => by rw [ht k hk]; omega

theorem mid_ok {i j : Nat} (h : i + j < 2 ^ 63) : IntKind.wrap .i64 ((IntKind.wrap .u64 (IntKind.wrap .i64 ((i : Int) + (j : Int)))).fdiv (2 ^ (min (1 : Int).toNat (IntKind.bits .u64)))) = (((i + j) / 2 : Nat) : Int) := by
  have h1 : IntKind.wrap .i64 ((i : Int) + (j : Int)) = (i : Int) + j := wrap_id (by omega) (by omega)
  rw [h1, Go.IntWalk.u64_in _ (by omega)]
  have h2 : (2 : Int) ^ (min (1 : Int).toNat (IntKind.bits .u64)) = 2 := by decide
  rw [h2, Int.fdiv_eq_ediv_of_nonneg _ (by omega), wrap_id (by omega) (by omega)]
  omega

theorem small_of {α : Type} {l : List α} (h : l.length < 2 ^ 62) : small l = true := by simpa [small] using h

theorem rd_nat {r : Row} {l : List (DenR r)} {i : Nat} (h : i < l.length) : rd r l (i : Int) = l[i] := rd_ok h
theorem rd_at {r : Row} {l : List (DenR r)} {i : Int} (h0 : 0 ≤ i) (h : i.toNat < l.length) : rd r l i = l[i.toNat] := by simp [rd, List.getD, h]

/-! ### The order of strings -/
open Op (bytesLess)

theorem bl_irrefl : ∀ a : List UInt8, bytesLess a a = false
  | [] => rfl
  | a :: l => by simp [bytesLess, bl_irrefl l]

theorem bl_trans : ∀ {a b c : List UInt8}, bytesLess a b = true → bytesLess b c = true → bytesLess a c = true
  | _, [], _, h, _ => by simp [bytesLess] at h
  | _, _ :: _, [], _, h => by simp [bytesLess] at h
  | [], _ :: _, _ :: _, _, _ => rfl
  | a :: l, b :: m, c :: n, h1, h2 => by
    simp only [bytesLess, Bool.or_eq_true, Bool.and_eq_true, decide_eq_true_eq, beq_iff_eq] at h1 h2 ⊢
    rcases h1 with h1 | ⟨rfl, h1⟩
    · rcases h2 with h2 | ⟨rfl, h2⟩
      · exact .inl (UInt8.lt_trans h1 h2)
      · exact .inl h1
    · rcases h2 with h2 | ⟨rfl, h2⟩
      · exact .inl h2
      · exact .inr ⟨rfl, bl_trans h1 h2⟩

theorem bl_total : ∀ {a b : List UInt8}, bytesLess a b = false → bytesLess b a = false → a = b
  | [], [], _, _ => rfl
  | [], _ :: _, h, _ => by simp [bytesLess] at h
  | _ :: _, [], _, h => by simp [bytesLess] at h
  | a :: l, b :: m, h1, h2 => by
    simp only [bytesLess, Bool.or_eq_false_iff, Bool.and_eq_false_imp, decide_eq_false_iff_not, beq_iff_eq] at h1 h2
    have : a = b := UInt8.le_antisymm (UInt8.not_lt.1 h2.1) (UInt8.not_lt.1 h1.1)
    subst this
    rw [bl_total (h1.2 rfl) (h2.2 rfl)]

theorem bl_asymm {a b : List UInt8} (h : bytesLess a b = true) : bytesLess b a = false := by
  cases h' : bytesLess b a with
  | false => rfl
  | true => have := bl_trans h h'; rw [bl_irrefl] at this; cases this

theorem bl_le_trans {a b c : List UInt8} (h1 : bytesLess b a = false) (h2 : bytesLess c b = false) : bytesLess c a = false := by
  cases h : bytesLess c a with
  | false => rfl
  | true =>
    cases h3 : bytesLess a b with
    | true => rw [bl_trans h h3] at h2; cases h2
    | false => have := bl_total h3 h1; subst this; rw [h] at h2; cases h2

theorem bl_lt_of_lt_le {a b c : List UInt8} (h1 : bytesLess a b = true) (h2 : bytesLess c b = false) : bytesLess a c = true := by
  cases h : bytesLess a c with
  | true => rfl
  | false =>
    cases h3 : bytesLess c a with
    | true => rw [bl_trans h3 h1] at h2; cases h2
    | false => have := bl_total h h3; subst this; rw [h1] at h2; cases h2

theorem bl_lt_of_le_lt {a b c : List UInt8} (h1 : bytesLess b a = false) (h2 : bytesLess b c = true) : bytesLess a c = true := by
  cases h : bytesLess a b with
  | true => exact bl_trans h h2
  | false => have := bl_total h h1; subst this; exact h2

theorem bytes_ext {a b : ByteArray} (h : a.toList = b.toList) : a = b := by
  rw [ByteArray.toList_eq, ByteArray.toList_eq] at h
  cases a; cases b
  simp only [Array.toList_inj] at h
  rw [h]

theorem wf_i64 {n : Int} (h : (Lit.int .i64 n).wf = true) : -9223372036854775808 ≤ n ∧ n ≤ 9223372036854775807 := by
  simp [Lit.wf, IntKind.min, IntKind.max, IntKind.signed, IntKind.bits] at h
  omega

end Go.PM
