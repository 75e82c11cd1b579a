/- The pure machine, part 30: what holds of what a plain form gives: one rule for each of its parts. -/
import Derived.Test.YtcjmpignjljfbaaPM29
namespace Go.PM
set_option linter.unusedVariables false
set_option linter.unusedSimpArgs false

/-- It gives something, of which Q holds. -/
def oS {ρ : Type} (Q : ρ → Prop) (o : Option ρ) : Prop := ∃ y, o = some y ∧ Q y
/-- A round's end: Q of what the surroundings get, J of the next state. -/
def rS {C σ : Type} (Q : C → Prop) (J : σ → Prop) : Res C σ → Prop
  | .ret c => Q c
  | .go s => J s

section
variable {C σ τ α ρ : Type}

theorem oS.some {Q : ρ → Prop} {y : ρ} (h : Q y) : oS Q (Option.some y) := ⟨y, rfl, h⟩
theorem oS.eq {o : Option ρ} {y : ρ} (h : oS (fun z => z = y) o) : o = Option.some y := by obtain ⟨z, h1, rfl⟩ := h; exact h1
theorem oS.of {o : Option ρ} {y : ρ} (h : o = Option.some y) : oS (fun z => z = y) o := ⟨y, h, rfl⟩
theorem oS.mono {Q Q' : ρ → Prop} {o : Option ρ} (h : oS Q o) (hq : ∀ y, Q y → Q' y) : oS Q' o := by obtain ⟨y, h1, h2⟩ := h; exact ⟨y, h1, hq y h2⟩
theorem oS.chk {Q : ρ → Prop} {c : Prop} [Decidable c] {a b : Option ρ} (hc : c) (h : oS Q a) : oS Q (if c then a else b) := by rw [if_pos hc]; exact h
theorem oS.no {Q : ρ → Prop} {c : Prop} [Decidable c] {a b : Option ρ} (hc : ¬c) (h : oS Q b) : oS Q (if c then a else b) := by rw [if_neg hc]; exact h
theorem oS.ite {Q : ρ → Prop} {c : Prop} [Decidable c] {a b : Option ρ} (h : c → oS Q a) (h' : ¬c → oS Q b) : oS Q (if c then a else b) := by
  split
  · exact h ‹_›
  · exact h' ‹_›
theorem oS.lt {Q : ρ → Prop} {e : α} {f : α → Option ρ} (h : oS Q (f e)) : oS Q (PM.lt e f) := h
theorem oS.bindO {Q' : α → Prop} {Q : ρ → Prop} {o : Option α} {f : α → Option ρ} (h : oS Q' o) (h' : ∀ y, Q' y → oS Q (f y)) : oS Q (PM.bindO o f) := by obtain ⟨y, rfl, hy⟩ := h; exact h' y hy
theorem oS.bindE {Q : ρ → Prop} {r : Res (Option ρ) σ} {g : σ → Option ρ} (h : rS (oS Q) (fun s => oS Q (g s)) r) : oS Q (PM.bindE r g) := by cases r <;> exact h

theorem rS.ret {Q : C → Prop} {J : σ → Prop} {c : C} (h : Q c) : rS Q J (.ret c) := h
theorem rS.go {Q : C → Prop} {J : σ → Prop} {s : σ} (h : J s) : rS Q J (.go s) := h
theorem rS.mono {Q Q' : C → Prop} {J J' : σ → Prop} {r : Res C σ} (h : rS Q J r) (hq : ∀ c, Q c → Q' c) (hj : ∀ s, J s → J' s) : rS Q' J' r := by
  cases r with
  | ret c => exact hq c h
  | go s => exact hj s h
theorem rS.chk {Q : C → Prop} {J : σ → Prop} {c : Prop} [Decidable c] {a b : Res C σ} (hc : c) (h : rS Q J a) : rS Q J (if c then a else b) := by rw [if_pos hc]; exact h
theorem rS.no {Q : C → Prop} {J : σ → Prop} {c : Prop} [Decidable c] {a b : Res C σ} (hc : ¬c) (h : rS Q J b) : rS Q J (if c then a else b) := by rw [if_neg hc]; exact h
theorem rS.ite {Q : C → Prop} {J : σ → Prop} {c : Prop} [Decidable c] {a b : Res C σ} (h : c → rS Q J a) (h' : ¬c → rS Q J b) : rS Q J (if c then a else b) := by
  split
  · exact h ‹_›
  · exact h' ‹_›
theorem rS.lt {Q : C → Prop} {J : σ → Prop} {e : α} {f : α → Res C σ} (h : rS Q J (f e)) : rS Q J (PM.lt e f) := h
theorem rS.bindO [Bot C] {Q' : α → Prop} {Q : C → Prop} {J : σ → Prop} {o : Option α} {f : α → Res C σ} (h : oS Q' o) (h' : ∀ y, Q' y → rS Q J (f y)) : rS Q J (PM.bindO o f) := by obtain ⟨y, rfl, hy⟩ := h; exact h' y hy
theorem rS.bindE {Q : C → Prop} {J : σ → Prop} {r : Res (Res C σ) τ} {g : τ → Res C σ} (h : rS (rS Q J) (fun s => rS Q J (g s)) r) : rS Q J (PM.bindE r g) := by cases r <;> exact h

/-- A loop over a list: what holds ahead of each round. -/
theorem rS.foldE (I : Nat → σ → Prop) {Q : C → Prop} {J : σ → Prop} {step : α → σ → Res C σ} {l : List α} {s : σ} (h0 : I 0 s)
    (hs : ∀ i (h : i < l.length) s, I i s → rS Q (I (i + 1)) (step l[i] s)) (hj : ∀ s, I l.length s → J s) : rS Q J (PM.foldE step l s) := by
  have main : ∀ (k i : Nat) (s : σ), k + i = l.length → I i s → rS Q J (PM.foldE step (l.drop i) s) := by
    intro k
    induction k with
    | zero =>
      intro i s h hi
      have : i = l.length := by omega
      subst this
      rw [List.drop_length]; exact hj s hi
    | succ k ih =>
      intro i s h hi
      have hlt : i < l.length := by omega
      rw [List.drop_eq_getElem_cons hlt]
      simp only [PM.foldE]
      have := hs i hlt s hi
      cases hst : step l[i] s with
      | ret c => rw [hst] at this; exact this
      | go s' => rw [hst] at this; exact ih (i + 1) s' (by omega) this
  simpa using main l.length 0 s (by omega) h0

theorem rS.foldI (I : Nat → σ → Prop) {Q : C → Prop} {J : σ → Prop} {step : Nat → α → σ → Res C σ} {l : List α} {s : σ} (h0 : I 0 s)
    (hs : ∀ i (h : i < l.length) s, I i s → rS Q (I (i + 1)) (step i l[i] s)) (hj : ∀ s, I l.length s → J s) : rS Q J (PM.foldI step 0 l s) := by
  have main : ∀ (k i : Nat) (s : σ), k + i = l.length → I i s → rS Q J (PM.foldI step i (l.drop i) s) := by
    intro k
    induction k with
    | zero =>
      intro i s h hi
      have : i = l.length := by omega
      subst this
      rw [List.drop_length]; exact hj s hi
    | succ k ih =>
      intro i s h hi
      have hlt : i < l.length := by omega
      rw [List.drop_eq_getElem_cons hlt]
      simp only [PM.foldI]
      have := hs i hlt s hi
      cases hst : step i l[i] s with
      | ret c => rw [hst] at this; exact this
      | go s' => rw [hst] at this; exact ih (i + 1) s' (by omega) this
  simpa using main l.length 0 s (by omega) h0

/-- A loop of another kind: what holds ahead of each round, and a measure that falls. -/
theorem while_S [Bot C] (P : C → Prop) (I : σ → Prop) (m : σ → Nat) {step : σ → Res C σ} {s : σ} (h0 : I s) (hm : m s < 2 ^ 100)
    (hs : ∀ s, I s → rS P (fun s' => I s' ∧ m s' < m s) (step s)) : P (whileE step BIG s) := by
  have main : ∀ (N : Nat) (s : σ), I s → m s < N → P (whileE step N s) := by
    intro N
    induction N with
    | zero => intro s _ h; omega
    | succ N ih =>
      intro s hi hN
      simp only [whileE]
      have := hs s hi
      cases hst : step s with
      | ret c => rw [hst] at this; exact this
      | go s' => rw [hst] at this; exact ih s' this.1 (by have := this.2; omega)
  exact main BIG s h0 (by unfold BIG; omega)

theorem oS.while {Q : ρ → Prop} (I : σ → Prop) (m : σ → Nat) {step : σ → Res (Option ρ) σ} {s : σ} (h0 : I s) (hm : m s < 2 ^ 100)
    (hs : ∀ s, I s → rS (oS Q) (fun s' => I s' ∧ m s' < m s) (step s)) : oS Q (whileE step BIG s) := while_S (oS Q) I m h0 hm hs
theorem rS.while [Bot C] {Q : C → Prop} {J : τ → Prop} (I : σ → Prop) (m : σ → Nat) {step : σ → Res (Res C τ) σ} {s : σ} (h0 : I s) (hm : m s < 2 ^ 100)
    (hs : ∀ s, I s → rS (rS Q J) (fun s' => I s' ∧ m s' < m s) (step s)) : rS Q J (whileE step BIG s) := while_S (rS Q J) I m h0 hm hs

end

theorem take_snoc {α : Type} {l : List α} {i : Nat} (h : i < l.length) : l.take (i + 1) = l.take i ++ [l[i]] := by
  rw [List.take_add_one, List.getElem?_eq_getElem h]; rfl

theorem prev_ok {i n : Nat} (h : i < n) (hn : n < 2 ^ 62) (b : Bool) :
    (!(b && decide ((i : Int) > (0 : Int))) || (decide (0 ≤ (IntKind.wrap .i64 ((i : Int) - (1 : Int)))) && decide ((IntKind.wrap .i64 ((i : Int) - (1 : Int))) < (n : Int)))) = true := by
  rw [wrap_id (by omega) (by omega)]
  by_cases h0 : i = 0
  · subst h0; simp
  · have h1 : (0 : Int) ≤ (i : Int) - 1 := by omega
    have h2 : (i : Int) - 1 < (n : Int) := by omega
    simp only [h1, h2, decide_true, Bool.and_self, Bool.or_true]

theorem prev_ok' {i n : Nat} (h : i < n) (hn : n < 2 ^ 62) :
    (!(decide ((i : Int) > (0 : Int))) || (decide (0 ≤ (IntKind.wrap .i64 ((i : Int) - (1 : Int)))) && decide ((IntKind.wrap .i64 ((i : Int) - (1 : Int))) < (n : Int)))) = true := by
  have := prev_ok h hn true
  rwa [Bool.true_and] at this

theorem prev_at {r : Row} {l : List (DenR r)} {i : Nat} (h : i < l.length) (hn : l.length < 2 ^ 62) (h0 : 0 < i) : rd r l (IntKind.wrap .i64 ((i : Int) - (1 : Int))) = l[i - 1] := by
  rw [wrap_id (by omega) (by omega), show (i : Int) - 1 = ((i - 1 : Nat) : Int) by omega, rd_nat (by omega)]

end Go.PM
