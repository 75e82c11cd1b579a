/- The pure machine, part 27: texts in a plainer form: what they give, the loaded function gives. -/
import Derived.Test.YtcjmpignjljfbaaPM26
namespace Go.PM
set_option linter.unusedVariables false
set_option linter.unusedSimpArgs false

def BIG : Nat := 2 ^ 200

def ok {α : Type} : Option α → Bool
  | some _ => true
  | none => false

def vl {α : Type} [Inhabited α] : Option α → α
  | some v => v
  | none => default

@[simp] theorem ok_some {α : Type} (v : α) : ok (some v) = true := rfl
@[simp] theorem ok_none {α : Type} : ok (none : Option α) = false := rfl
@[simp] theorem vl_some {α : Type} [Inhabited α] (v : α) : vl (some v) = v := rfl

def lt {α β : Type} (e : α) (f : α → β) : β := f e

instance : Inhabited Ex := ⟨zeroEx⟩

/-- A round's end: what the loop's surroundings get, or the next round's state. -/
inductive Res (C σ : Type) where
  | ret (c : C)
  | go (s : σ)

class Bot (C : Type) where
  it : C
def bot {C : Type} [Bot C] : C := Bot.it
instance {ρ : Type} : Bot (Option ρ) := ⟨none⟩
instance {C σ : Type} [Bot C] : Bot (Res C σ) := ⟨.ret bot⟩

def bindE {C σ : Type} : Res C σ → (σ → C) → C
  | .ret c, _ => c
  | .go s, g => g s

def bindO {α C : Type} [Bot C] : Option α → (α → C) → C
  | some y, g => g y
  | none, _ => bot

def foldE {C σ α : Type} (step : α → σ → Res C σ) : List α → σ → Res C σ
  | [], s => .go s
  | a :: l, s => match step a s with
    | .ret c => .ret c
    | .go s' => foldE step l s'

def foldI {C σ α : Type} (step : Nat → α → σ → Res C σ) : Nat → List α → σ → Res C σ
  | _, [], s => .go s
  | i, a :: l, s => match step i a s with
    | .ret c => .ret c
    | .go s' => foldI step (i + 1) l s'

def irange (lo hi : Int) : List Int := (List.range (hi - lo).toNat).map fun (i : Nat) => lo + (i : Int)

def whileE {C σ : Type} [Bot C] (step : σ → Res C σ) : Nat → σ → C
  | 0, _ => bot
  | n + 1, s => match step s with
    | .ret c => c
    | .go s' => whileE step n s'

def small {α : Type} (l : List α) : Bool := decide (l.length < 2 ^ 62)
def smallI (lo hi : Int) : Bool := decide (-(2 ^ 62) ≤ lo) && decide (hi < 2 ^ 62)

def inI {C σ ρ : Type} (I : C → Option ρ) (K : σ → Option ρ) : Res C σ → Option ρ
  | .ret c => I c
  | .go s => K s

/-- What the plain form gives, the text gives. -/
def RefI {C ρ : Type} (I : C → Option ρ) (a : C) (b : Option ρ) : Prop := ∀ y, I a = some y → b = some y

section
variable {C σ ρ τ α : Type} {I : C → Option ρ}

theorem RefI.some {y : ρ} : RefI id (Option.some y) (Option.some y) := fun _ h => h
theorem RefI.ret {K : σ → Option ρ} {c : C} {b : Option ρ} (h : RefI I c b) : RefI (inI I K) (.ret c) b := h
theorem RefI.go {K : σ → Option ρ} {s : σ} {b : Option ρ} (h : b = K s) : RefI (inI I K) (.go s) b := fun y hy => h ▸ hy
theorem RefI.next {R : τ → Option ρ} {mk : Int → σ → τ} {j j' : Int} {s : σ} (h : j = j') : RefI (inI I fun s' => R (mk j' s')) (.go s) (R (mk j s)) := fun y hy => by subst h; exact hy
theorem RefI.ite {c : Bool} {a a' : C} {b b' : Option ρ} (h : RefI I a b) (h' : RefI I a' b') : RefI I (if c then a else a') (bif c then b else b') := by
  cases c
  · simpa using h'
  · simpa using h
theorem RefI.chk [Bot C] (hb : I bot = none) {c : Bool} {a : C} {b : Option ρ} (h : RefI I a b) : RefI I (if c then a else bot) (bif c then b else none) :=
  RefI.ite h fun y hy => by rw [hb] at hy; cases hy
theorem RefI.nothing [Bot C] (hb : I bot = Option.none) {b : Option ρ} : RefI I bot b := fun y hy => by rw [hb] at hy; cases hy
theorem RefI.tt {c : Bool} {a : C} {b b' : Option ρ} (hc : c = true) (h : RefI I a b) : RefI I a (bif c then b else b') := by subst hc; exact h
theorem RefI.ff {c : Bool} {a : C} {b b' : Option ρ} (hc : c = false) (h : RefI I a b') : RefI I a (bif c then b else b') := by subst hc; exact h
theorem RefI.lt {e : α} {f : α → C} {g : α → Option ρ} (h : ∀ n, RefI I (f n) (g n)) : RefI I (PM.lt e f) (PM.lt e g) := h e
theorem RefI.ltd {e e' : α} {a : C} {g : α → Option ρ} (he : e = e') (h : RefI I a (g e')) : RefI I a (PM.lt e g) := by subst he; exact h

theorem RefI.bindO [Bot C] [Inhabited α] (hb : I bot = none) {o : Option α} {f : α → C} {g : α → Option ρ} (h : ∀ y, RefI I (f y) (g y)) : RefI I (PM.bindO o f) (bif ok o then PM.lt (vl o) g else none) := by
  cases o with
  | none => exact RefI.nothing hb
  | some y => exact h y

theorem wrap_id {n : Int} (h1 : -9223372036854775808 ≤ n) (h2 : n ≤ 9223372036854775807) : IntKind.wrap .i64 n = n := Go.IntWalk.i64_in n ⟨h1, h2⟩

theorem idx_ok {i n : Nat} (h : i < n) : (decide ((0 : Int) ≤ (i : Int)) && decide ((i : Int) < (n : Int))) = true := by
  simp; omega
theorem lt_ok {i n : Nat} (h : i < n) : decide ((i : Int) < (n : Int)) = true := by simp; omega
theorem lt_no {n : Nat} : decide ((n : Int) < (n : Int)) = false := by simp
theorem or_ok {a b : Bool} (h : b = true) : (a || b) = true := by rw [h]; simp
theorem next_ok {i n : Nat} (h : i < n) (hs : n < 2 ^ 62) : IntKind.wrap .i64 ((i : Int) + (1 : Int)) = ((i + 1 : Nat) : Int) := by
  rw [wrap_id] <;> omega
theorem rd_ok {r : Row} {l : List (DenR r)} {i : Nat} (h : i < l.length) : rd r l (i : Int) = l[i] := by
  simp [rd, List.getD, h]

theorem RefI.for [Bot C] (hb : I bot = none) {L : List α} (mk : Int → σ → τ) {B : (τ → Option ρ) → τ → Option ρ} {step : α → σ → Res C σ} {g : σ → C} {s0 : σ}
    (hstep : L.length < 2 ^ 62 → ∀ (R : τ → Option ρ) (i : Nat) (hi : i < L.length) s, RefI (inI I fun s' => R (mk ((i + 1 : Nat) : Int) s')) (step L[i] s) (B R (mk (i : Int) s)))
    (hlast : ∀ (R : τ → Option ρ) s, RefI I (g s) (B R (mk (L.length : Int) s))) :
    RefI I (if small L then bindE (foldE step L s0) g else bot) (loopT BIG B (mk 0 s0)) := by
  intro y hy
  by_cases hsm : small L = true
  case neg => rw [if_neg hsm, hb] at hy; cases hy
  rw [if_pos hsm] at hy
  have hs : L.length < 2 ^ 62 := by simpa [small] using hsm
  have main : ∀ (k i N : Nat) (s : σ), k + i = L.length → k < N → I (bindE (foldE step (L.drop i) s) g) = Option.some y → loopT N B (mk (i : Int) s) = Option.some y := by
    intro k
    induction k with
    | zero =>
      intro i N s h hN hy
      obtain ⟨N, rfl⟩ : ∃ m, N = m + 1 := ⟨N - 1, by omega⟩
      have hi : i = L.length := by omega
      subst hi
      rw [List.drop_length] at hy
      exact hlast _ s y hy
    | succ k ih =>
      intro i N s h hN hy
      obtain ⟨N, rfl⟩ : ∃ m, N = m + 1 := ⟨N - 1, by omega⟩
      have hi : i < L.length := by omega
      rw [List.drop_eq_getElem_cons hi] at hy
      simp only [foldE] at hy
      refine hstep hs (loopT N B) i hi s y ?_
      cases hst : step L[i] s with
      | ret c => rw [hst] at hy; exact hy
      | go s' => rw [hst] at hy; exact ih (i + 1) N s' (by omega) (by omega) hy
  exact main L.length 0 BIG s0 (by omega) (by unfold BIG; omega) hy

theorem RefI.forI [Bot C] (hb : I bot = none) {L : List α} (mk : Int → σ → τ) {B : (τ → Option ρ) → τ → Option ρ} {step : Nat → α → σ → Res C σ} {g : σ → C} {s0 : σ}
    (hstep : L.length < 2 ^ 62 → ∀ (R : τ → Option ρ) (i : Nat) (hi : i < L.length) s, RefI (inI I fun s' => R (mk ((i + 1 : Nat) : Int) s')) (step i L[i] s) (B R (mk (i : Int) s)))
    (hlast : ∀ (R : τ → Option ρ) s, RefI I (g s) (B R (mk (L.length : Int) s))) :
    RefI I (if small L then bindE (foldI step 0 L s0) g else bot) (loopT BIG B (mk 0 s0)) := by
  intro y hy
  by_cases hsm : small L = true
  case neg => rw [if_neg hsm, hb] at hy; cases hy
  rw [if_pos hsm] at hy
  have hs : L.length < 2 ^ 62 := by simpa [small] using hsm
  have main : ∀ (k i N : Nat) (s : σ), k + i = L.length → k < N → I (bindE (foldI step i (L.drop i) s) g) = Option.some y → loopT N B (mk (i : Int) s) = Option.some y := by
    intro k
    induction k with
    | zero =>
      intro i N s h hN hy
      obtain ⟨N, rfl⟩ : ∃ m, N = m + 1 := ⟨N - 1, by omega⟩
      have hi : i = L.length := by omega
      subst hi
      rw [List.drop_length] at hy
      exact hlast _ s y hy
    | succ k ih =>
      intro i N s h hN hy
      obtain ⟨N, rfl⟩ : ∃ m, N = m + 1 := ⟨N - 1, by omega⟩
      have hi : i < L.length := by omega
      rw [List.drop_eq_getElem_cons hi] at hy
      simp only [foldI] at hy
      refine hstep hs (loopT N B) i hi s y ?_
      cases hst : step i L[i] s with
      | ret c => rw [hst] at hy; exact hy
      | go s' => rw [hst] at hy; exact ih (i + 1) N s' (by omega) (by omega) hy
  exact main L.length 0 BIG s0 (by omega) (by unfold BIG; omega) hy

theorem ltI_ok {i n : Int} (h : i < n) : decide (i < n) = true := by simpa using h
theorem ltI_no {lo hi : Int} : decide (max lo hi < hi) = false := by simp; omega
theorem nextI_ok {i lo hi : Int} (h : lo ≤ i) (h' : i < hi) (hs : -(2 ^ 62) ≤ lo ∧ hi < 2 ^ 62) : IntKind.wrap .i64 (i + (1 : Int)) = i + 1 := by
  rw [wrap_id] <;> omega

theorem RefI.range [Bot C] (hb : I bot = none) {lo hi : Int} (mk : Int → σ → τ) {B : (τ → Option ρ) → τ → Option ρ} {step : Int → σ → Res C σ} {g : σ → C} {s0 : σ}
    (hstep : -(2 ^ 62) ≤ lo ∧ hi < 2 ^ 62 → ∀ (R : τ → Option ρ) (i : Int) (h1 : lo ≤ i) (h2 : i < hi) s, RefI (inI I fun s' => R (mk (i + 1) s')) (step i s) (B R (mk i s)))
    (hlast : ∀ (R : τ → Option ρ) s, RefI I (g s) (B R (mk (max lo hi) s))) :
    RefI I (if smallI lo hi then bindE (foldE step (irange lo hi) s0) g else bot) (loopT BIG B (mk lo s0)) := by
  intro y hy
  by_cases hsm : smallI lo hi = true
  case neg => rw [if_neg hsm, hb] at hy; cases hy
  rw [if_pos hsm] at hy
  have hs : -(2 ^ 62) ≤ lo ∧ hi < 2 ^ 62 := by simpa [smallI] using hsm
  have main : ∀ (k : Nat) (i : Int) (N : Nat) (s : σ), (k : Int) + i = max lo hi → lo ≤ i → k < N → I (bindE (foldE step ((List.range k).map fun (j : Nat) => i + (j : Int)) s) g) = Option.some y → loopT N B (mk i s) = Option.some y := by
    intro k
    induction k with
    | zero =>
      intro i N s h h1 hN hy
      obtain ⟨N, rfl⟩ : ∃ m, N = m + 1 := ⟨N - 1, by omega⟩
      have hi' : i = max lo hi := by omega
      subst hi'
      exact hlast _ s y hy
    | succ k ih =>
      intro i N s h h1 hN hy
      obtain ⟨N, rfl⟩ : ∃ m, N = m + 1 := ⟨N - 1, by omega⟩
      have hi' : i < hi := by omega
      rw [List.range_succ_eq_map, List.map_cons, List.map_map] at hy
      have he : ((fun (j : Nat) => i + (j : Int)) ∘ Nat.succ) = fun (j : Nat) => i + 1 + (j : Int) := by
        funext j; simp; omega
      rw [he] at hy
      simp only [foldE] at hy
      have hz : i + ((0 : Nat) : Int) = i := by omega
      rw [hz] at hy
      refine hstep hs (loopT N B) i h1 hi' s y ?_
      cases hst : step i s with
      | ret c => rw [hst] at hy; exact hy
      | go s' => rw [hst] at hy; exact ih (i + 1) N s' (by omega) (by omega) (by omega) hy
  refine main (hi - lo).toNat lo BIG s0 (by omega) (by omega) ?_ hy
  have : (hi - lo).toNat < 2 ^ 63 := by omega
  unfold BIG; omega

theorem RefI.while [Bot C] (hb : I bot = none) (mk : σ → τ) {B : (τ → Option ρ) → τ → Option ρ} {step : σ → Res C σ} {s0 : σ}
    (hstep : ∀ (R : τ → Option ρ) s, RefI (inI I fun s' => R (mk s')) (step s) (B R (mk s))) : RefI I (whileE step BIG s0) (loopT BIG B (mk s0)) := by
  intro y
  generalize BIG = N
  induction N generalizing s0 with
  | zero => intro hy; simp only [whileE] at hy; rw [hb] at hy; cases hy
  | succ N ih =>
    intro hy
    simp only [whileE] at hy
    refine hstep (loopT N B) s0 y ?_
    cases hst : step s0 with
    | ret c => rw [hst] at hy; exact hy
    | go s' => rw [hst] at hy; exact ih hy

/-! Texts that give something in any case. -/
theorem tot_ite {c : Bool} {a a' : ρ} {b b' : Option ρ} (h : b = some a) (h' : b' = some a') : (bif c then b else b') = some (if c then a else a') := by
  cases c
  · simpa using h'
  · simpa using h
theorem tot_tt {c : Bool} {a : ρ} {b b' : Option ρ} (hc : c = true) (h : b = some a) : (bif c then b else b') = some a := by subst hc; exact h
theorem tot_lt {e : α} {f : α → ρ} {g : α → Option ρ} (h : ∀ n, g n = some (f n)) : lt e g = some (lt e f) := h e

end

/-! Tables as lists. -/
def lookT : List (Nat × TI) → Nat → Option TI
  | [], _ => none
  | (f, g) :: l, k => bif Nat.beq f k then some g else lookT l k

theorem tabOk_of {P : Program} : ∀ {l : List (Nat × TI)}, l.all (fun p => tiB P p.1 p.2) = true → TabOk P (lookT l)
  | [], _, t, ti, h => by cases h
  | (f, g) :: l, hl, t, ti, h => by
    simp only [List.all_cons, Bool.and_eq_true] at hl
    simp only [lookT] at h
    cases hb : Nat.beq f t with
    | true => rw [hb] at h; cases h; rw [← Nat.eq_of_beq_eq_true hb]; exact hl.1
    | false => rw [hb] at h; exact tabOk_of hl.2 t ti h

def lookF : List (Nat × Body) → FuncId → Option Body
  | [], _ => none
  | (f, g) :: l, k => bif Nat.beq f k then some g else lookF l k

theorem fdsOK_nil {P : Program} : FdsOK P (lookF []) := fun f fd h => by cases h
theorem fdsOK_cons {P : Program} {l : List (Nat × Body)} {f : Nat} {fd : Body} {fn : Func} (h : FnOK P f fd fn) (hl : FdsOK P (lookF l)) : FdsOK P (lookF ((f, fd) :: l)) := by
  intro k fd' hk
  simp only [lookF] at hk
  cases hb : Nat.beq f k with
  | true => rw [hb] at hk; cases hk; rw [← Nat.eq_of_beq_eq_true hb]; exact ⟨fn, h⟩
  | false => rw [hb] at hk; exact hl k fd' hk

section
variable {P : Program}

def spO (ss : List Sh) (ra : Row) (sh : Sh) (rb : Row) [Inhabited (DenR rb)] (o : DenR ra → Option (DenR rb)) : Spec := mkSpec ss ra sh rb (fun x => ok (o x)) (fun x => vl (o x))
def spF (ss : List Sh) (ra : Row) (sh : Sh) (rb : Row) (F : DenR ra → DenR rb) : Spec := mkSpec ss ra sh rb (fun _ => true) F

theorem specOK_o {f : FuncId} {fd : Body} {fn : Func} (hmx : P.follows .mixedOrders = true) (hf : FnOK P f fd fn) {ss : List Sh} {ra : Row} {sh : Sh} {rb : Row} [Inhabited (DenR rb)] {o : DenR ra → Option (DenR rb)} {cx : Ctx} {fds : FuncId → Option Body} {d : Nat}
    (htab : TabOk P cx.ti) (hsp : SpecsOK P cx) (hfd : FdsOK P fds) (hrun : ∀ x y, o x = some y → runT cx (calls cx fds d) fd ss sh (expl ra x) = some y) : SpecOK P f (spO ss ra sh rb o) := by
  refine specOK_typed hmx hf fun x hx => ⟨cx, calls cx fds d, htab, hsp, calls_sound htab hsp hmx hfd d, ?_⟩
  cases ho : o x with
  | none => rw [ho] at hx; cases hx
  | some y => exact hrun x y ho

theorem specOK_f {f : FuncId} {fd : Body} {fn : Func} (hmx : P.follows .mixedOrders = true) (hf : FnOK P f fd fn) {ss : List Sh} {ra : Row} {sh : Sh} {rb : Row} {F : DenR ra → DenR rb} {cx : Ctx} {fds : FuncId → Option Body} {d : Nat}
    (htab : TabOk P cx.ti) (hsp : SpecsOK P cx) (hfd : FdsOK P fds) (hrun : ∀ x, runT cx (calls cx fds d) fd ss sh (expl ra x) = some (F x)) : SpecOK P f (spF ss ra sh rb F) :=
  specOK_typed hmx hf fun x _ => ⟨cx, calls cx fds d, htab, hsp, calls_sound htab hsp hmx hfd d, hrun x⟩

end
end Go.PM
