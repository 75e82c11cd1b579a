/- The pure machine, part 4: operations that only reckon: what the real machine gives is what the pure one gives. -/
import Derived.Test.YtcjmpignjljfbaaPM3
import Derived.Laws.StructEq
import Derived.Laws.Cells
import Derived.Laws.Slices
import Derived.WalkKit
namespace Go.PM
set_option linter.unusedVariables false
set_option linter.unusedSimpArgs false

/-! ### The table of types, held against the program -/
def cellIs : Cell → Value → Bool
  | .val (.bool a), .bool b => a == b
  | .val (.int k a), .int k' b => decide (k = k') && (a == b)
  | .val (.string a), .string b => Nat.beq a.size 0 && Nat.beq b.size 0
  | .val (.pointer none), .pointer none => true
  | .val .nilFunc, .nilFunc => true
  | .nil, .slice none 0 0 => true
  | _, _ => false

def cellsAre : List Cell → List Value → Bool
  | [], [] => true
  | c :: cs, v :: vs => cellIs c v && cellsAre cs vs
  | _, _ => false

def pvIs : PV → Value → Bool
  | .one c, v => cellIs c v
  | .agg cs, .agg us => cellsAre cs us.toList
  | _, _ => false

def aggD : TypeDesc → Bool
  | .struct _ => true
  | .array _ _ => true
  | _ => false

def fieldsAre (P : Program) (n : Nat) : List Field → List (Nat × Nat × Bool) → Bool
  | [], [] => true
  | f :: fs, (o, m, g) :: l => (match P.info? f.type, P.underlying f.type with
    | some i, some d => Nat.beq f.offset o && (Nat.beq i.size m && ((aggD d == g) && (Nat.ble (o + m) n && (g || Nat.beq m 1))))
    | _, _ => false) && fieldsAre P n fs l
  | _, _ => false

/-- The kinds of a type's cells, if it is compared cell by cell. -/
def cmpL (f : TypeId → Option (List CK)) (P : Program) : Nat → List Field → Option (List CK)
  | _, [] => some []
  | n, fl :: fs => bif !(fl.name == "_") && Nat.beq fl.offset n then (match f fl.type, P.underlying fl.type, P.info? fl.type with
    | some ks, some u, some i => bif Nat.beq i.size ks.length && (aggD u || Nat.beq ks.length 1) then (match cmpL f P (n + ks.length) fs with
      | some l => some (ks ++ l)
      | none => none) else none
    | _, _, _ => none) else none

def cmpT (P : Program) : Nat → TypeId → Option (List CK)
  | 0, _ => none
  | d + 1, t => match P.underlying t with
    | some .bool => some [.ckB]
    | some (.int _) => some [.ckI]
    | some .string => some [.ckS]
    | some (.struct fs) => bif P.stoodInHeld t then none else cmpL (cmpT P d) P 0 fs.toList
    | _ => none

def ckEq : CK → CK → Bool
  | .ckB, .ckB => true
  | .ckI, .ckI => true
  | .ckS, .ckS => true
  | _, _ => false

def cksEq : List CK → List CK → Bool
  | [], [] => true
  | a :: as, b :: bs => ckEq a b && cksEq as bs
  | _, _ => false

theorem cksEq_eq : ∀ {a b : List CK}, cksEq a b = true → a = b
  | [], [], _ => rfl
  | [], _ :: _, h => by simp [cksEq] at h
  | _ :: _, [], h => by simp [cksEq] at h
  | a :: as, b :: bs, h => by
    simp only [cksEq, Bool.and_eq_true] at h
    have h1 : a = b := by cases a <;> cases b <;> simp_all [ckEq]
    rw [h1, cksEq_eq h.2]

def cmpB (P : Program) (t : TypeId) : Option (List CK) → Bool
  | none => true
  | some ks => !(P.eqGuardType P.depth t) && (match cmpT P 8 t with
    | some ks' => cksEq ks' ks
    | none => false)

def tiB (P : Program) (t : TypeId) (ti : TI) : Bool :=
  match P.info? t, P.underlying t with
  | some i, some d => Nat.beq i.size ti.size && ((match i.zero with
      | some z => pvIs ti.zero z
      | none => false) && (match ti, d with
    | .bool, .bool => true
    | .int k, .int k' => decide (k = k')
    | .str, .string => true
    | .ptr, .pointer _ => true
    | .fn, .func _ _ _ => true
    | .agg z fs c, .struct F => fieldsAre P z.length F.toList fs && cmpB P t c
    | .slice e es eb _, .slice e' => Nat.beq e e' && (match P.info? e with
      | some ie => Nat.beq ie.size es && (Nat.beq ie.bytes eb && (match ie.zero with
        | some z => Nat.beq z.cells.size es
        | none => false))
      | none => false)
    | _, _ => false))
  | _, _ => false

def TabOk (P : Program) (tis : Nat → Option TI) : Prop := ∀ t ti, tis t = some ti → tiB P t ti = true

theorem bytes_nil {a b : ByteArray} (ha : a.size = 0) (hb : b.size = 0) : a = b := by
  obtain ⟨⟨a⟩⟩ := a
  obtain ⟨⟨b⟩⟩ := b
  have h1 : a.length = 0 := ha
  have h2 : b.length = 0 := hb
  rw [List.length_eq_zero_iff] at h1 h2
  rw [h1, h2]

theorem cellIs_rep {E : Env} {G : Gh} {w : World} {c : Cell} {v : Value} (h : cellIs c v = true) : RepC E G w c v := by
  unfold cellIs at h
  split at h
  all_goals first
    | (simp only [Bool.and_eq_true, Nat.beq_eq] at h; show _ = _; rw [bytes_nil h.1 h.2])
    | simp_all [RepC]

theorem cellIs_one {c : Cell} {v : Value} (h : cellIs c v = true) : v.oneCell' = true := by
  unfold cellIs at h
  split at h <;> first | rfl | cases h

theorem cellsAre_rep {E : Env} {G : Gh} {w : World} : ∀ {cs : List Cell} {vs : List Value}, cellsAre cs vs = true → RepCs E G w cs vs
  | [], [], _ => rfl
  | [], _ :: _, h => by simp [cellsAre] at h
  | _ :: _, [], h => by simp [cellsAre] at h
  | c :: cs, v :: vs, h => by
    simp only [cellsAre, Bool.and_eq_true] at h
    exact ⟨v, vs, rfl, ⟨cellIs_rep h.1, cellIs_one h.1⟩, cellsAre_rep h.2⟩

theorem pvIs_rep {E : Env} {G : Gh} {w : World} {p : PV} {v : Value} (h : pvIs p v = true) : RepP E G w p v := by
  unfold pvIs at h
  split at h
  · exact cellIs_rep h
  · exact ⟨_, by simp, cellsAre_rep h⟩
  · cases h

structure TIok (P : Program) (t : TypeId) (ti : TI) : Prop where
  info : ∃ i z, P.info? t = some i ∧ i.size = ti.size ∧ i.zero = some z ∧ pvIs ti.zero z = true
  desc : ∃ d, P.underlying t = some d ∧ aggD d = ti.isAgg
  str : ti = .str → P.underlying t = some .string
  bool : ti = .bool → P.underlying t = some .bool
  agg : ∀ z fs c, ti = .agg z fs c → ∃ F : Array Field, P.underlying t = some (.struct F) ∧ fieldsAre P z.length F.toList fs = true ∧ cmpB P t c = true
  slice : ∀ e es eb r, ti = .slice e es eb r → P.underlying t = some (.slice e) ∧ ∃ i z, P.info? e = some i ∧ i.size = es ∧ i.bytes = eb ∧ i.zero = some z ∧ z.cells.size = es
  int : ∀ k, ti = .int k → P.underlying t = some (.int k)

theorem tiB_ok {P : Program} {t : TypeId} {ti : TI} (h : tiB P t ti = true) : TIok P t ti := by
  unfold tiB at h
  split at h
  · rename_i i d hi hd
    simp only [Bool.and_eq_true, Nat.beq_eq] at h
    obtain ⟨h1, h2, h3⟩ := h
    split at h2
    · rename_i z hz
      refine ⟨⟨i, z, hi, h1, hz, h2⟩, ?_, ?_, ?_, ?_, ?_, ?_⟩
      · refine ⟨d, hd, ?_⟩
        cases ti <;> cases d <;> simp_all [aggD, TI.isAgg]
      · intro e; subst e; cases d <;> simp_all
      · intro e; subst e; cases d <;> simp_all
      · intro z fs c e; subst e; cases d <;> simp_all
      · intro e es eb r he; subst he
        cases d <;> simp only [Bool.false_eq_true] at h3
        rename_i e'
        simp only [Bool.and_eq_true, Nat.beq_eq] at h3
        obtain ⟨h4, h5⟩ := h3
        subst h4
        refine ⟨hd, ?_⟩
        split at h5
        · rename_i ie hie
          simp only [Bool.and_eq_true, Nat.beq_eq] at h5
          obtain ⟨h6, h7, h8⟩ := h5
          split at h8
          · rename_i z' hz'
            exact ⟨ie, z', hie, h6, h7, hz', by simpa using h8⟩
          · cases h8
        · cases h5
      · intro k e; subst e; cases d <;> simp_all
    · cases h2
  · cases h

theorem fieldsAre_get {P : Program} {n : Nat} : ∀ {fs : List Field} {l : List (Nat × Nat × Bool)}, fieldsAre P n fs l = true → ∀ (f : Nat) o m g, l[f]? = some (o, m, g) →
    ∃ fl i d, fs[f]? = some fl ∧ fl.offset = o ∧ P.info? fl.type = some i ∧ i.size = m ∧ P.underlying fl.type = some d ∧ aggD d = g ∧ o + m ≤ n ∧ (g = false → m = 1)
  | [], [], _, f, o, m, g, h => by simp at h
  | [], _ :: _, h, _, _, _, _, _ => by simp [fieldsAre] at h
  | _ :: _, [], h, _, _, _, _, _ => by simp [fieldsAre] at h
  | fl :: fs, (o', m', g') :: l, h, f, o, m, g, hf => by
    simp only [fieldsAre, Bool.and_eq_true] at h
    obtain ⟨h1, h2⟩ := h
    cases f with
    | zero =>
      simp at hf
      obtain ⟨rfl, rfl, rfl⟩ := hf
      split at h1
      · rename_i i d hi hd
        simp only [Bool.and_eq_true, Nat.beq_eq, Nat.ble_eq, beq_iff_eq, Bool.or_eq_true] at h1
        obtain ⟨a1, a2, a3, a4, a5⟩ := h1
        refine ⟨fl, i, d, by simp, a1, hi, a2, hd, a3, a4, fun hg => ?_⟩
        rcases a5 with h | h
        · rw [hg] at h; cases h
        · exact h
      · cases h1
    | succ f =>
      simp at hf
      simpa using fieldsAre_get h2 f o m g hf

theorem run_isAgg' {P : Program} {t : TypeId} {d : TypeDesc} (h : P.underlying t = some d) (w : World) : (isAgg t).run P w = .ok (aggD d) w := by
  unfold isAgg
  simp only [Sem.run_bind, run_underlying h, Result.andThen_ok]
  cases d <;> rfl

theorem run_sizeOf' {P : Program} {t : TypeId} {i : TypeInfo} (h : P.info? t = some i) (w : World) : (sizeOf t).run P w = .ok i.size w := by
  simp [sizeOf, typeInfo, h]

/-! ### A state of the pure machine stands for one of the real one -/
def IdsHold (a : Act) (ids : List (Nat × Bool)) : Prop := ∀ p ∈ ids, a.tmps.getD p.1 undef = .bool p.2

structure SimT (E : Env) (G : Gh) (w : World) (s : St) (a : Act) : Prop where
  tm : ∀ d ids v, (d, ids, v) ∈ s.t → (IdsHold a ids ∧ RepP E G w v (a.tmps.getD d undef)) ∨ (¬ IdsHold a ids ∧ a.tmps.getD d undef = undef)
  n : a.tmps.size = s.n
  df : a.defers = []

structure SimB (E : Env) (G : Gh) (w : World) (s : St) : Prop where
  box : ∀ (i : Nat) cs, s.b[i]? = some cs → ∃ blk arr T, G.rho[i]? = some blk ∧ w.heap[blk]? = some (.cells arr T (0, 0)) ∧ RepCs E G w cs arr.toList

theorem getT_mem : ∀ {l : List (Nat × List (Nat × Bool) × PV)} {k : Nat} {e : List (Nat × Bool) × PV}, getT l k = some e → (k, e) ∈ l
  | [], _, _, h => by simp [getT] at h
  | (d, e') :: l, k, e, h => by
    simp only [getT] at h
    cases hd : Nat.beq d k with
    | true =>
      rw [hd] at h; simp at h; subst h
      rw [Nat.beq_eq] at hd; subst hd
      exact List.mem_cons_self
    | false => rw [hd] at h; simp at h; exact List.mem_cons_of_mem _ (getT_mem h)

theorem inIds_mem {p : Nat × Bool} : ∀ {ids : List (Nat × Bool)}, inIds p ids = true → p ∈ ids
  | [], h => by simp [inIds] at h
  | (t, w) :: l, h => by
    simp only [inIds, Bool.or_eq_true, Bool.and_eq_true, Nat.beq_eq, beq_iff_eq] at h
    rcases h with ⟨h1, h2⟩ | h
    · obtain ⟨a, b⟩ := p; simp at h1 h2; subst h1; subst h2; exact List.mem_cons_self
    · exact List.mem_cons_of_mem _ (inIds_mem h)

theorem subIds_hold {a : Act} : ∀ {ids' ids : List (Nat × Bool)}, subIds ids' ids = true → IdsHold a ids → IdsHold a ids'
  | [], ids, _, _ => fun p hp => by cases hp
  | q :: l, ids, h, hi => by
    simp only [subIds, Bool.and_eq_true] at h
    intro p hp
    rcases List.mem_cons.1 hp with rfl | hp
    · exact hi _ (inIds_mem h.1)
    · exact subIds_hold h.2 hi p hp

theorem constCell_rep {E : Env} {G : Gh} {w : World} {v : Value} {c : Cell} (h : constCell v = some c) : RepC E G w c v := by
  unfold constCell at h
  split at h
  case h_7 f a b =>
    cases hz : (Nat.beq a.size 0 && Nat.beq b.size 0) with
    | false => rw [hz] at h; simp at h
    | true =>
      rw [hz] at h; simp at h; subst h
      simp only [Bool.and_eq_true, Nat.beq_eq] at hz
      rw [Array.size_eq_zero_iff.1 hz.1, Array.size_eq_zero_iff.1 hz.2]
      exact ⟨[], rfl, rfl⟩
  all_goals (simp at h; try (subst h; rfl))

theorem constCell_one {v : Value} {c : Cell} (h : constCell v = some c) : v.oneCell' = true := by
  unfold constCell at h
  split at h <;> first | rfl | cases h

theorem constCells_rep {E : Env} {G : Gh} {w : World} : ∀ {vs : List Value} {cs : List Cell}, constCells vs = some cs → RepCs E G w cs vs
  | [], cs, h => by simp [constCells] at h; subst h; rfl
  | v :: vs, cs, h => by
    simp only [constCells] at h
    split at h
    · rename_i c cs' h1 h2
      simp at h; subst h
      exact ⟨v, vs, rfl, ⟨constCell_rep h1, constCell_one h1⟩, constCells_rep h2⟩
    · cases h

theorem constPV_rep {E : Env} {G : Gh} {w : World} {v : Value} {p : PV} (h : constPV v = some p) : RepP E G w p v := by
  unfold constPV at h
  split at h
  · split at h
    · rename_i l hl; simp at h; subst h; exact ⟨_, by simp, constCells_rep hl⟩
    · cases h
  · split at h
    · rename_i c hc; simp at h; subst h; exact constCell_rep hc
    · cases h

theorem ev_rep {E : Env} {G : Gh} {w : World} {s : St} {a : Act} (hs : SimT E G w s a) {ids : List (Nat × Bool)} (hi : IdsHold a ids) {x : Operand} {p : PV} (h : s.ev ids x = some p) : RepP E G w p (a.eval x) := by
  cases x with
  | tmp t =>
    simp only [St.ev] at h
    split at h
    · rename_i ids' pv ht
      cases hsub : subIds ids' ids with
      | false => rw [hsub] at h; simp at h
      | true =>
        rw [hsub] at h; simp at h; subst h
        rcases hs.tm _ _ _ (getT_mem ht) with ⟨_, h2⟩ | ⟨h1, _⟩
        · exact h2
        · exact absurd (subIds_hold hsub hi) h1
    · cases h
  | const v => exact constPV_rep h
  | func f => simp [St.ev] at h; subst h; exact ⟨[], rfl, rfl⟩
  | global g => simp [St.ev] at h

theorem addr_of (b off : Nat) : (⟨b, off, none⟩ : Addr) = (⟨b, 0, none⟩ : Addr).add off := by
  rw [Addr.add_lit]; simp

theorem inj_rep {E : Env} {G : Gh} {w : World} : ∀ {t : Ty} {x : Den t} {u : Value}, RepD w (okG E G) (toD t x) u → RepC E G w (inj t x) u ∧ u.oneCell' = true
  | .bool, x, u, h => by simp [toD, RepD] at h; subst h; exact ⟨rfl, rfl⟩
  | .int k, x, u, h => by simp [toD, RepD] at h; subst h; exact ⟨rfl, rfl⟩
  | .str, x, u, h => by simp [toD, RepD] at h; subst h; exact ⟨rfl, rfl⟩
  | .sl r, x, u, h => ⟨⟨h, Nat.zero_le _, fun e _ he => by omega⟩, by obtain ⟨a, c, rfl, _⟩ := h; rfl⟩

theorem exCells_rep {E : Env} {G : Gh} {w : World} (e : Ex) : ∀ (j : Nat) c u, (exCells e)[j]? = some c → RepD w (okG E G) ((exD e).getD j dNo) u → RepC E G w c u ∧ u.oneCell' = true := by
  cases e with
  | mk k s vk vn vs args =>
    intro j c u hc hu
    simp only [exCells, exD] at hc hu
    rcases j with _ | _ | _ | _ | _ | _ | j
    all_goals simp at hc hu
    all_goals first | (subst hc; simp [RepD] at hu; subst hu; exact ⟨rfl, rfl⟩) | skip
    subst hc
    have hm : ∀ l : List Ex, exDs l = l.map (toDs .expr) := by
      intro l; induction l with
      | nil => simp [exDs]
      | cons e l ih => simp only [exDs, List.map_cons, ih, toDs]
    rw [hm] at hu
    refine inj_rep (t := .sl .expr) (x := args) ?_
    simp only [toD]
    simpa [sz] using hu

theorem expl_rep {E : Env} {G : Gh} {w : World} : ∀ (r : Row) (x : DenR r) (j : Nat) c u, (expl r x)[j]? = some c → RepD w (okG E G) ((toDs r x).getD j dNo) u → RepC E G w c u ∧ u.oneCell' = true
  | .nil, x, j, c, u, hc, hu => by simp [expl] at hc
  | .cons t .nil, x, j, c, u, hc, hu => by
    cases j with
    | zero => simp [expl] at hc; subst hc; exact inj_rep (by simpa [toDs] using hu)
    | succ j => simp [expl] at hc
  | .cons t (.cons t' r), x, j, c, u, hc, hu => by
    cases j with
    | zero => simp [expl] at hc; subst hc; exact inj_rep (by simpa [toDs] using hu)
    | succ j => exact expl_rep (.cons t' r) x.2 j c u (by simpa [expl] using hc) (by simpa [toDs] using hu)
  | .cons t .expr, x, j, c, u, hc, hu => by
    cases j with
    | zero => simp [expl] at hc; subst hc; exact inj_rep (by simpa [toDs] using hu)
    | succ j => exact exCells_rep x.2 j c u (by simpa [expl] using hc) (by simpa [toDs] using hu)
  | .expr, e, j, c, u, hc, hu => exCells_rep e j c u (by simpa [expl] using hc) (by simpa [toDs] using hu)

theorem expl_length : ∀ (r : Row) (x : DenR r), (expl r x).length = sz r
  | .nil, _ => by simp [expl, sz]
  | .cons t .nil, x => by simp [expl, sz]
  | .cons t (.cons u r), x => by
    have := expl_length (.cons u r) x.2
    simp only [expl, List.length_cons, this, sz]
  | .cons t .expr, x => by obtain ⟨a, e⟩ := x; cases e; simp [expl, exCells, sz]
  | .expr, e => by cases e; simp [expl, exCells, sz]

theorem deref_rep {E : Env} {G : Gh} {w : World} {s : St} (hb : SimB E G w s) {c : Cell} {x : Value} (hx : RepC E G w c x) {cs : List Cell} {off : Nat} (h : s.deref c = some (cs, off)) :
    ∃ ad : Addr, x = .pointer (some (ad.add off)) ∧ ∀ (j : Nat) d, cs[j]? = some d → ∃ u, w.cell? (ad.add j) = some u ∧ RepC E G w d u ∧ u.oneCell' = true := by
  cases c with
  | box b o =>
    simp only [St.deref] at h
    split at h
    · rename_i cs' hcs
      simp at h; obtain ⟨rfl, rfl⟩ := h
      obtain ⟨blk, h1, h2⟩ := hx
      obtain ⟨blk', arr, T, g1, g2, g3⟩ := hb.box b _ hcs
      rw [h1] at g1; cases g1
      refine ⟨⟨blk, 0, none⟩, by rw [h2, ← addr_of], fun j d hd => ?_⟩
      obtain ⟨u, hu, hr⟩ := g3.get j d hd
      refine ⟨u, ?_, hr⟩
      rw [← addr_of]
      simp only [World.cell?, g2]
      simpa using hu
    · cases h
  | elt r y o =>
    simp only [St.deref, Option.some.injEq, Prod.mk.injEq] at h
    obtain ⟨rfl, rfl⟩ := h
    obtain ⟨ad, h1, h2⟩ := hx
    refine ⟨ad, h1, fun j d hd => ?_⟩
    have hj : j < sz r := by rw [← expl_length r y]; exact (List.getElem?_eq_some_iff.1 hd).1
    obtain ⟨_, u, hu, hr⟩ := h2 j hj
    exact ⟨u, hu, expl_rep r y j d u hd hr⟩
  | val v => simp [St.deref] at h
  | sl r l t => simp [St.deref] at h
  | nil => simp [St.deref] at h
  | clo f cs => simp [St.deref] at h

end Go.PM
