/- The pure machine, part 6: the other operations that only reckon. -/
import Derived.Test.YtcjmpignjljfbaaPM5
import Derived.Lib.SliceRun
namespace Go.PM
set_option linter.unusedVariables false
set_option linter.unusedSimpArgs false
section
variable {P : Program} {E : Env} {G : Gh} {w : World}

theorem Gives.val {sm : Sem Value} {x : Value} (h : ∀ w' : World, sm.run P w' = .ok x w') : Gives P E G w sm (.one (.val x)) := ⟨x, fun w' _ => h w', rfl⟩

theorem binV_gives (op : BinOp) (t : TypeId) (a b : Value) : GivesR P E G w (binOp op t a b) (binV op a b) := by
  cases a <;> cases b <;> try exact .no
  case int k a k' b =>
    by_cases hk : k = k'
    · subst hk
      cases op <;> simp only [binV, decide_true, cond_true]
      case quo =>
        refine .chk fun hc => .val fun w' => ?_
        have hb : ¬ b = 0 := by simpa using hc
        simp [binOp, Op.intDiv, hb]
      case rem =>
        refine .chk fun hc => .val fun w' => ?_
        have hb : ¬ b = 0 := by simpa using hc
        simp [binOp, Op.intDiv, hb]
      case shl =>
        refine .chk fun hc => .val fun w' => ?_
        have hb : ¬ b < 0 := by have := of_decide_eq_true hc; omega
        simp [binOp, Op.shift, hb]
      case shr =>
        refine .chk fun hc => .val fun w' => ?_
        have hb : ¬ b < 0 := by have := of_decide_eq_true hc; omega
        simp [binOp, Op.shift, hb]
      all_goals first
        | exact .no
        | exact .ok (.val fun w' => (by simp [binOp, Op.intArith, Op.intBits, Op.intCmp]))
    · have hd : decide (k = k') = false := decide_eq_false hk
      cases op <;> simp only [binV, hd, cond_false]
      case shl =>
        refine .chk fun hc => .val fun w' => ?_
        have hb : ¬ b < 0 := by have := of_decide_eq_true hc; omega
        simp [binOp, Op.shift, hb]
      case shr =>
        refine .chk fun hc => .val fun w' => ?_
        have hb : ¬ b < 0 := by have := of_decide_eq_true hc; omega
        simp [binOp, Op.shift, hb]
      all_goals exact .no
  case string a b =>
    cases op <;> simp only [binV]
    case add =>
      refine .chk fun hc => .val fun w' => ?_
      have hb : ¬ (((a.size + b.size : Nat) : Int) > IntKind.i64.max) := by have := of_decide_eq_true hc; omega
      simp only [binOp, Op.stringOp]
      rw [if_neg hb]; rfl
    all_goals first
      | exact .no
      | exact .ok (.val fun w' => (by simp [binOp, Op.stringOp]))

theorem run_eqGuard_int (op : BinOp) (t : TypeId) (x y : Operand) (k k' : IntKind) (a b : Int) : (eqGuard op t x y (.int k a) (.int k' b)).run P w = .ok () w := by cases op <;> simp [eqGuard]
theorem run_eqGuard_string (op : BinOp) (t : TypeId) (x y : Operand) (a b : ByteArray) : (eqGuard op t x y (.string a) (.string b)).run P w = .ok () w := by cases op <;> simp [eqGuard]
theorem run_eqGuard_bool (op : BinOp) (t : TypeId) (x y : Operand) (a b : Bool) : (eqGuard op t x y (.bool a) (.bool b)).run P w = .ok () w := by cases op <;> simp [eqGuard]

theorem unV_gives (op : UnOp) (a : Value) : GivesR P E G w (Op.unary op a) (unV op a) := by
  cases op <;> cases a <;> first
    | exact .no
    | exact .ok (.val fun w' => (by simp [Op.unary, Op.intArith, Op.intBits]))

theorem cell_sc {c : Cell} {x : Value} {b : Bool} (h : RepC E G w c x) (hc : c = .val (.bool b)) : x = .bool b := by subst hc; exact h

/-! Comparing, cell by cell. -/
theorem RepCs.append {cs ds : List Cell} : ∀ {us : List Value}, RepCs E G w (cs ++ ds) us → ∃ u1 u2, us = u1 ++ u2 ∧ RepCs E G w cs u1 ∧ RepCs E G w ds u2 := by
  induction cs with
  | nil => intro us h; exact ⟨[], us, rfl, rfl, h⟩
  | cons c cs ih =>
    rintro us ⟨u, us', rfl, h1, h2⟩
    obtain ⟨u1, u2, rfl, h3, h4⟩ := ih h2
    exact ⟨u :: u1, u2, rfl, ⟨u, u1, rfl, h1, h3⟩, h4⟩

theorem eqCells_cons {k : CK} {ks : List CK} {a b : Cell} {as bs : List Cell} {c : Bool} (h : eqCells (k :: ks) (a :: as) (b :: bs) = some c) :
    ∃ x y, eqCell k a b = some x ∧ eqCells ks as bs = some y ∧ c = (x && y) := by
  cases ks with
  | nil =>
    cases as with
    | nil =>
      cases bs with
      | nil => exact ⟨c, true, by simpa [eqCells] using h, rfl, by simp⟩
      | cons b' bs => simp [eqCells] at h
    | cons a' as => simp [eqCells] at h
  | cons k' ks =>
    simp only [eqCells] at h
    split at h
    · rename_i x y hx hy
      exact ⟨x, y, hx, hy, (Option.some.inj h).symm⟩
    · cases h

theorem eqCells_len {ks : List CK} : ∀ {as bs : List Cell} {c : Bool}, eqCells ks as bs = some c → as.length = ks.length ∧ bs.length = ks.length := by
  induction ks with
  | nil => intro as bs c h; cases as <;> cases bs <;> simp_all [eqCells]
  | cons k ks ih =>
    intro as bs c h
    cases as with
    | nil => simp [eqCells] at h
    | cons a as =>
      cases bs with
      | nil => simp [eqCells] at h
      | cons b bs =>
        obtain ⟨x, y, _, hy, _⟩ := eqCells_cons h
        have := ih hy
        simp [this]

theorem eqCells_append {k1 k2 : List CK} : ∀ {as bs : List Cell} {c : Bool}, eqCells (k1 ++ k2) as bs = some c →
    ∃ a1 a2 b1 b2 x y, as = a1 ++ a2 ∧ bs = b1 ++ b2 ∧ eqCells k1 a1 b1 = some x ∧ eqCells k2 a2 b2 = some y ∧ c = (x && y) := by
  induction k1 with
  | nil => intro as bs c h; exact ⟨[], as, [], bs, true, c, rfl, rfl, rfl, h, by simp⟩
  | cons k ks ih =>
    intro as bs c h
    cases as with
    | nil => simp [eqCells] at h
    | cons a as =>
      cases bs with
      | nil => simp [eqCells] at h
      | cons b bs =>
        obtain ⟨x, y, hx, hy, rfl⟩ := eqCells_cons h
        obtain ⟨a1, a2, b1, b2, x', y', rfl, rfl, h1, h2, rfl⟩ := ih hy
        refine ⟨a :: a1, a2, b :: b1, b2, x && x', y', rfl, rfl, ?_, h2, by rw [Bool.and_assoc]⟩
        cases ks with
        | nil =>
          have := eqCells_len h1
          have ha : a1 = [] := List.eq_nil_of_length_eq_zero (by simpa using this.1)
          have hb : b1 = [] := List.eq_nil_of_length_eq_zero (by simpa using this.2)
          subst ha; subst hb
          simp [eqCells] at h1 ⊢
          subst h1; simpa using hx
        | cons k' ks => simp only [eqCells, hx, h1]

def ckOk (P : Program) (t : TypeId) : CK → Prop
  | .ckB => P.underlying t = some .bool
  | .ckI => ∃ j, P.underlying t = some (.int j)
  | .ckS => P.underlying t = some .string

theorem eqCell_run {k : CK} {a b : Cell} {x y : Value} {c : Bool} (h : eqCell k a b = some c) (ha : RepC E G w a x) (hb : RepC E G w b y) {t : TypeId} {d : Nat} (hu : ckOk P t k) : (Op.equalIn (d + 1) t x y).run P w = .ok c w := by
  unfold eqCell at h
  split at h
  · rw [show x = _ from ha, show y = _ from hb]
    cases h
    exact run_equalIn_bool' w d t _ _ hu
  · rename_i k a k' b
    cases hk : decide (k = k') with
    | false => rw [hk] at h; cases h
    | true =>
      rw [hk] at h
      have := of_decide_eq_true hk
      subst this
      rw [show x = _ from ha, show y = _ from hb]
      cases h
      obtain ⟨j, hj⟩ := hu
      exact run_equalIn_int w d t k j _ _ hj
  · rw [show x = _ from ha, show y = _ from hb]
    cases h
    exact run_equalIn_string w d t _ _ hu
  · cases h

theorem part_agg {t : TypeId} {u : TypeDesc} {i : TypeInfo} (hu : P.underlying t = some u) (hag : aggD u = true) (hi : P.info? t = some i) (us : List Value) (off : Nat) :
    (part t us.toArray off).run P w = .ok (.agg ((us.drop off).take i.size).toArray) w := by
  unfold part
  simp only [Sem.run_bind, run_isAgg' hu, Result.andThen_ok, hag, if_true, run_sizeOf' hi, Sem.run_pure]
  congr 2
  apply Array.ext'
  simp [List.extract_eq_take_drop]

theorem part_one {t : TypeId} {u : TypeDesc} (hu : P.underlying t = some u) (hag : aggD u = false) (us : List Value) (off : Nat) (v : Value) (hv : us[off]? = some v) :
    (part t us.toArray off).run P w = .ok v w := by
  unfold part
  simp only [Sem.run_bind, run_isAgg' hu, Result.andThen_ok, hag, Bool.false_eq_true, if_false]
  simp [hv]

def CmpGood (P : Program) (E : Env) (G : Gh) (w : World) (d : Nat) : Prop :=
  ∀ t ks, cmpT P d t = some ks → ∀ u, P.underlying t = some u → ∀ m, d ≤ m →
    (aggD u = true → ∀ us vs cs ds c, RepCs E G w cs us → RepCs E G w ds vs → eqCells ks cs ds = some c → (Op.equalIn m t (.agg us.toArray) (.agg vs.toArray)).run P w = .ok c w) ∧
    (aggD u = false → ∀ k, ks = [k] → ∀ x y a b c, RepC E G w a x → RepC E G w b y → eqCell k a b = some c → (Op.equalIn m t x y).run P w = .ok c w)

theorem cmpFields {d m : Nat} (hg : CmpGood P E G w d) (hm : d ≤ m) : ∀ (fs : List Field) (n : Nat) (ks : List CK), cmpL (cmpT P d) P n fs = some ks → ∀ (p q us vs : List Value) (cs ds : List Cell) (c : Bool), p.length = n → q.length = n →
    RepCs E G w cs us → RepCs E G w ds vs → eqCells ks cs ds = some c → (Op.eqFields m (p ++ us).toArray (q ++ vs).toArray fs).run P w = .ok c w
  | [], n, ks, h, p, q, us, vs, cs, ds, c, _, _, _, _, hc => by
    simp [cmpL] at h; subst h
    have := eqCells_len hc
    have ha : cs = [] := List.eq_nil_of_length_eq_zero (by simpa using this.1)
    have hb : ds = [] := List.eq_nil_of_length_eq_zero (by simpa using this.2)
    subst ha; subst hb
    simp [eqCells] at hc; subst hc
    simp [Op.eqFields]
  | f :: fs, n, ks, h, p, q, us, vs, cs, ds, c, hp, hq, hcs, hds, hc => by
    simp only [cmpL] at h
    cases h0 : (!(f.name == "_") && Nat.beq f.offset n) with
    | false => rw [h0] at h; cases h
    | true =>
      rw [h0] at h
      simp only [cond_true] at h
      simp only [Bool.and_eq_true, Nat.beq_eq, Bool.not_eq_true'] at h0
      obtain ⟨hn, ho⟩ := h0
      split at h
      · rename_i k1 u i h1 hu hi
        cases h2 : (Nat.beq i.size k1.length && (aggD u || Nat.beq k1.length 1)) with
        | false => rw [h2] at h; cases h
        | true =>
          rw [h2] at h
          simp only [cond_true] at h
          simp only [Bool.and_eq_true, Nat.beq_eq, Bool.or_eq_true] at h2
          obtain ⟨hsz, hag⟩ := h2
          split at h
          · rename_i k2 hk2
            cases h
            obtain ⟨a1, a2, b1, b2, x, y, rfl, rfl, hx, hy, rfl⟩ := eqCells_append hc
            obtain ⟨u1, u2, rfl, hu1, hu2⟩ := hcs.append
            obtain ⟨v1, v2, rfl, hv1, hv2⟩ := hds.append
            have hl := eqCells_len hx
            have hlu := hu1.length
            have hlv := hv1.length
            have hrec := cmpFields hg hm fs (n + k1.length) k2 hk2 (p ++ u1) (q ++ v1) u2 v2 a2 b2 y (by simp; omega) (by simp; omega) hu2 hv2 hy
            obtain ⟨g1, g2⟩ := hg _ _ h1 _ hu m hm
            have hn' : f.name ≠ "_" := by simpa using hn
            have key : ∃ va vb, (part f.type (p ++ (u1 ++ u2)).toArray f.offset).run P w = .ok va w ∧ (part f.type (q ++ (v1 ++ v2)).toArray f.offset).run P w = .ok vb w ∧ (Op.equalIn m f.type va vb).run P w = .ok x w := by
              cases hagg : aggD u with
              | true =>
                refine ⟨_, _, part_agg hu hagg hi _ _, part_agg hu hagg hi _ _, ?_⟩
                have e1 : (((p ++ (u1 ++ u2)).drop f.offset).take i.size) = u1 := by
                  rw [ho, ← hp, List.drop_left, hsz, show k1.length = u1.length by omega, List.take_left]
                have e2 : (((q ++ (v1 ++ v2)).drop f.offset).take i.size) = v1 := by
                  rw [ho, ← hq, List.drop_left, hsz, show k1.length = v1.length by omega, List.take_left]
                rw [e1, e2]
                exact g1 hagg _ _ _ _ _ hu1 hv1 hx
              | false =>
                have hk1 : k1.length = 1 := by rcases hag with h | h; · rw [hagg] at h; cases h
                                               · exact h
                obtain ⟨k, rfl⟩ := List.length_eq_one_iff.1 hk1
                obtain ⟨ca, rfl⟩ := List.length_eq_one_iff.1 (hl.1.trans rfl)
                obtain ⟨cb, rfl⟩ := List.length_eq_one_iff.1 (hl.2.trans rfl)
                obtain ⟨va, r1, rfl, ⟨ha, _⟩, hr1⟩ := hu1
                obtain ⟨vb, r2, rfl, ⟨hb, _⟩, hr2⟩ := hv1
                have hr1' : r1 = [] := hr1
                have hr2' : r2 = [] := hr2
                subst hr1'; subst hr2'
                refine ⟨va, vb, part_one hu hagg _ _ _ ?_, part_one hu hagg _ _ _ ?_, g2 hagg k rfl _ _ _ _ _ ha hb (by simpa [eqCells] using hx)⟩
                · rw [ho, ← hp]; simp
                · rw [ho, ← hq]; simp
            obtain ⟨va, vb, e1, e2, e3⟩ := key
            rw [Op.eqFields]
            simp only [if_pos hn', Sem.run_bind, e1, e2, e3, Result.andThen_ok]
            rw [show p ++ (u1 ++ u2) = (p ++ u1) ++ u2 by simp, show q ++ (v1 ++ v2) = (q ++ v1) ++ v2 by simp]
            cases x
            · simp
            · simpa using hrec
          · cases h
      · cases h

theorem cmpGood : ∀ d, CmpGood P E G w d
  | 0 => fun t ks h => by simp [cmpT] at h
  | d + 1 => fun t ks h u hu m hm => by
    obtain ⟨m, rfl⟩ : ∃ m', m = m' + 1 := ⟨m - 1, by omega⟩
    simp only [cmpT, hu] at h
    refine ⟨fun hag us vs cs ds c h1 h2 h3 => ?_, fun hag k hk x y a b c h1 h2 h3 => ?_⟩
    · cases u <;> simp [aggD] at hag <;> simp at h
      rename_i F
      cases hp : P.stoodInHeld t with
      | true => rw [hp] at h; simp at h
      | false =>
        rw [hp] at h
        simp only [cond_false] at h
        have hf : P.fieldsOf t = F := by simp [Program.fieldsOf, hu]
        rw [run_equalIn_struct w m t _ _ (by rw [hf]; exact hu) hp, hf]
        simpa using cmpFields (cmpGood d) (by omega) F.toList 0 ks h [] [] us vs cs ds c rfl rfl h1 h2 h3
    · subst hk
      refine eqCell_run h3 h1 h2 ?_
      cases u <;> simp at h <;> simp [aggD] at hag
      · subst h; exact hu
      · subst h; exact ⟨_, hu⟩
      · subst h; exact hu

end
end Go.PM
