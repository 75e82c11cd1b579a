/- The pure machine, part 18: the frame of a loop. -/
import Derived.Test.YtcjmpignjljfbaaPM25
namespace Go.PM
open Go.RowKit
set_option linter.unusedVariables false
set_option linter.unusedSimpArgs false

/-- A cell that was taken as data and laid out again. -/
def CellEq : Cell → Cell → Prop
  | .val v, d => d = .val v
  | .sl r l _, d => d = .sl r l 0
  | .nil, d => ∃ r, d = .sl r [] 0
  | _, _ => False

theorem proj_inj {t : Ty} {c : Cell} {x : Den t} (h : proj t c = some x) : CellEq c (inj t x) := by
  cases t with
  | bool =>
    cases c with
    | val v => cases v <;> simp only [proj] at h <;> first | (cases h; done) | skip
               cases h; rfl
    | _ => simp [proj] at h
  | int k =>
    cases c with
    | val v =>
      cases v <;> simp only [proj] at h <;> first | (cases h; done) | skip
      rename_i k' n
      by_cases hk : k = k'
      · subst hk; simp at h; subst h; rfl
      · simp [hk] at h
    | _ => simp [proj] at h
  | str =>
    cases c with
    | val v => cases v <;> simp only [proj] at h <;> first | (cases h; done) | skip
               cases h; rfl
    | _ => simp [proj] at h
  | sl r =>
    cases c with
    | val v => cases v <;> simp [proj] at h
    | sl r' l tok =>
      simp only [proj] at h
      split at h
      · rename_i hb
        cases h
        have := beqR_eq hb
        subst this
        rfl
      · cases h
    | nil => simp only [proj] at h; cases h; exact ⟨r, rfl⟩
    | _ => simp [proj] at h

theorem exOf_cells {cs : List Cell} {x : Ex} (h : exOf cs = some x) : cs.length = 6 ∧ ∀ (j : Nat) c, cs[j]? = some c → ∃ d, (exCells x)[j]? = some d ∧ CellEq c d := by
  unfold exOf at h
  split at h
  · rename_i k s vk vn vs c
    split at h
    · rename_i args hargs
      cases h
      have := proj_inj hargs
      refine ⟨rfl, fun j d hj => ?_⟩
      rcases j with _ | _ | _ | _ | _ | _ | j
      all_goals simp at hj
      all_goals subst hj
      · exact ⟨_, rfl, rfl⟩
      · exact ⟨_, rfl, rfl⟩
      · exact ⟨_, rfl, rfl⟩
      · exact ⟨_, rfl, rfl⟩
      · exact ⟨_, rfl, rfl⟩
      · exact ⟨_, rfl, this⟩
    · cases h
  · cases h

theorem impl_expl : ∀ {r : Row} {cs : List Cell} {x : DenR r}, impl r cs = some x → ∀ (j : Nat) c, cs[j]? = some c → ∃ d, (expl r x)[j]? = some d ∧ CellEq c d
  | .nil, cs, x, h, j, c, hj => by
    cases cs with
    | nil => simp at hj
    | cons a as => simp [impl] at h
  | .cons t .nil, cs, x, h, j, c, hj => by
    match cs, h with
    | [], h => simp [impl] at h
    | a :: b :: cs, h => simp [impl] at h
    | [a], h =>
      cases j with
      | zero => simp at hj; subst hj; exact ⟨inj t x, by simp [expl], proj_inj (by simpa [impl] using h)⟩
      | succ j => simp at hj
  | .cons t (.cons t' r), cs, x, h, j, c, hj => by
    match cs, h with
    | [], h => simp [impl] at h
    | a :: cs, h =>
      simp only [impl] at h
      split at h
      · rename_i y z hy hz
        cases h
        cases j with
        | zero => simp at hj; subst hj; exact ⟨inj t y, by simp [expl], proj_inj hy⟩
        | succ j =>
          obtain ⟨d, h1, h2⟩ := impl_expl hz j c (by simpa using hj)
          exact ⟨d, by simpa [expl] using h1, h2⟩
      · cases h
  | .cons t .expr, cs, x, h, j, c, hj => by
    match cs, h with
    | [], h => simp [impl] at h
    | a :: cs, h =>
      simp only [impl] at h
      split at h
      · rename_i y z hy hz
        cases h
        cases j with
        | zero => simp at hj; subst hj; exact ⟨inj t y, by simp [expl], proj_inj hy⟩
        | succ j =>
          obtain ⟨d, h1, h2⟩ := (exOf_cells hz).2 j c (by simpa using hj)
          exact ⟨d, by simpa [expl] using h1, h2⟩
      · cases h
  | .expr, cs, x, h, j, c, hj => by
    have h' : exOf cs = some x := by cases cs <;> simpa [impl] using h
    obtain ⟨d, h1, h2⟩ := (exOf_cells h').2 j c hj
    exact ⟨d, by simpa [expl] using h1, h2⟩

section
variable {P : Program} {E : Env} {G G' : Gh} {w w' : World} {s s' : St} {a a' : Act}

/-- Where a name of a frame comes from. -/
def Src (G' : Gh) (ts : List Nat) (e : Tok) : Prop :=
  (e.v = .slice none 0 0 ∧ e.n = 0 ∧ e.xs = []) ∨ ∃ q ∈ G'.tk, q.id ∈ ts ∧ e.v = q.v ∧ e.n = q.n ∧ e.sz = q.sz ∧ e.xs = q.xs ∧ e.e = q.e

def NRep (E : Env) (G' : Gh) (w' : World) (T : List Tok) : Cell → Value → Prop
  | .sl r l tok, x => RepD w' (okG E G') (toD (.sl r) l) x ∧ (tok = 0 ∨ ∃ e ∈ T, e.id + 1 = tok ∧ x = e.v ∧ e.n = l.length ∧ e.sz = sz r)
  | c, x => RepC E G' w' c x ∧ ∃ v, c = .val v

theorem cellEq_nrep {c d : Cell} {x : Value} (h : RepC E G' w' c x) (he : CellEq c d) (T : List Tok) : NRep E G' w' T d x := by
  cases c with
  | val v => cases he; exact ⟨h, v, rfl⟩
  | sl r l tok => cases he; exact ⟨h.1, .inl rfl⟩
  | nil => obtain ⟨r, rfl⟩ := he; rw [show x = _ from h]; exact ⟨⟨none, 0, rfl, Nat.le_refl _, fun i j hi => by simp at hi⟩, .inl rfl⟩
  | box b o => cases he
  | elt r y o => cases he
  | clo f cs => cases he

theorem NRep.mono {T T' : List Tok} (h : ∀ e ∈ T, e ∈ T') {d : Cell} {x : Value} (hr : NRep E G' w' T d x) : NRep E G' w' T' d x := by
  cases d with
  | sl r l tok =>
    refine ⟨hr.1, ?_⟩
    rcases hr.2 with h1 | ⟨e, he, h1⟩
    · exact .inl h1
    · exact .inr ⟨e, h e he, h1⟩
  | _ => exact hr

theorem name_rep (hm : SimM E G' w' s') : ∀ (os : List (Option Nat)) (cs ds : List Cell) (xs : List Value) (k : Nat), os.length = cs.length → ds.length = cs.length → xs.length = cs.length →
    (∀ (j : Nat) c d x, cs[j]? = some c → ds[j]? = some d → xs[j]? = some x → RepC E G' w' c x ∧ CellEq c d) → (∀ (j : Nat) o c, os[j]? = some o → cs[j]? = some c → ownOk s' o c = true) →
    (toksOf (os.zip cs)).Nodup →
    ∃ T : List Tok, (∀ e ∈ T, k ≤ e.id ∧ e.id < k + (nameL k os ds).length) ∧ (∀ e ∈ T, ∀ e' ∈ T, e.id = e'.id → e = e') ∧ (∀ e ∈ T, Src G' (toksOf (os.zip cs)) e) ∧
      (∀ e ∈ T, ∀ e' ∈ T, ∀ b, e.v.ownBlock = some b → e'.v.ownBlock = some b → e = e') ∧ (∀ p ∈ nameL k os ds, ∃ e ∈ T, e.id = p.1 ∧ e.e = p.2) ∧
      (nameCs k os ds).length = cs.length ∧ ∀ (j : Nat) d x, (nameCs k os ds)[j]? = some d → xs[j]? = some x → NRep E G' w' T d x
  | [], cs, ds, xs, k, h1, h2, h3, _, _, _ => by
    have hc : cs = [] := List.eq_nil_of_length_eq_zero h1.symm
    subst hc
    exact ⟨[], fun e he => (by cases he), fun e he => (by cases he), fun e he => (by cases he), fun e he => (by cases he), fun p hp => (by simp [nameL] at hp), by simp [nameCs], fun j d x hd => (by simp [nameCs] at hd)⟩
  | o :: os, [], ds, xs, k, h1, _, _, _, _, _ => by simp at h1
  | o :: os, c :: cs, [], xs, k, _, h2, _, _, _, _ => by simp at h2
  | o :: os, c :: cs, d :: ds, [], k, _, _, h3, _, _, _ => by simp at h3
  | o :: os, c :: cs, d :: ds, x :: xs, k, h1, h2, h3, hrep, hown, hnd => by
    obtain ⟨hr0, he0⟩ := hrep 0 c d x rfl rfl rfl
    have ho0 := hown 0 o c rfl rfl
    have hnd' : (toksOf (os.zip cs)).Nodup := by
      simp only [List.zip_cons_cons, toksOf] at hnd
      exact (List.nodup_append.1 hnd).2.1
    have hrep' : ∀ (j : Nat) c' d' x', cs[j]? = some c' → ds[j]? = some d' → xs[j]? = some x' → RepC E G' w' c' x' ∧ CellEq c' d' := fun j c' d' x' a1 a2 a3 => hrep (j + 1) c' d' x' (by simpa using a1) (by simpa using a2) (by simpa using a3)
    have hown' : ∀ (j : Nat) o' c', os[j]? = some o' → cs[j]? = some c' → ownOk s' o' c' = true := fun j o' c' a1 a2 => hown (j + 1) o' c' (by simpa using a1) (by simpa using a2)
    have hsub : ∀ t ∈ toksOf (os.zip cs), t ∈ toksOf ((o :: os).zip (c :: cs)) := by
      intro t ht
      simp only [List.zip_cons_cons, toksOf]
      exact List.mem_append_right _ ht
    have hsrc : ∀ e, Src G' (toksOf (os.zip cs)) e → Src G' (toksOf ((o :: os).zip (c :: cs))) e := by
      rintro e (h | ⟨q, hq, hi, h⟩)
      · exact .inl h
      · exact .inr ⟨q, hq, hsub _ hi, h⟩
    -- a cell that gets no name
    have plain : nameCs k (o :: os) (d :: ds) = d :: nameCs k os ds → nameL k (o :: os) (d :: ds) = nameL k os ds →
        ∃ T : List Tok, (∀ e ∈ T, k ≤ e.id ∧ e.id < k + (nameL k (o :: os) (d :: ds)).length) ∧ (∀ e ∈ T, ∀ e' ∈ T, e.id = e'.id → e = e') ∧ (∀ e ∈ T, Src G' (toksOf ((o :: os).zip (c :: cs))) e) ∧
          (∀ e ∈ T, ∀ e' ∈ T, ∀ b, e.v.ownBlock = some b → e'.v.ownBlock = some b → e = e') ∧ (∀ p ∈ nameL k (o :: os) (d :: ds), ∃ e ∈ T, e.id = p.1 ∧ e.e = p.2) ∧
          (nameCs k (o :: os) (d :: ds)).length = (c :: cs).length ∧ ∀ (j : Nat) d' x', (nameCs k (o :: os) (d :: ds))[j]? = some d' → (x :: xs)[j]? = some x' → NRep E G' w' T d' x' := by
      intro e1 e2
      obtain ⟨T, t1, t2, t3, t4, t5, t6, t7⟩ := name_rep hm os cs ds xs k (by simpa using h1) (by simpa using h2) (by simpa using h3) hrep' hown' hnd'
      rw [e1, e2]
      refine ⟨T, t1, t2, fun e he => hsrc e (t3 e he), t4, t5, by simp [t6], fun j d' x' a1 a2 => ?_⟩
      cases j with
      | zero => simp at a1 a2; subst a1; subst a2; exact cellEq_nrep hr0 he0 T
      | succ j => exact t7 j d' x' (by simpa using a1) (by simpa using a2)
    cases o with
    | none => exact plain rfl rfl
    | some e =>
      cases d with
      | sl r l tok =>
        -- a slice that may grow
        obtain ⟨T, t1, t2, t3, t4, t5, t6, t7⟩ := name_rep hm os cs ds xs (k + 1) (by simpa using h1) (by simpa using h2) (by simpa using h3) hrep' hown' hnd'
        have hnL : nameL k (some e :: os) (.sl r l tok :: ds) = (k, e) :: nameL (k + 1) os ds := rfl
        have hnC : nameCs k (some e :: os) (.sl r l tok :: ds) = .sl r l (k + 1) :: nameCs (k + 1) os ds := rfl
        -- its name
        have key : ∃ xs0 : List Value, ∃ v n z, x = v ∧ n = l.length ∧ z = sz r ∧ RepD w' (okG E G') (toD (.sl r) l) x ∧ Src G' (toksOf ((some e :: os).zip (c :: cs))) ⟨k, e, v, n, z, xs0⟩ ∧
            (∀ b, v.ownBlock = some b → ∃ q ∈ G'.tk, q.v = v ∧ q.id ∈ tokOf (some e) c) := by
          cases c with
          | nil =>
            obtain ⟨r', hr'⟩ := he0
            cases hr'
            have hx : x = .slice none 0 0 := hr0
            refine ⟨[], x, 0, sz r, rfl, rfl, rfl, ?_, .inl ⟨hx, rfl, rfl⟩, fun b hb => ?_⟩
            · rw [hx]; exact ⟨none, 0, rfl, Nat.le_refl _, fun i j hi => by simp at hi⟩
            · rw [hx] at hb; cases hb
          | sl r' l' tok' =>
            cases he0
            cases tok' with
            | zero => simp [ownOk] at ho0
            | succ n' =>
              simp only [ownOk, List.any_eq_true, Bool.and_eq_true, Nat.beq_eq] at ho0
              obtain ⟨p, hp, hp1, hp2⟩ := ho0
              obtain ⟨q, hq, hid, hqe⟩ := hm.live p hp
              obtain ⟨g1, g2, g3⟩ := hr0.2.2 q hq (by omega)
              have hmem : q.id ∈ toksOf ((some e :: os).zip (.sl r l (n' + 1) :: cs)) := by
                simp only [List.zip_cons_cons, toksOf, tokOf]
                exact List.mem_append_left _ (by simp; omega)
              refine ⟨q.xs, x, l.length, sz r, rfl, rfl, rfl, hr0.1, .inr ⟨q, hq, hmem, g1, g2.symm, g3.symm, rfl, (hqe.trans hp2).symm⟩, fun b hb => ⟨q, hq, g1.symm, by simp [tokOf]; exact hid.trans hp1⟩⟩
          | _ => simp [ownOk] at ho0
        obtain ⟨xs0, v, n, z, rfl, rfl, rfl, hD, hS, hB⟩ := key
        rw [hnL, hnC]
        refine ⟨⟨k, e, x, l.length, sz r, xs0⟩ :: T, ?_, ?_, ?_, ?_, ?_, by simp [t6], ?_⟩
        · intro e' he'
          rcases List.mem_cons.1 he' with rfl | he'
          · simp
          · have := t1 e' he'; simp; omega
        · intro e1 a1 e2 a2 hid
          rcases List.mem_cons.1 a1 with rfl | a1 <;> rcases List.mem_cons.1 a2 with rfl | a2
          · rfl
          · have := (t1 e2 a2).1; simp at hid; omega
          · have := (t1 e1 a1).1; simp at hid; omega
          · exact t2 e1 a1 e2 a2 hid
        · intro e' he'
          rcases List.mem_cons.1 he' with rfl | he'
          · exact hS
          · exact hsrc e' (t3 e' he')
        · have cross : ∀ e2 ∈ T, ∀ b, x.ownBlock = some b → e2.v.ownBlock = some b → False := by
            intro e2 a2 b hb1 hb2
            obtain ⟨q, hq, hqv, hqi⟩ := hB b hb1
            rcases t3 e2 a2 with h | ⟨q2, hq2, hi2, hv2, _⟩
            · rw [h.1] at hb2; cases hb2
            · have hqq := hm.apart q hq q2 hq2 b (by rw [hqv]; exact hb1) (by rw [← hv2]; exact hb2)
              subst hqq
              simp only [List.zip_cons_cons, toksOf] at hnd
              exact (List.nodup_append.1 hnd).2.2 _ hqi _ hi2 rfl
          intro e1 a1 e2 a2 b hb1 hb2
          rcases List.mem_cons.1 a1 with rfl | a1 <;> rcases List.mem_cons.1 a2 with rfl | a2
          · rfl
          · exact (cross e2 a2 b hb1 hb2).elim
          · exact (cross e1 a1 b hb2 hb1).elim
          · exact t4 e1 a1 e2 a2 b hb1 hb2
        · intro p hp
          rcases List.mem_cons.1 hp with rfl | hp
          · exact ⟨_, List.mem_cons_self, rfl, rfl⟩
          · obtain ⟨e', he', h'⟩ := t5 p hp
            exact ⟨e', List.mem_cons_of_mem _ he', h'⟩
        · intro j d' x' a1 a2
          cases j with
          | zero =>
            simp at a1 a2; subst a1; subst a2
            exact ⟨hD, .inr ⟨_, List.mem_cons_self, rfl, rfl, rfl, rfl⟩⟩
          | succ j => exact (t7 j d' x' (by simpa using a1) (by simpa using a2)).mono fun e' he' => List.mem_cons_of_mem _ he'
      | val v => exact plain rfl rfl
      | nil => exact plain rfl rfl
      | box b o => exact plain rfl rfl
      | elt r y o => exact plain rfl rfl
      | clo f cs => exact plain rfl rfl

end
end Go.PM
