/- The pure machine, part 16: one operation after the other. -/
import Derived.Test.YtcjmpignjljfbaaPM15
namespace Go.PM
open Go.RowKit
set_option linter.unusedVariables false
set_option linter.unusedSimpArgs false
section
variable {P : Program} {E : Env} {G G' : Gh} {w w' : World} {s s' : St} {a : Act}

theorem strip_rep (hle : ∀ b o, okG E G' b o → okG E G b o) {c : Cell} {x : Value} (hd : dataC c = true) (h : RepC E G' w c x) : RepC E G w (strip c) x := by
  cases c with
  | val v => exact h
  | sl r l tok => exact ⟨h.1.mono fun b o ho _ => ⟨hle b o ho, fun _ _ _ => rfl⟩, Nat.zero_le _, fun e _ he => by omega⟩
  | nil => exact h
  | box b o => cases hd
  | elt r y o => cases hd
  | clo f cs =>
    cases cs with
    | nil => exact h
    | cons c cs => cases hd

theorem stripCs_rep (hle : ∀ b o, okG E G' b o → okG E G b o) : ∀ {cs : List Cell} {k : Nat} {us : List Value}, cs.all dataC = true → RepCs E G' w (adoptCs k cs) us → RepCs E G w (cs.map strip) us
  | [], _, us, _, h => h
  | c :: cs, k, us, hd, h => by
    simp only [List.all_cons, Bool.and_eq_true] at hd
    have key : ∃ k' d, adoptCs k (c :: cs) = d :: adoptCs k' cs ∧ strip d = strip c ∧ dataC d = true := by
      cases c with
      | sl r l tok =>
        cases tok with
        | zero => exact ⟨k, _, rfl, rfl, rfl⟩
        | succ n => exact ⟨k + 1, _, rfl, rfl, rfl⟩
      | val v => exact ⟨k, _, rfl, rfl, hd.1⟩
      | nil => exact ⟨k, _, rfl, rfl, hd.1⟩
      | box b o => exact ⟨k, _, rfl, rfl, hd.1⟩
      | elt r y o => exact ⟨k, _, rfl, rfl, hd.1⟩
      | clo f cs => exact ⟨k, _, rfl, rfl, hd.1⟩
    obtain ⟨k', d, h1, h2, h3⟩ := key
    rw [h1] at h
    obtain ⟨u, us', rfl, ⟨g1, g2⟩, g3⟩ := h
    refine ⟨u, us', rfl, ⟨?_, g2⟩, stripCs_rep hle hd.2 g3⟩
    rw [← h2]; exact strip_rep hle h3 g1

theorem adoptB_rep (hle : ∀ b o, okG E G' b o → okG E G b o) {g : Bool} {cs : List Cell} {k : Nat} {x : Value} (hd : cs.all dataC = true) (h : RepB E G' w (g, adoptCs k cs) x) : RepB E G w (g, cs.map strip) x := by
  cases g with
  | true => obtain ⟨us, h1, h2⟩ := h; exact ⟨us, h1, stripCs_rep hle hd h2⟩
  | false =>
    obtain ⟨c, h1, h2⟩ := h
    cases cs with
    | nil => cases h1
    | cons c' cs =>
      simp only [List.all_cons, Bool.and_eq_true] at hd
      cases cs with
      | nil =>
        refine ⟨strip c', rfl, ?_⟩
        cases c' with
        | sl r l tok =>
          cases tok with
          | zero => cases h1; exact strip_rep (c := .sl r l 0) hle rfl h2
          | succ n => cases h1; exact strip_rep (c := .sl r l (k + 1)) hle rfl h2
        | _ => cases h1; exact strip_rep hle hd.1 h2
      | cons d ds =>
        exfalso
        cases c' with
        | sl r l tok =>
          cases tok <;> (simp only [adoptCs] at h1; injection h1 with _ h1; cases d with
            | sl r l tok => cases tok <;> simp [adoptCs] at h1
            | _ => simp [adoptCs] at h1)
        | _ => simp only [adoptCs] at h1; injection h1 with _ h1; cases d with
            | sl r l tok => cases tok <;> simp [adoptCs] at h1
            | _ => simp [adoptCs] at h1

theorem stripT_rep (hle : ∀ b o, okG E G' b o → okG E G b o) : ∀ {ps : List (Bool × List Cell)} {k : Nat} {us : List Value}, ps.all (fun p => p.2.all dataC) = true → RepT E G' w (adoptT k ps) us → RepT E G w (ps.map fun p => (p.1, p.2.map strip)) us
  | [], _, us, _, h => h
  | (g, cs) :: ps, k, us, hd, h => by
    simp only [List.all_cons, Bool.and_eq_true] at hd
    obtain ⟨u, us', rfl, h1, h2⟩ := h
    exact ⟨u, us', rfl, adoptB_rep hle hd.1 h1, stripT_rep hle hd.2 h2⟩

theorem stripP_rep (hle : ∀ b o, okG E G' b o → okG E G b o) {v : PV} {k : Nat} {x : Value} (hd : v.data = true) (h : RepP E G' w (v.adopt k) x) : RepP E G w v.strip x := by
  cases v with
  | one c =>
    have hd' : dataC c = true := hd
    cases c with
    | sl r l tok =>
      cases tok with
      | zero => exact strip_rep (c := .sl r l 0) hle rfl h
      | succ n => exact strip_rep (c := .sl r l (k + 1)) hle rfl h
    | val v => exact strip_rep (w := w) hle hd' h
    | nil => exact strip_rep (w := w) hle hd' h
    | box b o => cases hd'
    | elt r y o => cases hd'
    | clo f cs => exact strip_rep (w := w) hle hd' h
  | agg cs => obtain ⟨us, h1, h2⟩ := h; exact ⟨us, h1, stripCs_rep hle hd h2⟩
  | tup ps => obtain ⟨us, h1, h2⟩ := h; exact ⟨us, h1, stripT_rep hle hd h2⟩
  | no => exact h

theorem okG_le {s' : St} (hm : Mono E G w G' w') (ht : ∀ e ∈ G.tk, e ∈ G'.tk) : ∀ b o, okG E G' b o → okG E G b o := by
  intro b o ho
  refine ⟨ho.1, fun hb => ?_, fun e he hb => ho.2.2 e (ht e he) hb⟩
  obtain ⟨i, hi⟩ := List.getElem?_of_mem hb
  exact ho.2.1 (List.mem_iff_getElem?.2 ⟨i, hm.rho _ _ hi⟩)

def SpecsOK (P : Program) (cx : Ctx) : Prop := ∀ f g, cx.spec f = some g → SpecOK P f g

theorem val_cases {q : R} {v : PV} (h : q.val = some (true, v)) : q = .ok v ∨ q = .chk true v := by
  cases q with
  | no => cases h
  | ok u => cases h; exact .inl rfl
  | chk c u => cases h; exact .inr rfl

/-- A call whose value is told by its function's specification. -/
theorem callR_sound {cx : Ctx} (hsp : SpecsOK P cx) {fv : PV} {xs : Option (List PV)} {v : PV} (h : (callR cx fv xs).val = some (true, v)) :
    ∃ (f : FuncId) (vs : List PV) (v0 : PV), fv = .one (.clo f []) ∧ xs = some vs ∧ v = v0.strip ∧ v0.data = true ∧ ∀ E G w s, SimM E G w s → ∀ us : List Value, RepPs E G w vs us → Callable P f ∧ Calls P f us.toArray w (fun e w' => ∃ x, e = .returned x ∧ Below w.heap.size w w' ∧ RepP E G w' v x) := by
  have h' := val_cases h
  clear h
  unfold callR at h'
  split at h'
  · rename_i f vs
    split at h'
    · rename_i g hg
      split at h'
      · rename_i c v0 hv
        cases hd : v0.data with
        | false => rw [hd] at h'; simp at h'
        | true =>
          rw [hd] at h'
          simp at h'
          obtain ⟨rfl, rfl⟩ := h'
          refine ⟨f, vs, v0, rfl, rfl, rfl, hd, fun E G w s hm us hus => ?_⟩
          obtain ⟨h1, h2⟩ := hsp f g hg vs v0 hv E G w s hm us hus
          refine ⟨h1, h2.mono ?_⟩
          rintro e w' ⟨x, rfl, hb, G', g1, g2, g3, g4⟩
          exact ⟨x, rfl, hb, stripP_rep (okG_le (s' := s) g3.mono g4) hd g1⟩
      · simp at h'
    · simp at h'
  · simp at h'

theorem opP_sound {cx : Ctx} (htab : TabOk P cx.ti) (hsp : SpecsOK P cx) {ids : List (Nat × Bool)} {calls : Bool} {o : Oper} {v : PV} (h : (opP cx s ids calls o.op).val = some (true, v)) (ht : SimT E G w s a) (hb : SimB E G w s) {sm : St} (hm : SimM E G w sm) (hi : IdsHold a ids) {K : Act → World → Prop} {Q : Exit → Act → World → Prop}
    (hn : ∀ x w', Below w.heap.size w w' → RepP E G w' v x → K (a.put o.dst x) w') : o.wp P a w K Q := by
  have pure : (opV cx.ti s ids o.op).val = some (true, v) → o.wp P a w K Q := by
    intro h
    obtain ⟨x, h1, h2⟩ := opV_sound htab ht hb hi o v h
    unfold Oper.wp
    rw [h1 w (Below.refl _ _), Oper.upon_value]
    exact hn x w (Below.refl _ _) h2
  cases hop : o.op with
  | call c =>
    obtain ⟨callee, as, ts⟩ := c
    cases callee with
    | value fo =>
      rw [hop] at h
      simp only [opP] at h
      split at h
      · rename_i fv hf
        obtain ⟨f, vs, v0, rfl, hvs, _, _, hcall⟩ := callR_sound hsp h
        obtain ⟨us, hfe, hcap⟩ := (ev_rep ht hi hf : RepP E G w (.one (.clo f [])) _)
        have hus : us = [] := hcap
        subst hus
        obtain ⟨h1, h2⟩ := hcall E G w sm hm _ (evArgs_rep ht hi hvs)
        unfold Oper.wp
        rw [run_call_value h1 hop hfe, Oper.upon_enter]
        refine h2.mono ?_
        rintro e w' ⟨x, rfl, hb, hr⟩
        exact hn x w' hb hr
      · simp [R.val] at h
    | invoke r m => rw [hop] at h; simp only [opP] at h; exact pure (by rw [hop]; exact h)
    | builtin b => rw [hop] at h; simp only [opP] at h; exact pure (by rw [hop]; exact h)
  | _ => rw [hop] at h; simp only [opP] at h; exact pure (by rw [hop]; exact h)

theorem Sim.below (h : Sim E G w s a) (hb : Below w.heap.size w w') : Sim E G w' s a := ⟨h.t.mono (.below hb) rfl rfl, h.m.below hb⟩

theorem put_frame (a : Act) (dst : Option Nat) (x : Value) (d : Nat) (h : dst ≠ some d) : (a.put dst x).tmps.getD d undef = a.tmps.getD d undef := by
  cases dst with
  | none => rfl
  | some k => rw [put_getD, if_neg (fun he => h (by rw [he.1]))]

theorem putK_sound {ρ : Type} {dst : Option Nat} {ids : List (Nat × Bool)} {v : PV} {k : St → Option ρ} {r : ρ} (h : putK s dst ids v k = some r) (hs : Sim E G w s a) {x : Value} (hx : (IdsHold a ids ∧ RepP E G w v x) ∨ (¬ IdsHold a ids ∧ x = undef)) :
    ∃ s', Sim E G w s' (a.put dst x) ∧ Fr E G w s G w s' ∧ k s' = some r := by
  unfold putK at h
  split at h
  · rename_i s' hp
    obtain ⟨h1, h2, h3, h4, h5, h6, h7⟩ := simT_put hs.t hp hx
    exact ⟨s', ⟨h1, hs.m.congr h2 h3 h4⟩, ⟨.refl _ _ _, fun i blk arr T _ hh => ⟨arr, hh, rfl, fun _ _ _ => rfl⟩, Nat.le_refl _, h5, h6, h7⟩, h⟩
  · cases h

theorem denOp_sound {ρ : Type} {cx : Ctx} (htab : TabOk P cx.ti) (hsp : SpecsOK P cx) {CS : CallSem ρ} (hcs : CSOK P CS) {ops : Array Oper} {o : Oper} {k : St → Option ρ} {r : ρ} (h : denOp cx CS ops o k s = some r) (hs : Sim E G w s a)
    {K : Act → World → Prop} {Q : Exit → Act → World → Prop}
    (hn : ∀ a' w' s' G', Sim E G' w' s' a' → Fr E G w s G' w' s' → (∀ d, o.dst ≠ some d → a'.tmps.getD d undef = a.tmps.getD d undef) → k s' = some r → K a' w') :
    if Region.wanted o (yielded ops a.tmps) then o.wp P a w K Q else K (a.put o.dst undef) w := by
  obtain ⟨hgr, hgs⟩ := guard_sound hs.t (ops := ops) (o := o)
  have skip : ∀ ids v, putK s o.dst ids v k = some r → ((IdsHold a ids ∧ RepP E G w v undef) ∨ ¬ IdsHold a ids) → K (a.put o.dst undef) w := by
    intro ids v hp hx
    obtain ⟨s', h1, h2, h3⟩ := putK_sound hp hs (x := undef) (by rcases hx with hx | hx; exact .inl hx; exact .inr ⟨hx, rfl⟩)
    exact hn _ _ s' G h1 h2 (fun d hd => put_frame a _ _ d hd) h3
  unfold denOp at h
  split at h
  · cases h
  · rename_i hg
    rw [hgs hg]
    exact skip [] .no h (.inl ⟨fun p hp => (by cases hp), rfl⟩)
  · rename_i ids g hg
    obtain ⟨h1, h2, h3⟩ := hgr ids g hg
    have done : ∀ v, (opP cx s ids g.isSome o.op).val = some (true, v) → putK s o.dst ids v k = some r → IdsHold a ids → o.wp P a w K Q := by
      intro v hv hp hi
      refine opP_sound htab hsp hv hs.t hs.m.b hs.m hi fun x w' hb hx => ?_
      obtain ⟨s', g1, g2, g3⟩ := putK_sound hp (hs.below hb) (x := x) (.inl ⟨hi, hx⟩)
      exact hn _ _ s' G g1 ((Fr.below hb (.below hb) rfl rfl rfl : Fr E G w s G w' s).trans g2) (fun d hd => put_frame a _ _ d hd) g3
    split at h
    · rename_i v hv
      by_cases hw : Region.wanted o (yielded ops a.tmps) = true
      · rw [if_pos hw]
        exact done v (by rw [hv]; rfl) h (h1.1 hw)
      · rw [if_neg hw]
        exact skip ids v h (.inr fun hi => hw (h1.2 hi))
    · rename_i c v hv
      by_cases hw : Region.wanted o (yielded ops a.tmps) = true
      · rw [if_pos hw]
        have hi := h1.1 hw
        have hc : c = true ∧ putK s o.dst ids v k = some r := by
          split at h
          · cases c with
            | true => exact ⟨rfl, h⟩
            | false => cases h
          · rename_i q
            have hq := (h3 q rfl).1 hi
            subst hq
            cases c with
            | true => exact ⟨rfl, h⟩
            | false => cases h
        obtain ⟨rfl, hp⟩ := hc
        exact done v (by rw [hv]; rfl) hp hi
      · rw [if_neg hw]
        have hp : putK s o.dst ids v k = some r := by
          split at h
          · cases c with
            | true => exact h
            | false => cases h
          · rename_i q
            cases hq : (!q || c) with
            | true => rw [hq] at h; exact h
            | false => rw [hq] at h; cases h
        exact skip ids v hp (.inr fun hi => hw (h1.2 hi))
    · have memcase : ∀ ids', IdsHold a ids' → denMem cx CS s ids' o.op (fun v s' => putK s' o.dst ids' v k) = some r → o.wp P a w K Q := by
        intro ids' hi hd
        refine denMem_sound htab hcs hd hs.m hs.t hi fun x w' hx => ?_
        obtain ⟨v, s1, G1, g1, g2, g3, g4, g5⟩ := hx
        obtain ⟨s', q1, q2, q3⟩ := putK_sound g5 (⟨hs.t.mono g3.mono g4 g3.n, g2⟩ : Sim E G1 w' s1 a) (x := x) (.inl ⟨hi, g1⟩)
        exact hn _ _ s' G1 q1 (g3.trans q2) (fun d hd => put_frame a _ _ d hd) q3
      cases g with
      | none =>
        have hids := h2 rfl
        subst hids
        have hw := h1.2 (fun p hp => (by cases hp))
        rw [if_pos hw]
        exact memcase [] (fun p hp => (by cases hp)) h
      | some q =>
        dsimp only at h
        rcases ids with _ | ⟨⟨t, b⟩, _ | ⟨p2, l⟩⟩
        · cases h
        · by_cases hq : q = true
          · subst hq
            have hi := (h3 true rfl).2 t b rfl rfl
            rw [if_pos (h1.2 hi)]
            exact memcase _ hi h
          · have hq' : q = false := by simpa using hq
            subst hq'
            have hni : ¬ IdsHold a [(t, b)] := fun hi => by have := (h3 false rfl).1 hi; cases this
            have hw : ¬ Region.wanted o (yielded ops a.tmps) = true := fun hw => hni (h1.1 hw)
            rw [if_neg hw]
            exact skip [] .no h (.inl ⟨fun p hp => (by cases hp), rfl⟩)
        · cases h

theorem denOps_sound {ρ : Type} {cx : Ctx} (htab : TabOk P cx.ti) (hsp : SpecsOK P cx) {CS : CallSem ρ} (hcs : CSOK P CS) {ops : Array Oper} {k : St → Option ρ} {r : ρ} {Q : Exit → Act → World → Prop} :
    ∀ (os : List Oper) (i : Nat), os = ops.toList.drop i → ∀ {s : St} {a : Act} {w : World} {G : Gh}, denOps cx CS ops os k s = some r → Sim E G w s a →
      (∀ a' w' s' G', Sim E G' w' s' a' → Fr E G w s G' w' s' → (∀ d, d ∉ os.filterMap (·.dst) → a'.tmps.getD d undef = a.tmps.getD d undef) → k s' = some r → Q .normal a' w') →
      wpOps P ops Q (List.range' i os.length) a w
  | [], i, _, s, a, w, G, h, hs, hQ => hQ a w s G hs (Fr.refl _ _ _ _) (fun _ _ => rfl) h
  | o :: os, i, hos, s, a, w, G, h, hs, hQ => by
    have hoi : ops[i]? = some o := by
      rw [← Array.getElem?_toList]
      have : (ops.toList.drop i)[0]? = some o := by rw [← hos]; rfl
      rwa [List.getElem?_drop, Nat.add_zero] at this
    have hos' : os = ops.toList.drop (i + 1) := by
      have : os = (o :: os).drop 1 := rfl
      rw [this, hos, List.drop_drop]
    simp only [List.length_cons, List.range'_succ]
    simp only [wpOps, hoi]
    have := denOp_sound (P := P) (E := E) (G := G) (w := w) (a := a) htab hsp hcs (ops := ops) (o := o) (k := denOps cx CS ops os k) (r := r) h hs (K := wpOps P ops Q (List.range' (i + 1) os.length)) (Q := Q) (by
      intro a' w' s' G' h1 h2 h3 h4
      refine denOps_sound htab hsp hcs os (i + 1) hos' h4 h1 fun a'' w'' s'' G'' q1 q2 q3 q4 => ?_
      refine hQ a'' w'' s'' G'' q1 (h2.trans q2) (fun d hd => ?_) q4
      have hd1 : d ∉ os.filterMap (·.dst) := fun hm => by
        obtain ⟨o', ho', e'⟩ := List.mem_filterMap.1 hm
        exact hd (List.mem_filterMap.2 ⟨o', List.mem_cons_of_mem _ ho', e'⟩)
      have hd2 : o.dst ≠ some d := fun he => hd (List.mem_filterMap.2 ⟨o, List.mem_cons_self, he⟩)
      rw [q3 d hd1, h3 d hd2])
    by_cases hw : Region.wanted o (yielded ops a.tmps) = true
    · rw [if_pos hw] at this ⊢
      exact .inl this
    · rw [if_neg hw] at this ⊢
      exact this

end
end Go.PM
