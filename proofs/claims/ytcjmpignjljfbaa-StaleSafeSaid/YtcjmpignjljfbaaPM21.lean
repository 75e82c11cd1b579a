/- The pure machine, part 21: calls of functions by their bodies. -/
import Derived.Test.YtcjmpignjljfbaaPM20
namespace Go.PM
open Go.RowKit
set_option linter.unusedVariables false
set_option linter.unusedSimpArgs false

/-- A call's body, run in its own frame over the same boxes. -/
def callBody {ρ : Type} (cx : Ctx) (CS : CallSem ρ) (fd : Body) (vs : List PV) (s : St) (k : PV → St → Option ρ) : Option ρ :=
  den cx CS fd.hints 0 fd.code (fun e s' => match e with
    | .exit _ => none
    | _ => match retPV cx s' fd.results with
      | some v => k v { s' with t := s.t, n := s.n, fresh := s.fresh, wr := s.wr }
      | none => none)
    { s with t := argsT 0 vs, n := vs.length + (fd.ntmps - vs.length) }

def calls {ρ : Type} (cx : Ctx) (fds : FuncId → Option Body) : Nat → CallSem ρ
  | 0, f, vs, s, k => (match cx.spec f with
    | some g => callSpec cx g vs s k
    | none => none)
  | d + 1, f, vs, s, k => (match cx.spec f with
    | some g => callSpec cx g vs s k
    | none => (match fds f with
      | some fd => callBody cx (calls cx fds d) fd vs s k
      | none => none))

def St.bare : St := { t := [], b := [], live := [], nt := 0, fresh := 0, wr := [], n := 0 }

/-- A call's body run alone, on data, to a result without names. -/
def runSpec (cx : Ctx) (CS : CallSem PV) (fd : Body) (vs : List PV) : Option PV :=
  callBody cx CS fd vs St.bare fun v _ => bif v.data then some v.strip else none

structure FnOK (P : Program) (f : FuncId) (fd : Body) (fn : Func) : Prop where
  ok : P.funcs[f]? = some fn
  name : (fn.name == "runtime.NumGoroutine") = false
  body : fn.body = some fd.code
  ntmps : fn.ntmps = fd.ntmps
  res : fn.results = fd.results.toArray

def FdsOK (P : Program) (fds : FuncId → Option Body) : Prop := ∀ f fd, fds f = some fd → ∃ fn, FnOK P f fd fn

section
variable {P : Program} {E : Env} {G G' : Gh} {w w' : World} {s s' : St} {a a' : Act}

theorem FnOK.callable {f : FuncId} {fd : Body} {fn : Func} (h : FnOK P f fd fn) : Callable P f := ⟨fn, h.ok, h.name, by rw [h.body]; rfl⟩

/-- How a result is read. -/
def resV (tmps : Array Value) : ResultVar → Sem Value
  | .tmp t => pure (tmps.getD t undef)
  | .cell a t => do loadVar t (← asAddr (tmps.getD a undef))

theorem retOne_run {cx : Ctx} (htab : TabOk P cx.ti) (hs : Sim E G w s a) {rv : ResultVar} {p : Bool × List Cell} (h : retOne cx s rv = some p) : ∃ u, (resV a.tmps rv).run P w = .ok u w ∧ RepB E G w p u := by
  cases rv with
  | tmp t =>
    simp only [retOne] at h
    split at h
    · rename_i c hg
      cases h
      exact ⟨_, rfl, c, rfl, hs.one hg⟩
    · rename_i cs hg
      cases h
      rcases hs.t.tm _ _ _ (getT_mem hg) with ⟨_, h2⟩ | ⟨h2, _⟩
      · exact ⟨_, rfl, h2⟩
      · exact (h2 (idsHold_nil a)).elim
    · cases h
  | cell p t =>
    simp only [retOne] at h
    split at h
    · rename_i ty c hty hg
      split at h
      · rename_i cs off hd
        obtain ⟨ad, h1, h2⟩ := deref_rep hs.m.b (hs.one hg) hd
        have hgv := cellsAt_gives (off := off) h2 (tiB_ok (htab _ _ hty))
        have run : ∀ v, cellsAt ty.isAgg ty.size off cs = .ok v → ∃ u, (resV a.tmps (.cell p t)).run P w = .ok u w ∧ RepP E G w v u := by
          intro v hv
          obtain ⟨x, hx, hr⟩ := hgv v (by rw [hv]; rfl)
          refine ⟨x, ?_, hr⟩
          show (do loadVar t (← asAddr (a.tmps.getD p undef)) : Sem Value).run P w = .ok x w
          rw [h1]
          simp only [asAddr, pure_bind]
          exact hx w (.refl _ _)
        split at h
        · rename_i c' hc'
          cases h
          obtain ⟨u, h3, h4⟩ := run _ hc'
          exact ⟨u, h3, c', rfl, h4⟩
        · rename_i cs' hc'
          cases h
          obtain ⟨u, h3, h4⟩ := run _ hc'
          exact ⟨u, h3, h4⟩
        · cases h
      · cases h
    · cases h

theorem retAll_run {cx : Ctx} (htab : TabOk P cx.ti) (hs : Sim E G w s a) : ∀ {rs : List ResultVar} {ps : List (Bool × List Cell)}, retAll cx s rs = some ps →
    ∃ us, (rs.mapM (resV a.tmps)).run P w = .ok us w ∧ RepT E G w ps us ∧ us.length = rs.length
  | [], ps, h => by simp [retAll] at h; subst h; exact ⟨[], by simp, rfl, rfl⟩
  | rv :: rs, ps, h => by
    simp only [retAll] at h
    split at h
    · rename_i p ps' h1 h2
      cases h
      obtain ⟨u, g1, g2⟩ := retOne_run htab hs h1
      obtain ⟨us, k1, k2, k3⟩ := retAll_run htab hs h2
      refine ⟨u :: us, ?_, ⟨u, us, rfl, g2, k2⟩, by simp [k3]⟩
      rw [List.mapM_cons]
      simp [g1, k1]
    · cases h

theorem results_run {cx : Ctx} (htab : TabOk P cx.ti) (hs : Sim E G w s a) {fn : Func} {rs : List ResultVar} (hf : fn.results = rs.toArray) {v : PV} (h : retPV cx s rs = some v) :
    ∃ x, (results fn a.tmps).run P w = .ok x w ∧ RepP E G w v x := by
  have go : ∀ ps, retAll cx s rs = some ps → ∃ us, (rs.mapM (resV a.tmps)).run P w = .ok us w ∧ RepT E G w ps us ∧ us.length = rs.length := fun ps hp => retAll_run htab hs hp
  have fin : ∀ us : List Value, (rs.mapM (resV a.tmps)).run P w = .ok us w → (results fn a.tmps).run P w = .ok (if h : us.toArray.size = 1 then us.toArray[0] else .tuple us.toArray) w := by
    intro us hr
    unfold results
    rw [hf, List.mapM_toArray]
    simp only [Sem.run_bind, Sem.run_map]
    have hcong : ∀ g : ResultVar → Sem Value, g = resV a.tmps → (rs.mapM g).run P w = .ok us w := fun g hg => by rw [hg]; exact hr
    rw [hcong _ (by funext x; cases x <;> rfl)]
    simp
  have len : ∀ {ps : List (Bool × List Cell)} {us : List Value}, RepT E G w ps us → us.length = ps.length := by
    intro ps
    induction ps with
    | nil => intro us h; rw [show us = [] from h]; rfl
    | cons p ps ih => intro us h; obtain ⟨u, us', rfl, _, h3⟩ := h; simp [ih h3]
  unfold retPV at h
  split at h
  · rename_i c hp
    cases h
    obtain ⟨us, h1, h2, h3⟩ := go _ hp
    obtain ⟨u, us', rfl, ⟨c', hc', hr⟩, h4⟩ := h2
    have : us' = [] := h4
    subst this
    cases hc'
    exact ⟨u, by rw [fin _ h1]; simp, hr⟩
  · rename_i cs hp
    cases h
    obtain ⟨us, h1, h2, h3⟩ := go _ hp
    obtain ⟨u, us', rfl, hr, h4⟩ := h2
    have : us' = [] := h4
    subst this
    exact ⟨u, by rw [fin _ h1]; simp, hr⟩
  · rename_i ps hn1 hn2 hp
    cases h
    obtain ⟨us, h1, h2, h3⟩ := go _ hp
    refine ⟨.tuple us.toArray, ?_, us, rfl, h2⟩
    rw [fin _ h1, dif_neg]
    intro h5
    have hl := len h2
    simp at h5
    rw [h5] at hl
    match ps, hl with
    | [(false, cs)], _ =>
      obtain ⟨u, us', rfl, ⟨c, hc, hr⟩, _⟩ := h2
      subst hc
      exact hn1 c rfl
    | [(true, cs)], _ => exact hn2 cs rfl
  · cases h

theorem argsT_get {vs : List PV} {us : List Value} : RepPs E G w vs us → ∀ (k : Nat) (pre : List Value), pre.length = k → ∀ (post : List Value) d ids v, (d, ids, v) ∈ argsT k vs → ids = [] ∧ RepP E G w v ((pre ++ us ++ post).toArray.getD d undef) := by
  induction vs generalizing us with
  | nil => intro _ k pre _ post d ids v h; simp [argsT] at h
  | cons v0 vs ih =>
    rintro ⟨x, xs, rfl, h1, h2⟩ k pre hk post d ids v h
    simp only [argsT] at h
    rcases List.mem_cons.1 h with he | h
    · cases he
      refine ⟨rfl, ?_⟩
      have : (pre ++ (x :: xs) ++ post).toArray.getD k undef = x := by
        rw [Array.getD_eq_getD_getElem?]
        simp only [List.getElem?_toArray, List.append_assoc, List.cons_append]
        rw [List.getElem?_append_right (by omega), hk]
        simp
      rw [this]; exact h1
    · have := ih h2 (k + 1) (pre ++ [x]) (by simp [hk]) post d ids v h
      simpa using this

theorem RepPs.length : ∀ {vs : List PV} {us : List Value}, RepPs E G w vs us → us.length = vs.length
  | [], us, h => by rw [show us = [] from h]; rfl
  | v :: vs, us, ⟨x, xs, h1, _, h3⟩ => by rw [h1]; simp [RepPs.length h3]

theorem body_sound {ρ : Type} {cx : Ctx} (htab : TabOk P cx.ti) (hsp : SpecsOK P cx) (hmx : P.follows .mixedOrders = true) {CS : CallSem ρ} (hcs : CSOK P CS) {f : FuncId} {fd : Body} {fn : Func} (hf : FnOK P f fd fn)
    {vs : List PV} {k : PV → St → Option ρ} {r : ρ} (h : callBody cx CS fd vs s k = some r) (hm : SimM E G w s) {us : List Value} (hu : RepPs E G w vs us) :
    Calls P f us.toArray w (fun e w' => ∃ x, e = .returned x ∧ Next1 E G w s k r x w') := by
  refine calls_of_wp hf.ok hf.body ?_
  have hlen := hu.length
  refine den_sound (E := E) (G := G) (s := { s with t := argsT 0 vs, n := vs.length + (fd.ntmps - vs.length) }) htab hsp hmx hcs fd.code 0 h ⟨⟨?_, ?_, rfl⟩, hm.congr rfl rfl rfl⟩ ?_
  · intro d ids v hd
    obtain ⟨rfl, hr⟩ := argsT_get hu 0 [] rfl (List.replicate (fn.ntmps - us.length) undef) d ids v hd
    refine .inl ⟨idsHold_nil _, ?_⟩
    have he : us.toArray ++ Array.replicate (fn.ntmps - us.toArray.size) undef = ([] ++ us ++ List.replicate (fn.ntmps - us.length) undef).toArray := by
      apply Array.ext'
      simp
    show RepP E G w v ((us.toArray ++ Array.replicate (fn.ntmps - us.toArray.size) undef).getD d undef)
    rw [he]
    exact hr
  · show (us.toArray ++ Array.replicate (fn.ntmps - us.toArray.size) undef).size = vs.length + (fd.ntmps - vs.length)
    simp [hlen, hf.ntmps]
  · intro e e1 a' w' s' G' he h1 h2 h3 h4
    have fin : a'.defers = [] ∧ ∃ v, (results fn a'.tmps).run P w' = .ok v w' ∧ ∃ x, Ending.returned v = .returned x ∧ Next1 E G w s k r x w' := by
      refine ⟨h1.t.df, ?_⟩
      have h5 : ∃ v, retPV cx s' fd.results = some v ∧ k v { s' with t := s.t, n := s.n, fresh := s.fresh, wr := s.wr } = some r := by
        cases he with
        | exit i => cases h4
        | normal =>
          dsimp only at h4
          split at h4
          · rename_i v hv; exact ⟨v, hv, h4⟩
          · cases h4
        | ret =>
          dsimp only at h4
          split at h4
          · rename_i v hv; exact ⟨v, hv, h4⟩
          · cases h4
      obtain ⟨v, hv, hk⟩ := h5
      obtain ⟨x, hx, hr⟩ := results_run htab h1 hf.res hv
      refine ⟨x, hx, x, rfl, v, { s' with t := s.t, n := s.n, fresh := s.fresh, wr := s.wr }, G', hr, h1.m.congr rfl rfl rfl, ?_, rfl, hk⟩
      exact ⟨h2.mono, fun i blk arr T hi hh => by
          obtain ⟨arr', b1, b2, b3⟩ := h2.box i blk arr T hi hh
          exact ⟨arr', b1, b2, fun off hl hw => b3 off hl hw⟩, h2.size, rfl, rfl, rfl⟩
    cases he with
    | normal => exact fin
    | ret => exact fin
    | exit i => cases h4

theorem calls_sound {ρ : Type} {cx : Ctx} (htab : TabOk P cx.ti) (hsp : SpecsOK P cx) (hmx : P.follows .mixedOrders = true) {fds : FuncId → Option Body} (hfd : FdsOK P fds) : ∀ d : Nat, CSOK (ρ := ρ) P (calls cx fds d) := by
  have spec : ∀ {f g vs s} {k : PV → St → Option ρ} {r}, cx.spec f = some g → callSpec cx g vs s k = some r → ∀ E G w, SimM E G w s → ∀ us : List Value, RepPs E G w vs us →
      Callable P f ∧ Calls P f us.toArray w (fun e w' => ∃ x, e = .returned x ∧ Next1 E G w s k r x w') := by
    intro f g vs s k r hg h E G w hm us hu
    unfold callSpec at h
    split at h
    · rename_i c v hv
      cases c with
      | false => cases h
      | true =>
        simp only [cond_true] at h
        obtain ⟨h1, h2⟩ := hsp f g hg vs v hv E G w s hm us hu
        refine ⟨h1, h2.mono ?_⟩
        rintro e w' ⟨x, rfl, _, G', h3, h4, h5, _⟩
        exact ⟨x, rfl, _, _, G', h3, h4, h5, rfl, h⟩
    · cases h
  intro d
  induction d with
  | zero =>
    intro f vs s k r h E G w hm us hu
    simp only [calls] at h
    split at h
    · rename_i g hg; exact spec hg h E G w hm us hu
    · cases h
  | succ d ih =>
    intro f vs s k r h E G w hm us hu
    simp only [calls] at h
    split at h
    · rename_i g hg; exact spec hg h E G w hm us hu
    · split at h
      · rename_i fd hfd'
        obtain ⟨fn, hfn⟩ := hfd f fd hfd'
        exact ⟨hfn.callable, body_sound htab hsp hmx ih hfn h hm hu⟩
      · cases h

end
end Go.PM
