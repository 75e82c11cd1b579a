/- The pure machine, part 14: calls, and each operation that makes or writes memory. -/
import Derived.Test.YtcjmpignjljfbaaPM13
namespace Go.PM
open Go.RowKit
set_option linter.unusedVariables false
set_option linter.unusedSimpArgs false

def RepPs (E : Env) (G : Gh) (w : World) : List PV → List Value → Prop
  | [], us => us = []
  | v :: vs, us => ∃ x xs, us = x :: xs ∧ RepP E G w v x ∧ RepPs E G w vs xs

/-- A function that is entered by a call. -/
def Callable (P : Program) (f : FuncId) : Prop := ∃ fn, P.funcs[f]? = some fn ∧ (fn.name == "runtime.NumGoroutine") = false ∧ fn.body.isNone = false

def CSOK {ρ : Type} (P : Program) (CS : CallSem ρ) : Prop :=
  ∀ f vs s k r, CS f vs s k = some r → ∀ E G w, SimM E G w s → ∀ us : List Value, RepPs E G w vs us →
    Callable P f ∧ Calls P f us.toArray w (fun e w' => ∃ x, e = .returned x ∧ Next1 E G w s k r x w')

/-- A function gives what its specification says; its result's own slices are named, nothing that was there turns. -/
def SpecOK (P : Program) (f : FuncId) (g : Spec) : Prop :=
  ∀ vs v, g vs = some (true, v) → ∀ E G w s, SimM E G w s → ∀ us : List Value, RepPs E G w vs us →
    Callable P f ∧ Calls P f us.toArray w (fun e w' => ∃ x, e = .returned x ∧ Below w.heap.size w w' ∧
      ∃ G', RepP E G' w' (v.adopt s.nt) x ∧ SimM E G' w' (s.adopt v) ∧ Fr E G w s G' w' (s.adopt v) ∧ ∀ e ∈ G.tk, e ∈ G'.tk)

section
variable {P : Program} {E : Env} {G G' : Gh} {w w' : World} {s : St}

theorem RepPs.mono (h : Mono E G w G' w') : ∀ {vs : List PV} {us : List Value}, RepPs E G w vs us → RepPs E G' w' vs us
  | [], _, hc => hc
  | _ :: _, _, ⟨x, xs, h1, h2, h3⟩ => ⟨x, xs, h1, h2.mono h, RepPs.mono h h3⟩

theorem evArgs_rep {a : Act} (ht : SimT E G w s a) {ids : List (Nat × Bool)} (hi : IdsHold a ids) : ∀ {xs : List Operand} {vs : List PV}, evArgs (s.ev ids) xs = some vs → RepPs E G w vs (xs.map a.eval)
  | [], vs, h => by simp [evArgs] at h; subst h; rfl
  | x :: xs, vs, h => by
    simp only [evArgs] at h
    split at h
    · rename_i v vs' hv hvs
      cases h
      exact ⟨_, _, rfl, ev_rep ht hi hv, evArgs_rep ht hi hvs⟩
    · cases h

theorem run_callFunc {f : FuncId} (hc : Callable P f) (args : Array Value) (w : World) : (callFunc f args).run P w = .ok (.enter f args) w := by
  obtain ⟨fn, h1, h2, h3⟩ := hc
  unfold callFunc
  simp only [Sem.run_bind, run_program, Result.andThen_ok, h1, h2, h3, Bool.false_eq_true, if_false, Sem.run_pure]

theorem run_call_value {f : FuncId} (hc : Callable P f) {a : Act} {o : Oper} {fo : Operand} {as : Array Operand} {ts : Array TypeId} (hop : o.op = .call { callee := .value fo, args := as, argTypes := ts })
    (hf : a.eval fo = .func (.func f) #[] #[]) (w : World) : (execOp a.eval o).run P w = .ok (.enter f (as.toList.map a.eval).toArray) w := by
  simp only [execOp, hop, resolve, hf, Deferred.ofValue, pure_bind, invoke]
  rw [run_callFunc hc]
  congr 2
  apply Array.ext'
  simp

theorem denMem_sound {ρ : Type} {cx : Ctx} (htab : TabOk P cx.ti) {CS : CallSem ρ} (hcs : CSOK P CS) {a : Act} {o : Oper} {ids : List (Nat × Bool)} {k : PV → St → Option ρ} {r : ρ} (h : denMem cx CS s ids o.op k = some r)
    (hm : SimM E G w s) (ht : SimT E G w s a) (hi : IdsHold a ids) {next : Act → World → Prop} {Q : Exit → Act → World → Prop} (hn : ∀ x w', Next1 E G w s k r x w' → next (a.put o.dst x) w') : o.wp P a w next Q := by
  have val : ∀ (sm : Sem Value) x w', sm.run P w = .ok x w' → Next1 E G w s k r x w' → (execOp a.eval o).run P w = ((do pure (Next.value (← sm)) : Sem Next)).run P w → o.wp P a w next Q := by
    intro sm x w' h1 h2 h3
    unfold Oper.wp
    rw [h3]
    simp only [Sem.run_bind, h1, Result.andThen_ok, Sem.run_pure, Oper.upon_value]
    exact hn x w' h2
  cases hop : o.op with
  | alloc t =>
    rw [hop] at h
    simp only [denMem] at h
    split at h
    · rename_i ty hty
      split at h
      · rename_i cs hcs'
        have hT := tiB_ok (htab _ _ hty)
        obtain ⟨i, z, hinfo, hsz, hz, hpv⟩ := hT.info
        have hr := pvCells_rep (pvIs_rep hpv : RepP E G w ty.zero z) hcs'
        refine val (Instr.alloc t true (.tuple #[])) _ _ ?_ (box_next hm hr t h) (by simp only [execOp, hop])
        unfold Instr.alloc
        have hz' : (zeroValue t).run P w = .ok z w := by simp [zeroValue, typeInfo, hinfo, hz]
        simp only [Sem.run_bind, hz', Result.andThen_ok]
        rfl
      · cases h
    · cases h
  | box t x =>
    rw [hop] at h
    simp only [denMem] at h
    split at h
    · rename_i v hv
      split at h
      · rename_i cs hcs'
        have hr := pvCells_rep (ev_rep ht hi hv) hcs'
        exact val (Instr.box t (a.eval x)) _ _ rfl (box_next hm hr t h) (by simp only [execOp, hop])
      · cases h
    · cases h
  | store t x y =>
    rw [hop] at h
    simp only [denMem] at h
    split at h
    · rename_i ty b off v hty hx hy
      split at h
      · rename_i vs cs hvs hcs'
        cases hc : (Nat.beq vs.length ty.size && (Nat.ble (off + vs.length) cs.length && mayWrite s b off vs.length)) with
        | false => rw [hc] at h; cases h
        | true =>
          rw [hc] at h
          simp only [cond_true] at h
          simp only [Bool.and_eq_true, Nat.beq_eq, Nat.ble_eq] at hc
          obtain ⟨i, z, hinfo, hsz, _⟩ := (tiB_ok (htab _ _ hty)).info
          obtain ⟨w', h1, h2⟩ := store_next (P := P) (k := k) (r := r) hm hinfo (by omega) (pvCells_rep (ev_rep ht hi hy) hvs) hcs' hc.2.1 hc.2.2 (ev_rep ht hi hx : RepP E G w (.one (.box b off)) _) h
          unfold Oper.wp
          simp only [execOp, hop, Sem.run_bind, h1, Result.andThen_ok, Sem.run_pure, Oper.upon_skip]
          exact hn _ _ h2
      · cases h
    · cases h
  | buildSlice t len ps =>
    rw [hop] at h
    simp only [denMem] at h
    split at h
    · rename_i e es eb row l hty hl
      cases hc : (Nat.beq es (sz row) && (Nat.blt 0 es && (Nat.beq l.length len && (inOrder 0 l && Nat.ble (len * es) 16777216)))) with
      | false => rw [hc] at h; cases h
      | true =>
        rw [hc] at h
        simp only [cond_true] at h
        simp only [Bool.and_eq_true, Nat.beq_eq, Nat.ble_eq, Nat.blt_eq] at hc
        obtain ⟨c1, c2, c3, c4, c5⟩ := hc
        split at h
        · rename_i xs hxs
          obtain ⟨x, w', h1, h2⟩ := buildSlice_next (k := k) (r := r) hm ht hi (tiB_ok (htab _ _ hty)) hl c1 c2 c3 c4 c5 hxs h
          exact val _ _ _ h1 h2 (by simp only [execOp, hop])
        · cases h
    · cases h
  | call c =>
    rw [hop] at h
    obtain ⟨callee, as, ts⟩ := c
    cases callee with
    | invoke rc m => simp [denMem] at h
    | value fo =>
      simp only [denMem] at h
      split at h
      · rename_i f vs hf hvs
        obtain ⟨us, hfe, hcap⟩ := (ev_rep ht hi hf : RepP E G w (.one (.clo f [])) _)
        have hus : us = [] := hcap
        subst hus
        obtain ⟨hcall, hcalls⟩ := hcs f vs s k r h E G w hm _ (evArgs_rep ht hi hvs)
        unfold Oper.wp
        rw [run_call_value hcall hop hfe, Oper.upon_enter]
        refine hcalls.mono ?_
        rintro e w' ⟨x, rfl, hx⟩
        exact hn x w' hx
      · cases h
    | builtin b =>
      cases b <;> first | (simp [denMem] at h; done) | skip
      simp only [denMem] at h
      split at h
      · rename_i x y t u has hts
        have ha : as = #[x, y] := Array.ext' has
        have htt : ts = #[t, u] := Array.ext' hts
        subst ha; subst htt
        cases hc : Nat.beq t u with
        | false => rw [hc] at h; cases h
        | true =>
          rw [hc] at h
          simp only [cond_true] at h
          rw [Nat.beq_eq] at hc
          subst hc
          split at h
          · rename_i e es eb row c d hty hx hy
            split at h
            · rename_i q c' s' hap
              cases q with
              | false => cases h
              | true =>
                simp only [cond_true] at h
                obtain ⟨z, w', h1, h2⟩ := append_next (ty := o.type) (k := k) (r := r) hm (tiB_ok (htab _ _ hty)) (ev_rep ht hi hx) (ev_rep ht hi hy) hap h
                refine val (Builtin.append_ #[t, t] o.type #[a.eval x, a.eval y]) _ _ h1 h2 ?_
                simp only [execOp, hop, resolve, pure_bind, invoke, builtin]
                simp
            · cases h
          · cases h
      · cases h
  | _ => rw [hop] at h; simp [denMem] at h

end
end Go.PM
