/- The pure machine, part 24: functions of typed data. -/
import Derived.Test.YtcjmpignjljfbaaPM23
namespace Go.PM
open Go.RowKit
set_option linter.unusedVariables false
set_option linter.unusedSimpArgs false

inductive Sh where
  | one
  | agg (n : Nat)
  | tup (l : List (Bool × Nat))

def tupCs : List (Bool × Nat) → List (Bool × List Cell) → Option (List Cell)
  | [], [] => some []
  | (g, n) :: l, (g', cs) :: ps => bif (g == g') && Nat.beq cs.length n then (match tupCs l ps with
    | some r => some (cs ++ r)
    | none => none) else none
  | _, _ => none

def tupOf : List (Bool × Nat) → List Cell → List (Bool × List Cell)
  | [], _ => []
  | (g, n) :: l, cs => (g, cs.take n) :: tupOf l (cs.drop n)

def Sh.cs : Sh → PV → Option (List Cell)
  | .one, .one c => some [c]
  | .agg n, .agg cs => bif Nat.beq cs.length n then some cs else none
  | .tup l, .tup ps => tupCs l ps
  | _, _ => none

def Sh.pv : Sh → List Cell → PV
  | .one, [c] => .one c
  | .agg _, cs => .agg cs
  | .tup l, cs => .tup (tupOf l cs)
  | _, _ => .no

def argCs : List Sh → List PV → Option (List Cell)
  | [], [] => some []
  | .one :: ss, .one c :: vs => (match argCs ss vs with
    | some l => some (c :: l)
    | none => none)
  | .agg n :: ss, .agg cs :: vs => bif Nat.beq cs.length n then (match argCs ss vs with
    | some l => some (cs ++ l)
    | none => none) else none
  | _, _ => none

def argPVs : List Sh → List Cell → List PV
  | [], _ => []
  | .one :: ss, cs => (match cs with
    | c :: cs => .one c :: argPVs ss cs
    | [] => [])
  | .agg n :: ss, cs => .agg (cs.take n) :: argPVs ss (cs.drop n)
  | .tup _ :: _, _ => []

def mkSpec (ss : List Sh) (ra : Row) (sh : Sh) (rb : Row) (C : DenR ra → Bool) (F : DenR ra → DenR rb) : Spec := fun vs =>
  match argCs ss vs with
  | some cs => (match impl ra cs with
    | some x => some (C x, sh.pv (expl rb (F x)))
    | none => none)
  | none => none

/-- A function's body, run alone on typed data to a typed result. -/
def runT (cx : Ctx) {rb : Row} (CS : CallSem (DenR rb)) (fd : Body) (ss : List Sh) (sh : Sh) (cs : List Cell) : Option (DenR rb) :=
  callBody cx CS fd (argPVs ss cs) St.bare fun v _ => match sh.cs v with
    | some l => impl rb l
    | none => none

section
variable {P : Program} {E E' : Env} {G G' : Gh} {w w' : World} {s s' : St}

theorem cellEq_rep {c d : Cell} {x : Value} (h : RepC E G w c x) (he : CellEq c d) : RepC E G w d x := by
  cases c with
  | val v => cases he; exact h
  | sl r l tok => cases he; exact ⟨h.1, Nat.zero_le _, fun e _ h0 => by omega⟩
  | nil => obtain ⟨r, rfl⟩ := he; rw [show x = _ from h]; exact ⟨⟨none, 0, rfl, Nat.le_refl _, fun i j hi => by simp at hi⟩, Nat.zero_le _, fun e _ h0 => by omega⟩
  | box b o => cases he
  | elt r y o => cases he
  | clo f cs => cases he

def CellsEq : List Cell → List Cell → Prop
  | [], ds => ds = []
  | c :: cs, ds => ∃ d ds', ds = d :: ds' ∧ CellEq c d ∧ CellsEq cs ds'

theorem cellsEq_rep : ∀ {cs ds : List Cell} {us : List Value}, CellsEq cs ds → RepCs E G w cs us → RepCs E G w ds us
  | [], ds, us, h, hr => by rw [show ds = [] from h]; exact hr
  | c :: cs, ds, us, ⟨d, ds', h1, h2, h3⟩, ⟨u, us', g1, g2, g3⟩ => by
    subst h1
    exact ⟨u, us', g1, ⟨cellEq_rep g2.1 h2, g2.2⟩, cellsEq_rep h3 g3⟩

theorem cellsEq_len : ∀ {cs ds : List Cell}, CellsEq cs ds → ds.length = cs.length
  | [], ds, h => by rw [show ds = [] from h]
  | c :: cs, ds, ⟨d, ds', h1, h2, h3⟩ => by subst h1; simp [cellsEq_len h3]

theorem cellsEq_split : ∀ {cs cs' ds : List Cell}, CellsEq (cs ++ cs') ds → CellsEq cs (ds.take cs.length) ∧ CellsEq cs' (ds.drop cs.length)
  | [], cs', ds, h => ⟨by simp [CellsEq], by simpa using h⟩
  | c :: cs, cs', ds, ⟨d, ds', h1, h2, h3⟩ => by
    subst h1
    obtain ⟨g1, g2⟩ := cellsEq_split h3
    exact ⟨⟨d, _, rfl, h2, g1⟩, by simpa using g2⟩

theorem cellsEq_of : ∀ {cs ds : List Cell}, ds.length = cs.length → (∀ (j : Nat) c, cs[j]? = some c → ∃ d, ds[j]? = some d ∧ CellEq c d) → CellsEq cs ds
  | [], ds, h, _ => by
    have h' : ds = [] := List.eq_nil_of_length_eq_zero h
    exact h'
  | c :: cs, [], h, _ => by simp at h
  | c :: cs, d :: ds, h, hj => by
    refine ⟨d, ds, rfl, ?_, cellsEq_of (by simpa using h) fun j c' hc => ?_⟩
    · obtain ⟨d', h1, h2⟩ := hj 0 c rfl
      simp at h1; subst h1; exact h2
    · simpa using hj (j + 1) c' (by simpa using hc)

theorem impl_eq {r : Row} {cs : List Cell} {x : DenR r} (h : impl r cs = some x) : CellsEq cs (expl r x) :=
  cellsEq_of (by rw [expl_length, impl_len h]) (impl_expl h)

theorem argCs_rep : ∀ {ss : List Sh} {vs : List PV} {cs ds : List Cell} {us : List Value}, argCs ss vs = some cs → CellsEq cs ds → RepPs E G w vs us → RepPs E G w (argPVs ss ds) us
  | [], [], cs, ds, us, h, he, hu => hu
  | [], v :: vs, cs, ds, us, h, he, hu => by simp [argCs] at h
  | .one :: ss, .one c :: vs, cs, ds, us, h, he, hu => by
    simp only [argCs] at h
    split at h
    · rename_i l hl
      cases h
      obtain ⟨d, ds', rfl, h2, h3⟩ := he
      obtain ⟨x, xs, h4, h5, h6⟩ := hu
      exact ⟨x, xs, h4, cellEq_rep (show RepC E G w c x from h5) h2, argCs_rep hl h3 h6⟩
    · cases h
  | .agg n :: ss, .agg cs0 :: vs, cs, ds, us, h, he, hu => by
    simp only [argCs] at h
    cases hc : Nat.beq cs0.length n with
    | false => rw [hc] at h; cases h
    | true =>
      rw [hc] at h
      simp only [cond_true] at h
      rw [Nat.beq_eq] at hc
      subst hc
      split at h
      · rename_i l hl
        cases h
        obtain ⟨g1, g2⟩ := cellsEq_split he
        obtain ⟨x, xs, h4, ⟨ys, h5, h5'⟩, h6⟩ := hu
        exact ⟨x, xs, h4, ⟨ys, h5, cellsEq_rep g1 h5'⟩, argCs_rep hl g2 h6⟩
      · cases h
  | .one :: ss, [], cs, ds, us, h, he, hu => by simp [argCs] at h
  | .agg n :: ss, [], cs, ds, us, h, he, hu => by simp [argCs] at h
  | .tup l :: ss, [], cs, ds, us, h, he, hu => by simp [argCs] at h
  | .one :: ss, .agg _ :: vs, cs, ds, us, h, he, hu => by simp [argCs] at h
  | .one :: ss, .tup _ :: vs, cs, ds, us, h, he, hu => by simp [argCs] at h
  | .one :: ss, .no :: vs, cs, ds, us, h, he, hu => by simp [argCs] at h
  | .agg n :: ss, .one _ :: vs, cs, ds, us, h, he, hu => by simp [argCs] at h
  | .agg n :: ss, .tup _ :: vs, cs, ds, us, h, he, hu => by simp [argCs] at h
  | .agg n :: ss, .no :: vs, cs, ds, us, h, he, hu => by simp [argCs] at h
  | .tup l :: ss, v :: vs, cs, ds, us, h, he, hu => by cases v <;> simp [argCs] at h

theorem tupCs_rep : ∀ {l : List (Bool × Nat)} {ps : List (Bool × List Cell)} {cs ds : List Cell} {us : List Value}, tupCs l ps = some cs → CellsEq cs ds → RepT E G w ps us → RepT E G w (tupOf l ds) us
  | [], [], cs, ds, us, h, he, hu => hu
  | [], p :: ps, cs, ds, us, h, he, hu => by simp [tupCs] at h
  | q :: l, [], cs, ds, us, h, he, hu => by simp [tupCs] at h
  | (g, n) :: l, (g', cs0) :: ps, cs, ds, us, h, he, hu => by
    simp only [tupCs] at h
    cases hc : (g == g') && Nat.beq cs0.length n with
    | false => rw [hc] at h; cases h
    | true =>
      rw [hc] at h
      simp only [cond_true] at h
      simp only [Bool.and_eq_true, beq_iff_eq, Nat.beq_eq] at hc
      obtain ⟨rfl, rfl⟩ := hc
      split at h
      · rename_i l' hl
        cases h
        obtain ⟨g1, g2⟩ := cellsEq_split he
        obtain ⟨x, xs, h4, h5, h6⟩ := hu
        refine ⟨x, xs, h4, ?_, tupCs_rep hl g2 h6⟩
        cases g with
        | true => obtain ⟨ys, h5, h5'⟩ := h5; exact ⟨ys, h5, cellsEq_rep g1 h5'⟩
        | false =>
          obtain ⟨c, hc, h5⟩ := h5
          have hc' : cs0 = [c] := hc
          subst hc'
          obtain ⟨d, ds', hd, h7, h8⟩ := g1
          have : ds' = [] := h8
          subst this
          exact ⟨d, hd, cellEq_rep h5 h7⟩
      · cases h

theorem sh_rep {sh : Sh} {v : PV} {cs ds : List Cell} {x : Value} (h : sh.cs v = some cs) (he : CellsEq cs ds) (hv : RepP E G w v x) : RepP E G w (sh.pv ds) x := by
  cases sh with
  | one =>
    cases v <;> simp only [Sh.cs] at h <;> first | (cases h; done) | skip
    cases h
    obtain ⟨d, ds', rfl, h2, h3⟩ := he
    have : ds' = [] := h3
    subst this
    exact cellEq_rep (show RepC E G w _ x from hv) h2
  | agg n =>
    cases v <;> simp only [Sh.cs] at h <;> first | (cases h; done) | skip
    rename_i cs0
    cases hc : Nat.beq cs0.length n with
    | false => rw [hc] at h; cases h
    | true =>
      rw [hc] at h
      cases h
      obtain ⟨ys, h5, h5'⟩ := hv
      exact ⟨ys, h5, cellsEq_rep he h5'⟩
  | tup l =>
    cases v <;> simp only [Sh.cs] at h <;> first | (cases h; done) | skip
    obtain ⟨ys, h5, h5'⟩ := hv
    exact ⟨ys, h5, tupCs_rep h he h5'⟩

theorem inj_strip {t : Ty} (x : Den t) : strip (inj t x) = inj t x ∧ dataC (inj t x) = true := by
  cases t <;> exact ⟨rfl, rfl⟩

theorem exCells_strip (x : Ex) : (exCells x).map strip = exCells x ∧ (exCells x).all dataC = true := by
  cases x; exact ⟨rfl, rfl⟩

theorem expl_strip : ∀ (r : Row) (y : DenR r), (expl r y).map strip = expl r y ∧ (expl r y).all dataC = true
  | .nil, _ => ⟨by simp [expl], by simp [expl]⟩
  | .cons t .nil, x => ⟨by simp [expl, (inj_strip x).1], by simp [expl, (inj_strip x).2]⟩
  | .cons t (.cons u r), x => by
    obtain ⟨h1, h2⟩ := expl_strip (.cons u r) x.2
    exact ⟨by simp only [expl, List.map_cons, (inj_strip x.1).1, h1], by simp only [expl, List.all_cons, (inj_strip x.1).2, h2, Bool.and_self]⟩
  | .cons t .expr, x => ⟨by simp only [expl, List.map_cons, (inj_strip x.1).1, (exCells_strip x.2).1], by simp only [expl, List.all_cons, (inj_strip x.1).2, (exCells_strip x.2).2, Bool.and_self]⟩
  | .expr, x => ⟨by simp only [expl, (exCells_strip x).1], by simp only [expl, (exCells_strip x).2]⟩

theorem tupOf_strip : ∀ (l : List (Bool × Nat)) {cs : List Cell}, cs.map strip = cs → cs.all dataC = true → (tupOf l cs).map (fun p => (p.1, p.2.map strip)) = tupOf l cs ∧ (tupOf l cs).all (fun p => p.2.all dataC) = true
  | [], cs, _, _ => ⟨rfl, rfl⟩
  | (g, n) :: l, cs, h1, h2 => by
    have a1 : (cs.take n).map strip = cs.take n := by rw [List.map_take, h1]
    have a2 : (cs.drop n).map strip = cs.drop n := by rw [List.map_drop, h1]
    have b1 : (cs.take n).all dataC = true := by
      rw [List.all_eq_true] at h2 ⊢; exact fun c hc => h2 c (List.mem_of_mem_take hc)
    have b2 : (cs.drop n).all dataC = true := by
      rw [List.all_eq_true] at h2 ⊢; exact fun c hc => h2 c (List.mem_of_mem_drop hc)
    obtain ⟨k1, k2⟩ := tupOf_strip l a2 b2
    exact ⟨by simp only [tupOf, List.map_cons, a1, k1], by simp only [tupOf, List.all_cons, b1, k2, Bool.and_self]⟩

theorem pv_strip {sh : Sh} {cs : List Cell} (h1 : cs.map strip = cs) (h2 : cs.all dataC = true) : (sh.pv cs).strip = sh.pv cs ∧ (sh.pv cs).data = true := by
  cases sh with
  | one =>
    match cs, h1, h2 with
    | [], _, _ => exact ⟨rfl, rfl⟩
    | [c], h1, h2 =>
      simp only [List.map_cons, List.map_nil, List.cons.injEq, and_true] at h1
      simp only [List.all_cons, List.all_nil, Bool.and_true] at h2
      exact ⟨by simp only [Sh.pv, PV.strip, h1], by simp only [Sh.pv, PV.data, h2]⟩
    | c :: d :: cs, _, _ => exact ⟨rfl, rfl⟩
  | agg n => exact ⟨by simp only [Sh.pv, PV.strip, h1], by simp only [Sh.pv, PV.data, h2]⟩
  | tup l =>
    obtain ⟨k1, k2⟩ := tupOf_strip l h1 h2
    exact ⟨by simp only [Sh.pv, PV.strip, k1], by simp only [Sh.pv, PV.data, k2]⟩

theorem argPVs_data : ∀ (ss : List Sh) {cs : List Cell}, cs.map strip = cs → cs.all dataC = true → (argPVs ss cs).map PV.strip = argPVs ss cs ∧ (argPVs ss cs).all PV.arg = true
  | [], cs, _, _ => ⟨rfl, rfl⟩
  | .one :: ss, [], _, _ => ⟨rfl, rfl⟩
  | .one :: ss, c :: cs, h1, h2 => by
    simp only [List.map_cons, List.cons.injEq] at h1
    simp only [List.all_cons, Bool.and_eq_true] at h2
    obtain ⟨k1, k2⟩ := argPVs_data ss h1.2 h2.2
    exact ⟨by simp only [argPVs, List.map_cons, PV.strip, h1.1, k1], by simp only [argPVs, List.all_cons, PV.arg, dataC_argC h2.1, k2, Bool.and_self]⟩
  | .agg n :: ss, cs, h1, h2 => by
    have a1 : (cs.take n).map strip = cs.take n := by rw [List.map_take, h1]
    have a2 : (cs.drop n).map strip = cs.drop n := by rw [List.map_drop, h1]
    have b1 : (cs.take n).all dataC = true := by
      rw [List.all_eq_true] at h2 ⊢; exact fun c hc => h2 c (List.mem_of_mem_take hc)
    have b2 : (cs.drop n).all dataC = true := by
      rw [List.all_eq_true] at h2 ⊢; exact fun c hc => h2 c (List.mem_of_mem_drop hc)
    obtain ⟨k1, k2⟩ := argPVs_data ss a2 b2
    exact ⟨by simp only [argPVs, List.map_cons, PV.strip, a1, k1], by simp only [argPVs, List.all_cons, PV.arg, dataCs_argCs b1, k2, Bool.and_self]⟩
  | .tup _ :: ss, cs, _, _ => ⟨rfl, rfl⟩

theorem run_sound {cx : Ctx} (htab : TabOk P cx.ti) (hsp : SpecsOK P cx) (hmx : P.follows .mixedOrders = true) {rb : Row} {CS : CallSem (DenR rb)} (hcs : CSOK P CS) {f : FuncId} {fd : Body} {fn : Func} (hf : FnOK P f fd fn)
    {ss : List Sh} {sh : Sh} {cs : List Cell} (h1 : cs.map strip = cs) (h2 : cs.all dataC = true) {y : DenR rb} (hrun : runT cx CS fd ss sh cs = some y) (hm : SimM E G w s) {us : List Value} (hu : RepPs E G w (argPVs ss cs) us) :
    Calls P f us.toArray w (fun e w' => ∃ x, e = .returned x ∧ Below w.heap.size w w' ∧ RepP E G w' (sh.pv (expl rb y)) x) := by
  let E' : Env := ⟨w.heap.size, okG E G, w⟩
  obtain ⟨k1, k2⟩ := argPVs_data ss h1 h2
  have hu' : RepPs E' ⟨[], [], 0⟩ w (argPVs ss cs) us := by
    have := argPs_move (E := E') (G := ⟨[], [], 0⟩) (fun b o ho => ⟨fun _ => ho, fun h => (by cases h), fun e h => (by cases h)⟩) k2 hu
    rwa [k1] at this
  refine (body_sound htab hsp hmx hcs hf hrun (simM_bare rfl rfl : SimM E' ⟨[], [], 0⟩ w St.bare) hu').mono ?_
  rintro e w' ⟨x, rfl, v1, s1, G1, g1, g2, g3, g4, g5⟩
  have hb : Below w.heap.size w w' := g2.bel
  refine ⟨x, rfl, hb, ?_⟩
  dsimp only at g5
  split at g5
  · rename_i l hl
    have hc := sh_rep hl (impl_eq g5) g1
    obtain ⟨p1, p2⟩ := expl_strip rb y
    obtain ⟨q1, q2⟩ := pv_strip (sh := sh) p1 p2
    have hle : ∀ b o, okG E' G1 b o → okG E G b o := by
      intro b o ho
      by_cases hlt : b < w.heap.size
      · exact ho.1 hlt
      · refine ⟨fun h => ?_, fun h => ?_, fun e he hbl => ?_⟩
        · have := hm.base; omega
        · exact absurd (hm.rho_lt b h) hlt
        · exact absurd ((hm.own e he).lt b hbl).2 hlt
    have := stripP_move hle q2 hc
    rwa [q1] at this
  · cases g5

theorem specOK_typed {f : FuncId} {fd : Body} {fn : Func} (hmx : P.follows .mixedOrders = true) (hf : FnOK P f fd fn) {ss : List Sh} {ra : Row} {sh : Sh} {rb : Row} {C : DenR ra → Bool} {F : DenR ra → DenR rb}
    (hg : ∀ x, C x = true → ∃ cx CS, TabOk P cx.ti ∧ SpecsOK P cx ∧ CSOK P CS ∧ runT cx CS fd ss sh (expl ra x) = some (F x)) : SpecOK P f (mkSpec ss ra sh rb C F) := by
  intro vs v hv E G w s hm us hu
  refine ⟨hf.callable, ?_⟩
  unfold mkSpec at hv
  split at hv
  · rename_i cs hcs
    split at hv
    · rename_i x hx
      obtain ⟨hC, rfl⟩ : C x = true ∧ sh.pv (expl rb (F x)) = v := by simpa using hv
      obtain ⟨cx, CS, htab, hsp, hCS, hrun⟩ := hg x hC
      obtain ⟨p1, p2⟩ := expl_strip ra x
      obtain ⟨q1, q2⟩ := expl_strip rb (F x)
      obtain ⟨r1, r2⟩ := pv_strip (sh := sh) q1 q2
      refine (run_sound htab hsp hmx hCS hf p1 p2 hrun hm (argCs_rep hcs (impl_eq hx) hu)).mono ?_
      rintro e w' ⟨y, rfl, hb, hr⟩
      obtain ⟨g1, g2⟩ := adopt_strip (sh.pv (expl rb (F x))) s.nt
      rw [r1] at g1 g2
      refine ⟨y, rfl, hb, G, by rw [g1]; exact hr, ?_, .below hb (.below hb) rfl rfl rfl, fun e he => he⟩
      refine (hm.below hb).congr rfl ?_ ?_
      · show nameOwn s.nt (sh.pv (expl rb (F x))).own ++ s.live = s.live
        rw [g2]; rfl
      · show s.nt + (sh.pv (expl rb (F x))).own.length = s.nt
        rw [g2]; rfl
    · cases hv
  · cases hv

end
end Go.PM
