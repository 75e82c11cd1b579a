/- The pure machine, part 22: what a function is known to give, from its body. -/
import Derived.Test.YtcjmpignjljfbaaPM21
namespace Go.PM
open Go.RowKit
set_option linter.unusedVariables false
set_option linter.unusedSimpArgs false

def argC : Cell → Bool
  | .val _ => true
  | .sl .. => true
  | .nil => true
  | .elt .. => true
  | .clo _ [] => true
  | _ => false

def PV.arg : PV → Bool
  | .one c => argC c
  | .agg cs => cs.all argC
  | _ => false

section
variable {P : Program} {E E' : Env} {G G' : Gh} {w w' : World} {s s' : St} {a a' : Act}

theorem stripC_move (hle : ∀ b o, okG E' G' b o → okG E G b o) {c : Cell} {x : Value} (hd : argC c = true) (h : RepC E' G' w c x) : RepC E G w (strip c) x := by
  have hst : Stays w (okG E' G') w (okG E G) := fun b o ho _ => ⟨hle b o ho, fun _ _ _ => rfl⟩
  cases c with
  | val v => exact h
  | sl r l tok => exact ⟨h.1.mono hst, Nat.zero_le _, fun e he h0 => by omega⟩
  | nil => exact h
  | box b o => cases hd
  | elt r y off =>
    obtain ⟨ad, h1, h2⟩ := h
    refine ⟨ad, h1, fun j hj => ?_⟩
    obtain ⟨ho, u, hu, hr⟩ := h2 j hj
    exact ⟨hle _ _ ho, u, hu, hr.mono hst⟩
  | clo f caps =>
    cases caps with
    | nil => exact h
    | cons c cs => cases hd

theorem dataC_argC {c : Cell} (h : dataC c = true) : argC c = true := by
  cases c with
  | clo f caps => cases caps <;> first | rfl | cases h
  | _ => first | rfl | cases h

theorem strip_one {c : Cell} {u : Value} (h : u.oneCell' = true) : u.oneCell' = true := h

theorem stripCs_move (hle : ∀ b o, okG E' G' b o → okG E G b o) : ∀ {cs : List Cell} {us : List Value}, cs.all argC = true → RepCs E' G' w cs us → RepCs E G w (cs.map strip) us
  | [], us, _, h => h
  | c :: cs, us, hd, ⟨u, us', h1, h2, h3⟩ => by
    simp only [List.all_cons, Bool.and_eq_true] at hd
    exact ⟨u, us', h1, ⟨stripC_move hle hd.1 h2.1, h2.2⟩, stripCs_move hle hd.2 h3⟩

theorem dataCs_argCs {cs : List Cell} (h : cs.all dataC = true) : cs.all argC = true := by
  rw [List.all_eq_true] at h ⊢
  exact fun c hc => dataC_argC (h c hc)

theorem stripT_move (hle : ∀ b o, okG E' G' b o → okG E G b o) : ∀ {ps : List (Bool × List Cell)} {us : List Value}, ps.all (fun p => p.2.all dataC) = true → RepT E' G' w ps us → RepT E G w (ps.map fun p => (p.1, p.2.map strip)) us
  | [], us, _, h => h
  | (g, cs) :: ps, us, hd, ⟨u, us', h1, h2, h3⟩ => by
    simp only [List.all_cons, Bool.and_eq_true] at hd
    refine ⟨u, us', h1, ?_, stripT_move hle hd.2 h3⟩
    cases g with
    | true => obtain ⟨vs, q1, q2⟩ := h2; exact ⟨vs, q1, stripCs_move hle (dataCs_argCs hd.1) q2⟩
    | false =>
      obtain ⟨c, hc, q⟩ := h2
      have hc' : cs = [c] := hc
      subst hc'
      simp only [List.all_cons, List.all_nil, Bool.and_true] at hd
      exact ⟨strip c, rfl, stripC_move hle (dataC_argC hd.1) q⟩

theorem stripP_move (hle : ∀ b o, okG E' G' b o → okG E G b o) {v : PV} {x : Value} (hd : v.data = true) (h : RepP E' G' w v x) : RepP E G w v.strip x := by
  cases v with
  | one c => exact stripC_move hle (dataC_argC hd) h
  | agg cs => obtain ⟨us, h1, h2⟩ := h; exact ⟨us, h1, stripCs_move hle (dataCs_argCs hd) h2⟩
  | tup ps => obtain ⟨us, h1, h2⟩ := h; exact ⟨us, h1, stripT_move hle hd h2⟩
  | no => exact h

theorem argP_move (hle : ∀ b o, okG E' G' b o → okG E G b o) {v : PV} {x : Value} (hd : v.arg = true) (h : RepP E' G' w v x) : RepP E G w v.strip x := by
  cases v with
  | one c => exact stripC_move hle hd h
  | agg cs => obtain ⟨us, h1, h2⟩ := h; exact ⟨us, h1, stripCs_move hle hd h2⟩
  | tup ps => cases hd
  | no => cases hd

theorem argPs_move (hle : ∀ b o, okG E' G' b o → okG E G b o) : ∀ {vs : List PV} {us : List Value}, vs.all PV.arg = true → RepPs E' G' w vs us → RepPs E G w (vs.map PV.strip) us
  | [], us, _, h => h
  | v :: vs, us, hd, ⟨x, xs, h1, h2, h3⟩ => by
    simp only [List.all_cons, Bool.and_eq_true] at hd
    exact ⟨x, xs, h1, argP_move hle hd.1 h2, argPs_move hle hd.2 h3⟩

theorem adoptCs_strip : ∀ (k : Nat) (cs : List Cell), adoptCs k (cs.map strip) = cs.map strip ∧ ownCs (cs.map strip) = []
  | k, [] => ⟨rfl, rfl⟩
  | k, c :: cs => by
    obtain ⟨h1, h2⟩ := adoptCs_strip k cs
    cases c <;> simp only [List.map_cons, strip, adoptCs, ownCs, h1, h2] <;> simp

theorem adoptT_strip : ∀ (k : Nat) (ps : List (Bool × List Cell)), adoptT k (ps.map fun p => (p.1, p.2.map strip)) = (ps.map fun p => (p.1, p.2.map strip)) ∧ ownT (ps.map fun p => (p.1, p.2.map strip)) = []
  | k, [] => ⟨rfl, rfl⟩
  | k, (g, cs) :: ps => by
    obtain ⟨h1, h2⟩ := adoptT_strip k ps
    obtain ⟨h3, h4⟩ := adoptCs_strip k cs
    simp only [List.map_cons, adoptT, ownT, h3, h4, List.length_nil, Nat.add_zero, h1, h2]
    simp

theorem adopt_strip (v : PV) (k : Nat) : v.strip.adopt k = v.strip ∧ v.strip.own = [] := by
  cases v with
  | one c =>
    obtain ⟨h1, h2⟩ := adoptCs_strip k [c]
    simp only [List.map_cons, List.map_nil] at h1 h2
    exact ⟨by simp only [PV.strip, PV.adopt, h1], by simp only [PV.strip, PV.own, h2]⟩
  | agg cs =>
    obtain ⟨h1, h2⟩ := adoptCs_strip k cs
    exact ⟨by simp only [PV.strip, PV.adopt, h1], by simp only [PV.strip, PV.own, h2]⟩
  | tup ps =>
    obtain ⟨h1, h2⟩ := adoptT_strip k ps
    exact ⟨by simp only [PV.strip, PV.adopt, h1], by simp only [PV.strip, PV.own, h2]⟩
  | no => exact ⟨rfl, rfl⟩

theorem simM_bare (hb : E.base = w.heap.size) (h0 : E.w0 = w) : SimM E ⟨[], [], 0⟩ w St.bare :=
  ⟨⟨fun i cs h => by simp [St.bare] at h⟩, List.nodup_nil, fun b h => (by cases h), fun e h => (by cases h), fun e h => (by cases h), fun e h => (by cases h), fun e h => (by cases h), fun e h => (by cases h), fun p h => (by cases h), rfl,
    by rw [h0]; exact .refl _ _, by rw [hb]; exact Nat.le_refl _, rfl⟩

theorem specOK_of_body {f : FuncId} {fd : Body} {fn : Func} (hmx : P.follows .mixedOrders = true) (hf : FnOK P f fd fn) {g : Spec}
    (hg : ∀ vs v, g vs = some (true, v) → vs.all PV.arg = true ∧ ∃ cx CS, TabOk P cx.ti ∧ SpecsOK P cx ∧ CSOK P CS ∧ runSpec cx CS fd (vs.map PV.strip) = some v) : SpecOK P f g := by
  intro vs v hv E G w s hm us hu
  refine ⟨hf.callable, ?_⟩
  obtain ⟨harg, cx, CS, htab, hsp, hcs, hrun⟩ := hg vs v hv
  let E' : Env := ⟨w.heap.size, okG E G, w⟩
  have hu' : RepPs E' ⟨[], [], 0⟩ w (vs.map PV.strip) us := argPs_move (fun b o ho => ⟨fun _ => ho, fun h => (by cases h), fun e h => (by cases h)⟩) harg hu
  refine (body_sound htab hsp hmx hcs hf hrun (simM_bare rfl rfl : SimM E' ⟨[], [], 0⟩ w St.bare) hu').mono ?_
  rintro e w' ⟨x, rfl, v1, s1, G1, h1, h2, h3, h4, h5⟩
  have hb : Below w.heap.size w w' := h2.bel
  have h6 : v1.data = true ∧ v1.strip = v := by
    dsimp only at h5
    cases hd : v1.data with
    | false => rw [hd] at h5; cases h5
    | true => rw [hd] at h5; cases h5; exact ⟨rfl, rfl⟩
  obtain ⟨h7, rfl⟩ := h6
  have hle : ∀ b o, okG E' G1 b o → okG E G b o := by
    intro b o ho
    by_cases hlt : b < w.heap.size
    · exact ho.1 hlt
    · refine ⟨fun h => ?_, fun h => ?_, fun e he hbl => ?_⟩
      · have := hm.base; omega
      · exact absurd (hm.rho_lt b h) hlt
      · exact absurd ((hm.own e he).lt b hbl).2 hlt
  obtain ⟨g1, g2⟩ := adopt_strip v1 s.nt
  refine ⟨x, rfl, hb, G, ?_, ?_, .below hb (.below hb) rfl rfl rfl, fun e he => he⟩
  · rw [g1]; exact stripP_move hle h7 h1
  · refine (hm.below hb).congr rfl ?_ ?_
    · show nameOwn s.nt v1.strip.own ++ s.live = s.live
      rw [g2]; rfl
    · show s.nt + v1.strip.own.length = s.nt
      rw [g2]; rfl

end
end Go.PM
