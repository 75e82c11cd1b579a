/- The pure machine, part 10: the state of memory; new boxes, new slices. -/
import Derived.Test.YtcjmpignjljfbaaPM9
import Derived.Laws.AppendOwn
namespace Go.PM
open Go.RowKit
set_option linter.unusedVariables false
set_option linter.unusedSimpArgs false

structure SimM (E : Env) (G : Gh) (w : World) (s : St) : Prop where
  b : SimB E G w s
  nodup : G.rho.Nodup
  rge : ∀ b ∈ G.rho, E.base ≤ b
  own : ∀ e ∈ G.tk, w.ownsRow E.base e.e e.sz e.v e.n e.xs
  ids : ∀ e ∈ G.tk, e.id < G.nt
  out : ∀ e ∈ G.tk, ∀ b, e.v.ownBlock = some b → b ∉ G.rho
  apart : ∀ e ∈ G.tk, ∀ e' ∈ G.tk, ∀ b, e.v.ownBlock = some b → e'.v.ownBlock = some b → e = e'
  name : ∀ e ∈ G.tk, ∀ e' ∈ G.tk, e.id = e'.id → e = e'
  live : ∀ p ∈ s.live, ∃ e ∈ G.tk, e.id = p.1 ∧ e.e = p.2
  nt : s.nt = G.nt
  bel : Below E.base E.w0 w
  base : E.base ≤ w.heap.size
  len : s.b.length = G.rho.length

section
variable {P : Program} {E : Env} {G G' : Gh} {w w' : World} {s : St}

theorem Mono.trans {G'' : Gh} {w'' : World} (h : Mono E G w G' w') (hsz : w.heap.size ≤ w'.heap.size) (h' : Mono E G' w' G'' w'') : Mono E G w G'' w'' :=
  ⟨fun b o ho hb => by
      obtain ⟨h1, h2⟩ := h.stays b o ho hb
      obtain ⟨g1, g2⟩ := h'.stays b o h1 (by omega)
      exact ⟨g1, fun a ha hb => (g2 a ha hb).trans (h2 a ha hb)⟩,
    fun i b hi => h'.rho _ _ (h.rho _ _ hi),
    fun e he => by
      rcases h'.tk e he with h1 | h1
      · exact h.tk e h1
      · exact .inr (Nat.le_trans h.nt h1),
    Nat.le_trans h.nt h'.nt⟩

theorem Mono.below (hb : Below w.heap.size w w') : Mono E G w G w' :=
  ⟨fun b o ho hlt => ⟨ho, fun a ha _ => World.cell?_of_block (hb.block _ (by rw [ha]; exact hlt))⟩, fun _ _ h => h, fun _ h => .inl h, Nat.le_refl _⟩

theorem SimM.rho_lt (h : SimM E G w s) : ∀ b ∈ G.rho, b < w.heap.size := by
  intro b hb
  obtain ⟨i, hi⟩ := List.getElem?_of_mem hb
  have hl : i < s.b.length := by rw [h.len]; exact (List.getElem?_eq_some_iff.1 hi).1
  obtain ⟨blk, arr, T, h1, h2, _⟩ := h.b.box i _ (List.getElem?_eq_getElem hl)
  rw [hi] at h1; cases h1
  exact (Array.getElem?_eq_some_iff.1 h2).1

theorem SimB.below (h : SimB E G w s) (hb : Below w.heap.size w w') : SimB E G w' s :=
  ⟨fun i cs hi => by
    obtain ⟨blk, arr, T, h1, h2, h3⟩ := h.box i cs hi
    exact ⟨blk, arr, T, h1, by rw [hb.block _ (Array.getElem?_eq_some_iff.1 h2).1]; exact h2, h3.mono (.below hb)⟩⟩

theorem ownsRow_below {base e sz : Nat} {v : Value} {n : Nat} {xs : List Value} (h : w.ownsRow base e sz v n xs) (hb : Below w.heap.size w w') : w'.ownsRow base e sz v n xs := by
  refine ⟨h.1, ?_⟩
  rcases h.2 with hn | ⟨g, cap, cur, hv, hg, hh, r⟩
  · exact .inl hn
  · exact .inr ⟨g, cap, cur, hv, hg, by rw [hb.block _ (Array.getElem?_eq_some_iff.1 hh).1]; exact hh, r⟩

theorem SimM.below (h : SimM E G w s) (hb : Below w.heap.size w w') : SimM E G w' s :=
  { h with
    b := h.b.below hb
    own := fun e he => ownsRow_below (h.own e he) hb
    bel := h.bel.trans (hb.mono h.base)
    base := Nat.le_trans h.base hb.size }

theorem below_alloc (w : World) (o : Obj) : Below w.heap.size w (w.alloc o) := (Below.refl _ _).alloc (Nat.le_refl _) o

/-- A new box. -/
theorem SimM.addBox (h : SimM E G w s) {cs : List Cell} {arr : Array Value} (hr : RepCs E G w cs arr.toList) (T : TypeId) :
    SimM E { G with rho := G.rho ++ [w.heap.size] } (w.alloc (.cells arr T)) (newBox s cs) ∧ Mono E G w { G with rho := G.rho ++ [w.heap.size] } (w.alloc (.cells arr T)) := by
  have hb := below_alloc w (.cells arr T)
  have hlt := h.rho_lt
  have hm : Mono E G w { G with rho := G.rho ++ [w.heap.size] } (w.alloc (.cells arr T)) := by
    refine ⟨fun b o ho hb' => ⟨⟨ho.1, ?_, ho.2.2⟩, fun a ha _ => World.cell?_of_block (hb.block _ (by rw [ha]; exact hb'))⟩, fun i b hi => ?_, fun _ h => .inl h, Nat.le_refl _⟩
    · intro hm
      rcases List.mem_append.1 hm with h1 | h1
      · exact ho.2.1 h1
      · simp at h1; omega
    · rw [List.getElem?_append_left (List.getElem?_eq_some_iff.1 hi).1]; exact hi
  refine ⟨⟨⟨fun i cs' hi => ?_⟩, ?_, ?_, ?_, h.ids, ?_, h.apart, h.name, h.live, h.nt, h.bel.trans (hb.mono h.base), Nat.le_trans h.base hb.size, by simp [newBox, h.len]⟩, hm⟩
  · simp only [newBox] at hi
    by_cases hl : i < s.b.length
    · rw [List.getElem?_append_left hl] at hi
      obtain ⟨blk, arr', T', h1, h2, h3⟩ := h.b.box i cs' hi
      exact ⟨blk, arr', T', hm.rho _ _ h1, by rw [hb.block _ (Array.getElem?_eq_some_iff.1 h2).1]; exact h2, h3.mono hm⟩
    · rw [List.getElem?_append_right (by omega)] at hi
      have he : i = s.b.length := by
        have := (List.getElem?_eq_some_iff.1 hi).1
        simp at this; omega
      subst he
      simp at hi; subst hi
      exact ⟨w.heap.size, arr, T, by rw [h.len]; simp, heap_alloc_new w _, hr.mono hm⟩
  · rw [List.nodup_append]
    exact ⟨h.nodup, by simp, fun a ha b hb => by simp at hb; subst hb; have := hlt a ha; omega⟩
  · intro b hb'
    rcases List.mem_append.1 hb' with h1 | h1
    · exact h.rge b h1
    · simp at h1; subst h1; exact h.base
  · exact fun e he => ownsRow_below (h.own e he) hb
  · intro e he b hb' hmem
    rcases List.mem_append.1 hmem with h1 | h1
    · exact h.out e he b hb' h1
    · simp at h1
      have := ((h.own e he).lt b hb').2
      omega

def Gh.tok (G : Gh) (e : TypeId) (sz : Nat) (v : Value) (n : Nat) (xs : List Value) : Gh := { G with tk := ⟨G.nt, e, v, n, sz, xs⟩ :: G.tk, nt := G.nt + 1 }

/-- A slice in new memory gets a name. -/
theorem SimM.addTok (h : SimM E G w s) (hb : Below w.heap.size w w') {e : TypeId} {sz : Nat} {v : Value} {n : Nat} {xs : List Value} (hown : w'.ownsRow w.heap.size e sz v n xs) :
    SimM E (G.tok e sz v n xs) w' { s with live := (s.nt, e) :: s.live, nt := s.nt + 1 } ∧ Mono E G w (G.tok e sz v n xs) w' := by
  have hm : Mono E G w (G.tok e sz v n xs) w' := by
    refine ⟨fun b o ho hb' => ⟨⟨ho.1, ho.2.1, fun e' he' hbl => ?_⟩, fun a ha _ => World.cell?_of_block (hb.block _ (by rw [ha]; exact hb'))⟩, fun i b hi => hi, fun e' he' => ?_, Nat.le_succ _⟩
    · rcases List.mem_cons.1 he' with rfl | he'
      · have := (hown.lt b hbl).1
        omega
      · exact ho.2.2 e' he' hbl
    · rcases List.mem_cons.1 he' with rfl | he'
      · exact .inr (Nat.le_refl _)
      · exact .inl he'
  have hold : ∀ e' ∈ G.tk, ∀ b, e'.v.ownBlock = some b → v.ownBlock = some b → False := by
    intro e' he' b h1 h2
    have := ((h.own e' he').lt b h1).2
    have := (hown.lt b h2).1
    omega
  refine ⟨⟨⟨fun i cs hi => ?_⟩, h.nodup, h.rge, ?_, ?_, ?_, ?_, ?_, ?_, by simp [Gh.tok, h.nt], h.bel.trans (hb.mono h.base), Nat.le_trans h.base hb.size, h.len⟩, hm⟩
  · obtain ⟨blk, arr', T', h1, h2, h3⟩ := h.b.box i cs hi
    exact ⟨blk, arr', T', h1, by rw [hb.block _ (Array.getElem?_eq_some_iff.1 h2).1]; exact h2, h3.mono hm⟩
  · intro e' he'
    rcases List.mem_cons.1 he' with rfl | he'
    · obtain ⟨h1, h2⟩ := hown
      refine ⟨h1, ?_⟩
      rcases h2 with h2 | ⟨g, cap, cur, g1, g2, g3⟩
      · exact .inl h2
      · exact .inr ⟨g, cap, cur, g1, Nat.le_trans h.base g2, g3⟩
    · exact ownsRow_below (h.own e' he') hb
  · intro e' he'
    rcases List.mem_cons.1 he' with rfl | he'
    · exact Nat.lt_succ_self _
    · exact Nat.lt_succ_of_lt (h.ids e' he')
  · intro e' he' b hb'
    rcases List.mem_cons.1 he' with rfl | he'
    · intro hmem
      have := h.rho_lt b hmem
      have := (hown.lt b hb').1
      omega
    · exact h.out e' he' b hb'
  · intro e1 h1 e2 h2 b hb1 hb2
    rcases List.mem_cons.1 h1 with rfl | h1 <;> rcases List.mem_cons.1 h2 with rfl | h2
    · rfl
    · exact (hold e2 h2 b hb2 hb1).elim
    · exact (hold e1 h1 b hb1 hb2).elim
    · exact h.apart e1 h1 e2 h2 b hb1 hb2
  · intro e1 h1 e2 h2 he
    rcases List.mem_cons.1 h1 with rfl | h1 <;> rcases List.mem_cons.1 h2 with rfl | h2
    · rfl
    · have := h.ids e2 h2; simp at he; omega
    · have := h.ids e1 h1; simp at he; omega
    · exact h.name e1 h1 e2 h2 he
  · intro p hp
    rcases List.mem_cons.1 hp with rfl | hp
    · exact ⟨_, List.mem_cons_self, by simp [h.nt], rfl⟩
    · obtain ⟨e', he', hp'⟩ := h.live p hp
      exact ⟨e', List.mem_cons_of_mem _ he', hp'⟩

/-- A name is given up. -/
theorem SimM.drop (h : SimM E G w s) (keep : Tok → Bool) (live : List (Nat × Nat)) (hl : ∀ p ∈ live, ∃ e ∈ G.tk.filter keep, e.id = p.1 ∧ e.e = p.2) :
    SimM E { G with tk := G.tk.filter keep } w { s with live := live } ∧ Mono E G w { G with tk := G.tk.filter keep } w := by
  have hm : Mono E G w { G with tk := G.tk.filter keep } w :=
    ⟨fun b o ho _ => ⟨⟨ho.1, ho.2.1, fun e he => ho.2.2 e (List.mem_filter.1 he).1⟩, fun _ _ _ => rfl⟩, fun _ _ h => h, fun e he => .inl (List.mem_filter.1 he).1, Nat.le_refl _⟩
  refine ⟨⟨⟨fun i cs hi => ?_⟩, h.nodup, h.rge, fun e he => h.own e (List.mem_filter.1 he).1, fun e he => h.ids e (List.mem_filter.1 he).1, fun e he => h.out e (List.mem_filter.1 he).1,
    fun e he e' he' => h.apart e (List.mem_filter.1 he).1 e' (List.mem_filter.1 he').1, fun e he e' he' => h.name e (List.mem_filter.1 he).1 e' (List.mem_filter.1 he').1, hl, h.nt, h.bel, h.base, h.len⟩, hm⟩
  obtain ⟨blk, arr', T', h1, h2, h3⟩ := h.b.box i cs hi
  exact ⟨blk, arr', T', h1, h2, h3.mono hm⟩

/-! ### Data out of cells -/
theorem proj_rep {t : Ty} {c : Cell} {x : Den t} {u : Value} (h : RepC E G w c u) (hp : proj t c = some x) : RepD w (okG E G) (toD t x) u := by
  cases t with
  | bool =>
    cases c with
    | val v =>
      cases v <;> simp only [proj] at hp <;> first | (cases hp; done) | skip
      cases hp
      rw [show u = _ from h]; simp [toD, RepD]
    | _ => simp [proj] at hp
  | int k =>
    cases c with
    | val v =>
      cases v <;> simp only [proj] at hp <;> first | (cases hp; done) | skip
      rename_i k' n
      by_cases hk : k = k'
      · subst hk
        simp at hp
        subst hp
        rw [show u = _ from h]; simp [toD, RepD]
      · simp [hk] at hp
    | _ => simp [proj] at hp
  | str =>
    cases c with
    | val v =>
      cases v <;> simp only [proj] at hp <;> first | (cases hp; done) | skip
      cases hp
      rw [show u = _ from h]; simp [toD, RepD]
    | _ => simp [proj] at hp
  | sl r =>
    cases c with
    | val v => cases v <;> simp [proj] at hp
    | sl r' l tok =>
      simp only [proj] at hp
      split at hp
      · rename_i hb
        cases hp
        have := beqR_eq hb
        subst this
        exact h.1
      · cases hp
    | nil =>
      simp only [proj] at hp
      cases hp
      rw [show u = _ from h]
      exact ⟨none, 0, rfl, Nat.le_refl _, fun i j hi => by simp at hi⟩
    | _ => simp [proj] at hp

theorem exDs_map : ∀ l : List Ex, exDs l = l.map (toDs .expr)
  | [] => by simp [exDs]
  | e :: l => by simp only [exDs, List.map_cons, exDs_map l, toDs]

theorem exOf_rep {cs : List Cell} {x : Ex} {us : List Value} (h : RepCs E G w cs us) (hp : exOf cs = some x) : ∀ j, j < 6 → ∃ u, us[j]? = some u ∧ RepD w (okG E G) ((exD x).getD j dNo) u := by
  unfold exOf at hp
  split at hp
  · rename_i k s vk vn vs c
    split at hp
    · rename_i args hargs
      cases hp
      obtain ⟨u0, _, rfl, ⟨h0, _⟩, u1, _, rfl, ⟨h1, _⟩, u2, _, rfl, ⟨h2, _⟩, u3, _, rfl, ⟨h3, _⟩, u4, _, rfl, ⟨h4, _⟩, u5, _, rfl, ⟨h5, _⟩, h6⟩ := h
      have := proj_rep h5 hargs
      intro j hj
      rcases j with _ | _ | _ | _ | _ | _ | j
      · exact ⟨u0, by simp, by simpa [exD, RepD, RepC] using h0⟩
      · exact ⟨u1, by simp, by simpa [exD, RepD, RepC] using h1⟩
      · exact ⟨u2, by simp, by simpa [exD, RepD, RepC] using h2⟩
      · exact ⟨u3, by simp, by simpa [exD, RepD, RepC] using h3⟩
      · exact ⟨u4, by simp, by simpa [exD, RepD, RepC] using h4⟩
      · refine ⟨u5, by simp, ?_⟩
        have h7 : RepD w (okG E G) (.sl args.length 6 (fun i j => ((exDs args).getD i []).getD j dNo)) u5 := by
          rw [exDs_map]; simpa [toD, sz] using this
        simpa [exD] using h7
      · omega
    · cases hp
  · cases hp

theorem impl_rep : ∀ {r : Row} {cs : List Cell} {x : DenR r} {us : List Value}, RepCs E G w cs us → impl r cs = some x → ∀ j, j < sz r → ∃ u, us[j]? = some u ∧ RepD w (okG E G) ((toDs r x).getD j dNo) u
  | .nil, cs, x, us, h, hp, j, hj => by simp [sz] at hj
  | .cons t .nil, cs, x, us, h, hp, j, hj => by
    have hj0 : j = 0 := by simp [sz] at hj; omega
    subst hj0
    match cs, h, hp with
    | [], _, hp => simp [impl] at hp
    | c :: d :: cs, _, hp => simp [impl] at hp
    | [c], ⟨u, us', hus, ⟨h1, _⟩, _⟩, hp =>
      subst hus
      exact ⟨u, by simp, by simpa [toDs] using proj_rep h1 (by simpa [impl] using hp)⟩
  | .cons t (.cons t' r), cs, x, us, h, hp, j, hj => by
    match cs, h, hp with
    | [], _, hp => simp [impl] at hp
    | c :: cs, ⟨u, us', hus, ⟨h1, _⟩, h2⟩, hp =>
      subst hus
      simp only [impl] at hp
      split at hp
      · rename_i y z hy hz
        cases hp
        cases j with
        | zero => exact ⟨u, by simp, by simpa [toDs] using proj_rep h1 hy⟩
        | succ j =>
          obtain ⟨v, hv, hr⟩ := impl_rep h2 hz j (by simp [sz] at hj ⊢; omega)
          exact ⟨v, by simpa using hv, by simpa [toDs] using hr⟩
      · cases hp
  | .cons t .expr, cs, x, us, h, hp, j, hj => by
    match cs, h, hp with
    | [], _, hp => simp [impl] at hp
    | c :: cs, ⟨u, us', hus, ⟨h1, _⟩, h2⟩, hp =>
      subst hus
      simp only [impl] at hp
      split at hp
      · rename_i y z hy hz
        cases hp
        cases j with
        | zero => exact ⟨u, by simp, by simpa [toDs] using proj_rep h1 hy⟩
        | succ j =>
          obtain ⟨v, hv, hr⟩ := exOf_rep h2 hz j (by simp [sz] at hj ⊢; omega)
          exact ⟨v, by simpa using hv, by simpa [toDs] using hr⟩
      · cases hp
  | .expr, cs, x, us, h, hp, j, hj => by
    obtain ⟨v, hv, hr⟩ := exOf_rep h (by cases cs <;> simpa [impl] using hp) j (by simpa [sz] using hj)
    exact ⟨v, hv, by simpa [toDs] using hr⟩

end
end Go.PM
