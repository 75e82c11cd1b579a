/- The pure machine, part 20: code. -/
import Derived.Test.YtcjmpignjljfbaaPM19
namespace Go.PM
open Go.RowKit
set_option linter.unusedVariables false
set_option linter.unusedSimpArgs false

inductive ExR : Exit → Ex1 → Prop where
  | normal : ExR .normal .normal
  | exit (i : Nat) : ExR (.exit i) (.exit i)
  | ret : ExR .ret .ret

section
variable {P : Program} {E : Env} {G G' : Gh} {w w' : World} {s s' : St} {a a' : Act}

theorem Sim.plain (h : Sim E G w s a) : Sim E G w { s with t := plainT s.t } a :=
  ⟨⟨fun d ids v hd => h.t.tm d ids v (plainT_mem hd), h.t.n, h.t.df⟩, h.m.congr rfl rfl rfl⟩

theorem Sim.relock (h : Sim E G w s' a) : Sim E G w (s'.relock s) a :=
  ⟨⟨fun d ids v hd => h.t.tm d ids v hd, h.t.n, h.t.df⟩, h.m.congr rfl rfl rfl⟩

theorem Fr.from {s0 : St} (h : Fr E G w s G' w' s') (h1 : s0.fresh = s.fresh) (h2 : s0.wr = s.wr) (h3 : s0.n = s.n) : Fr E G w s0 G' w' s' :=
  ⟨h.mono, fun i blk arr T hi hh => by
      obtain ⟨arr', g1, g2, g3⟩ := h.box i blk arr T hi hh
      exact ⟨arr', g1, g2, fun off hl hw => g3 off (by rw [← h1]; exact hl) (by rw [← h2]; exact hw)⟩,
    h.size, h.fresh.trans h1.symm, h.wr.trans h2.symm, h.n.trans h3.symm⟩

theorem BoxFr.refl (G : Gh) (w : World) (h : Hint) : BoxFr G w w h := fun i blk arr T _ hh => ⟨arr, hh, rfl, fun _ _ => rfl⟩

theorem den_sound {ρ : Type} {cx : Ctx} (htab : TabOk P cx.ti) (hsp : SpecsOK P cx) (hmx : P.follows .mixedOrders = true) {CS : CallSem ρ} (hcs : CSOK P CS) {H : Nat → Option Hint} {r : ρ} :
    ∀ (c : Code) (bid : Nat) {K : Ex1 → St → Option ρ} {s : St} {a : Act} {w : World} {G : Gh} {Q : Exit → Act → World → Prop}, den cx CS H bid c K s = some r → Sim E G w s a →
      (∀ e e1 a' w' s' G', ExR e e1 → Sim E G' w' s' a' → Fr E G w s G' w' s' → (∀ d, d ∉ dsts c → a'.tmps.getD d undef = a.tmps.getD d undef) → K e1 s' = some r → Q e a' w') → c.wp P Q a w
  | .skip, bid, K, s, a, w, G, Q, h, hs, hQ => by
    simp only [den] at h
    exact wp_skip (hQ _ _ a w s G .normal hs (Fr.refl _ _ _ _) (fun _ _ => rfl) h)
  | .exit i, bid, K, s, a, w, G, Q, h, hs, hQ => by
    simp only [den] at h
    exact wp_exit (hQ _ _ a w s G (.exit i) hs (Fr.refl _ _ _ _) (fun _ _ => rfl) h)
  | .ret, bid, K, s, a, w, G, Q, h, hs, hQ => by
    simp only [den] at h
    exact wp_ret (hQ _ _ a w s G .ret hs (Fr.refl _ _ _ _) (fun _ _ => rfl) h)
  | .region id ops draw, bid, K, s, a, w, G, Q, h, hs, hQ => by
    cases draw with
    | false =>
      simp only [den] at h
      refine wp_region ?_
      rw [List.range_eq_range', ← Array.length_toList]
      refine denOps_sound htab hsp hcs ops.toList 0 rfl h hs.plain fun a' w' s' G' h1 h2 h3 h4 => ?_
      exact hQ _ _ a' w' s' G' .normal h1 (h2.from rfl rfl rfl) h3 h4
    | true =>
      simp only [den] at h
      exact denAny_sound htab hsp hmx h hs fun a' w' s' G' h1 h2 h3 h4 => hQ _ _ a' w' s' G' .normal h1 h2 h3 h4
  | .seq x y, bid, K, s, a, w, G, Q, h, hs, hQ => by
    simp only [den] at h
    refine wp_seq (den_sound htab hsp hmx hcs x bid h hs fun e e1 a' w' s' G' he h1 h2 h3 h4 => ?_)
    have hx : ∀ d, d ∉ dsts (.seq x y) → a'.tmps.getD d undef = a.tmps.getD d undef := fun d hd => h3 d fun hm => hd (List.mem_append_left _ hm)
    cases he with
    | normal =>
      refine den_sound htab hsp hmx hcs y bid h4 h1 fun e e1 a'' w'' s'' G'' he g1 g2 g3 g4 => ?_
      refine hQ e e1 a'' w'' s'' G'' he g1 (h2.trans g2) (fun d hd => ?_) g4
      rw [g3 d fun hm => hd (List.mem_append_right _ hm), hx d hd]
    | exit i => exact hQ _ _ a' w' s' G' (.exit i) h1 h2 hx h4
    | ret => exact hQ _ _ a' w' s' G' .ret h1 h2 hx h4
  | .cond c x y, bid, K, s, a, w, G, Q, h, hs, hQ => by
    simp only [den] at h
    split at h
    · rename_i b hb
      have hc : a.eval c = .bool b := (ev_rep hs.t (idsHold_nil a) hb : RepP E G w (.one (.val (.bool b))) _)
      refine wp_cond hc ?_
      cases b with
      | true =>
        simp only [cond_true] at h
        exact den_sound htab hsp hmx hcs x bid h hs fun e e1 a' w' s' G' he h1 h2 h3 h4 => hQ e e1 a' w' s' G' he h1 h2 (fun d hd => h3 d fun hm => hd (List.mem_append_left _ hm)) h4
      | false =>
        simp only [cond_false] at h
        exact den_sound htab hsp hmx hcs y bid h hs fun e e1 a' w' s' G' he h1 h2 h3 h4 => hQ e e1 a' w' s' G' he h1 h2 (fun d hd => h3 d fun hm => hd (List.mem_append_right _ hm)) h4
    · cases h
  | .block id c, bid, K, s, a, w, G, Q, h, hs, hQ => by
    simp only [den] at h
    refine wp_block (den_sound htab hsp hmx hcs c id h hs fun e e1 a' w' s' G' he h1 h2 h3 h4 => ?_)
    cases he with
    | normal => exact hQ _ _ a' w' s' G' .normal h1 h2 h3 h4
    | exit i =>
      show if i = id then Q .normal a' w' else Q (.exit i) a' w'
      dsimp only at h4
      by_cases hi : i = id
      · subst hi
        rw [if_pos rfl]
        rw [show Nat.beq i i = true by simp] at h4
        exact hQ _ _ a' w' s' G' .normal h1 h2 h3 h4
      · rw [if_neg hi]
        have hb : Nat.beq i id = false := by
          cases hb : Nat.beq i id with
          | false => rfl
          | true => exact absurd (Nat.eq_of_beq_eq_true hb) hi
        rw [hb] at h4
        exact hQ _ _ a' w' s' G' (.exit i) h1 h2 h3 h4
    | ret => exact hQ _ _ a' w' s' G' .ret h1 h2 h3 h4
  | .loop c, bid, K, s, a, w, G, Q, h, hs, hQ => by
    simp only [den] at h
    split at h
    · cases h
    · rename_i hh _
      cases hmay : hh.may s with
      | false => rw [hmay] at h; cases h
      | true =>
        rw [hmay] at h
        simp only [cond_true] at h
        split at h
        · cases h
        · rename_i v0 hv0
          have hin : ∀ p ∈ hh.bx, p.1 < s.b.length := by
            intro p hp
            unfold Hint.get at hv0
            split at hv0
            · rename_i l m hl hm
              obtain ⟨_, _, m3⟩ := getBx_spec hm
              obtain ⟨j, hj⟩ := List.getElem?_of_mem hp
              obtain ⟨c, _, hc, _⟩ := m3 j p.1 p.2.1 p.2.2.1 p.2.2.2 hj
              unfold St.cellB at hc
              split at hc
              · rename_i cs hcs
                exact (List.getElem?_eq_some_iff.1 hcs).1
              · cases hc
            · cases hv0
          have hlock : ∀ i off, i < s.fresh → (i, off) ∉ s.wr → (i, off) ∉ hh.bx.map (fun p => (p.1, p.2.1)) := by
            intro i off hi hw hm
            obtain ⟨p, hp, he⟩ := List.mem_map.1 hm
            have h1 := List.all_eq_true.1 hmay p hp
            obtain ⟨p1, p2, p3⟩ := p
            simp at he
            obtain ⟨rfl, rfl⟩ := he
            exact mayWrite_spec h1 p2 (Nat.le_refl _) (Nat.lt_succ_self _) ⟨hi, hw⟩
          have key : ∀ (k : Nat) (v : DenR hh.row) (s' : St) (a' : Act) (w' : World) (G' : Gh), Sim E G' w' s' a' → s'.n = s.n → Mono E G w G' w' → w.heap.size ≤ w'.heap.size → BoxFr G w w' hh →
              (∀ d, d ∉ dsts c → a'.tmps.getD d undef = a.tmps.getD d undef) → hh.get s' = some v →
              loopT k (fun R v => den cx CS H bid c (fun e s' => match e with
                | .normal => (match hh.get s' with
                  | some v' => R v'
                  | none => none)
                | .exit i => K (.exit i) (s'.relock s)
                | .ret => K .ret (s'.relock s)) (hh.put (dsts c) s v)) v = some r → Code.rounds P c Q k a' w' := by
            intro k
            induction k with
            | zero => intro v s' a' w' G' _ _ _ _ _ _ _ hl; cases hl
            | succ k ih =>
              intro v s' a' w' G' h1 hn hm hsz hbx htm hv hl
              obtain ⟨G1, q1, q2, q3⟩ := reput hs hin hn h1 hm hbx htm hv
              simp only [loopT] at hl
              refine den_sound htab hsp hmx hcs c bid hl q1 fun e e1 a2 w2 s2 G2 he g1 g2 g3 g4 => ?_
              have hm2 : Mono E G w G2 w2 := q2.trans hsz g2.mono
              have hsz2 : w.heap.size ≤ w2.heap.size := Nat.le_trans hsz g2.size
              have hbx2 : BoxFr G w w2 hh := by
                intro i blk arr T hi hh'
                obtain ⟨arr1, b1, b2, b3⟩ := hbx i blk arr T hi hh'
                obtain ⟨arr2, c1, c2, c3⟩ := g2.box i blk arr1 T (by rw [q3]; exact hi) b1
                refine ⟨arr2, c1, c2.trans b2, fun off ho => ?_⟩
                rw [← b3 off ho]
                refine c3 off ?_ ho
                show i < s.b.length
                rw [hs.m.len]
                exact (List.getElem?_eq_some_iff.1 hi).1
              have htm2 : ∀ d, d ∉ dsts c → a2.tmps.getD d undef = a.tmps.getD d undef := fun d hd => (g3 d hd).trans (htm d hd)
              have hn2 : s2.n = s.n := g2.n
              have hfr : Fr E G w s G2 w2 (s2.relock s) :=
                ⟨hm2, fun i blk arr T hi hh' => by
                    obtain ⟨arr1, b1, b2, b3⟩ := hbx2 i blk arr T hi hh'
                    exact ⟨arr1, b1, b2, fun off ho hw => b3 off (hlock i off ho hw)⟩,
                  hsz2, rfl, rfl, hn2⟩
              cases he with
              | normal =>
                dsimp only at g4
                split at g4
                · rename_i v' hv'
                  exact ih v' s2 a2 w2 G2 g1 hn2 hm2 hsz2 hbx2 htm2 hv' g4
                · cases g4
              | exit i => exact hQ _ _ a2 w2 _ G2 (.exit i) g1.relock hfr htm2 g4
              | ret => exact hQ _ _ a2 w2 _ G2 .ret g1.relock hfr htm2 g4
          exact wp_loop_rounds cx.n (key cx.n v0 s a w G hs rfl (.refl _ _ _) (Nat.le_refl _) (.refl _ _ _) (fun _ _ => rfl) hv0 h)
  | .goto _, bid, K, s, a, w, G, Q, h, hs, hQ => by simp [den] at h
  | .label _, bid, K, s, a, w, G, Q, h, hs, hQ => by simp [den] at h
  | .scope .., bid, K, s, a, w, G, Q, h, hs, hQ => by simp [den] at h

end
end Go.PM
