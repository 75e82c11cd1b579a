/- The pure machine, part 12: slices that are built, slices that grow. -/
import Derived.Test.YtcjmpignjljfbaaPM11
namespace Go.PM
open Go.RowKit
set_option linter.unusedVariables false
set_option linter.unusedSimpArgs false
section
variable {P : Program} {E : Env} {G G' : Gh} {w w' : World} {s : St}

/-- Cells that a list's elements lie in, one behind the other. -/
def CellsRep (w : World) (ok : Nat → Nat → Prop) (r : Row) (xs : List (DenR r)) (us : List Value) : Prop :=
  us.length = xs.length * sz r ∧ ∀ i j, i < xs.length → j < sz r → ∃ u, us[i * sz r + j]? = some u ∧ RepD w ok (((xs.map (toDs r)).getD i []).getD j dNo) u

theorem CellsRep.mono {ok ok' : Nat → Nat → Prop} (h : Stays w ok w' ok') {r : Row} {xs : List (DenR r)} {us : List Value} (hc : CellsRep w ok r xs us) : CellsRep w' ok' r xs us :=
  ⟨hc.1, fun i j hi hj => let ⟨u, h1, h2⟩ := hc.2 i j hi hj; ⟨u, h1, h2.mono h⟩⟩

theorem CellsRep.of_repD {ok : Nat → Nat → Prop} {r : Row} {xs : List (DenR r)} {a : Option Addr} {cap : Nat} (h : RepD w ok (toD (.sl r) xs) (.slice a xs.length cap)) {us : List Value} (hl : us.length = xs.length * sz r)
    (hu : ∀ (k : Nat) u, us[k]? = some u → ∀ ad, a = some ad → w.cell? (ad.add k) = some u) : CellsRep w ok r xs us := by
  refine ⟨hl, fun i j hi hj => ?_⟩
  obtain ⟨a', cap', hv, _, hc⟩ := h
  cases hv
  obtain ⟨ad, u, h1, h2, h3, h4⟩ := hc i j hi hj
  have hlt : i * sz r + j < us.length := by
    rw [hl]
    have : (i + 1) * sz r ≤ xs.length * sz r := Nat.mul_le_mul_right _ hi
    rw [Nat.add_mul] at this; omega
  have := hu _ _ (List.getElem?_eq_getElem hlt) ad h1
  rw [h3] at this; cases this
  exact ⟨_, List.getElem?_eq_getElem hlt, h4⟩

theorem CellsRep.append {ok : Nat → Nat → Prop} {r : Row} {xs ys : List (DenR r)} {us vs : List Value} (h1 : CellsRep w ok r xs us) (h2 : CellsRep w ok r ys vs) : CellsRep w ok r (xs ++ ys) (us ++ vs) := by
  refine ⟨by rw [List.length_append, List.length_append, h1.1, h2.1, Nat.add_mul], fun i j hi hj => ?_⟩
  rw [List.length_append] at hi
  by_cases hx : i < xs.length
  · obtain ⟨u, g1, g2⟩ := h1.2 i j hx hj
    have hlt := (List.getElem?_eq_some_iff.1 g1).1
    refine ⟨u, by rw [List.getElem?_append_left hlt]; exact g1, ?_⟩
    rw [map_getD _ _ _ (by simp; omega)]
    rw [map_getD _ _ _ hx] at g2
    rwa [List.getElem_append_left hx]
  · obtain ⟨u, g1, g2⟩ := h2.2 (i - xs.length) j (by omega) hj
    have he : i * sz r + j - us.length = (i - xs.length) * sz r + j := by
      rw [h1.1]
      obtain ⟨d, rfl⟩ : ∃ d, i = xs.length + d := ⟨i - xs.length, by omega⟩
      rw [Nat.add_mul, show xs.length + d - xs.length = d by omega]; omega
    have hge : us.length ≤ i * sz r + j := by
      rw [h1.1]
      have : xs.length * sz r ≤ i * sz r := Nat.mul_le_mul_right _ (by omega)
      omega
    refine ⟨u, by rw [List.getElem?_append_right hge, he]; exact g1, ?_⟩
    rw [map_getD _ _ _ (by simp; omega)]
    rw [map_getD _ _ _ (by omega)] at g2
    rwa [List.getElem_append_right (by omega)]

theorem CellsRep.repD {ok : Nat → Nat → Prop} {r : Row} {xs : List (DenR r)} {us : List Value} (h : CellsRep w ok r xs us) {g cap : Nat} (hn : xs.length ≤ cap)
    (hu : ∀ (k : Nat) u, us[k]? = some u → w.cell? ⟨g, k, none⟩ = some u ∧ ok g k) : RepD w ok (toD (.sl r) xs) (.slice (some ⟨g, 0, none⟩) xs.length cap) := by
  refine ⟨_, cap, rfl, hn, fun i j hi hj => ?_⟩
  obtain ⟨u, h1, h2⟩ := h.2 i j hi hj
  obtain ⟨g1, g2⟩ := hu _ _ h1
  exact ⟨_, u, rfl, by simpa using g2, by rw [Addr.add_lit]; simpa using g1, h2⟩

theorem repD_one {r : Row} {x : DenR r} {j : Nat} {u : Value} (hj : j < sz r) (h : RepD w (okG E G) ((toDs r x).getD j dNo) u) : u.oneCell' = true := by
  have hl : j < (expl r x).length := by rw [expl_length]; exact hj
  exact (expl_rep r x j _ u (List.getElem?_eq_getElem hl) h).2

theorem CellsRep.one {r : Row} {xs : List (DenR r)} {us : List Value} (h : CellsRep w (okG E G) r xs us) (hp : 0 < sz r) : ∀ u ∈ us, u.oneCell' = true := by
  intro u hu
  obtain ⟨k, hk⟩ := List.getElem?_of_mem hu
  have hlt := (List.getElem?_eq_some_iff.1 hk).1
  rw [h.1] at hlt
  have hi : k / sz r < xs.length := (Nat.div_lt_iff_lt_mul hp).2 hlt
  have hj : k % sz r < sz r := Nat.mod_lt _ hp
  obtain ⟨u', h1, h2⟩ := h.2 _ _ hi hj
  have he : k / sz r * sz r + k % sz r = k := by have := Nat.div_add_mod k (sz r); rw [Nat.mul_comm] at this; exact this
  rw [he, hk] at h1; cases h1
  rw [map_getD _ _ _ hi] at h2
  exact repD_one hj h2

/-! ### The end of an own slice moves on in its own block. -/
def Gh.grow (G : Gh) (e : Tok) (v : Value) (n : Nat) (xs : List Value) : Gh := { G with tk := ⟨G.nt, e.e, v, n, e.sz, xs⟩ :: G.tk.filter (fun e' => !(Nat.beq e'.id e.id)), nt := G.nt + 1 }

theorem SimM.grow (h : SimM E G w s) {e : Tok} (he : e ∈ G.tk) {v : Value} {n : Nat} {xs : List Value} (hown : w'.ownsRow E.base e.e e.sz v n xs) (hv : v.ownBlock = e.v.ownBlock) (hn : e.n ≤ n)
    (hother : ∀ b, some b ≠ e.v.ownBlock → w'.heap[b]? = w.heap[b]?) (hpre : ∀ b, e.v.ownBlock = some b → ∀ o, o < e.n * e.sz → ∀ a : Addr, a.block = b → a.off = o → w'.cell? a = w.cell? a)
    (hsz : w'.heap.size = w.heap.size) (hos : w'.os = w.os) (htape : w'.tape = w.tape) (hout : w'.output = w.output) :
    SimM E (G.grow e v n xs) w' { s with live := (s.nt, e.e) :: s.live.filter (fun p => !(Nat.beq p.1 e.id)), nt := s.nt + 1 } ∧ Mono E G w (G.grow e v n xs) w' := by
  have hrho : ∀ b, b ∈ G.rho → w'.heap[b]? = w.heap[b]? := fun b hb => hother b fun hbe => h.out e he b hbe.symm hb
  have hfil : ∀ e' ∈ G.tk.filter (fun e' => !(Nat.beq e'.id e.id)), e' ∈ G.tk ∧ e'.id ≠ e.id := by
    intro e' he'
    obtain ⟨h1, h2⟩ := List.mem_filter.1 he'
    refine ⟨h1, fun h3 => ?_⟩
    rw [h3] at h2; simp at h2
  have hm : Mono E G w (G.grow e v n xs) w' := by
    refine ⟨fun b o ho hb' => ⟨⟨ho.1, ho.2.1, fun e' he' hbl => ?_⟩, fun a ha hoff => ?_⟩, fun i b hi => hi, fun e' he' => ?_, Nat.le_succ _⟩
    · rcases List.mem_cons.1 he' with rfl | he'
      · have := ho.2.2 e he (hv ▸ hbl)
        exact Nat.lt_of_lt_of_le this (Nat.mul_le_mul_right _ hn)
      · exact ho.2.2 e' (hfil e' he').1 hbl
    · by_cases hbe : some b = e.v.ownBlock
      · exact hpre b hbe.symm o (ho.2.2 e he hbe.symm) a ha hoff
      · exact World.cell?_of_block (by rw [ha]; exact hother b hbe)
    · rcases List.mem_cons.1 he' with rfl | he'
      · exact .inr (Nat.le_refl _)
      · exact .inl (hfil e' he').1
  have hdiff : ∀ e' ∈ G.tk, e'.id ≠ e.id → ∀ b, e'.v.ownBlock = some b → some b ≠ e.v.ownBlock := by
    intro e' he' hid b hb hbe
    exact hid (congrArg Tok.id (h.apart e' he' e he b hb hbe.symm))
  refine ⟨⟨⟨fun i cs hi => ?_⟩, h.nodup, h.rge, ?_, ?_, ?_, ?_, ?_, ?_, by simp [Gh.grow, h.nt], ?_, by rw [hsz]; exact h.base, h.len⟩, hm⟩
  · obtain ⟨blk, arr', T', h1, h2, h3⟩ := h.b.box i cs hi
    exact ⟨blk, arr', T', h1, by rw [hrho blk (List.mem_iff_getElem?.2 ⟨i, h1⟩)]; exact h2, h3.mono hm⟩
  · intro e' he'
    rcases List.mem_cons.1 he' with rfl | he'
    · exact hown
    · obtain ⟨h1, hid⟩ := hfil e' he'
      obtain ⟨q1, q2⟩ := h.own e' h1
      refine ⟨q1, ?_⟩
      rcases q2 with q | ⟨g, cap, cur, p1, p2, p3, p4⟩
      · exact .inl q
      · exact .inr ⟨g, cap, cur, p1, p2, by rw [hother g (hdiff e' h1 hid g (by rw [p1]; rfl))]; exact p3, p4⟩
  · intro e' he'
    rcases List.mem_cons.1 he' with rfl | he'
    · exact Nat.lt_succ_self _
    · exact Nat.lt_succ_of_lt (h.ids e' (hfil e' he').1)
  · intro e' he' b hb
    rcases List.mem_cons.1 he' with rfl | he'
    · exact h.out e he b (hv ▸ hb)
    · exact h.out e' (hfil e' he').1 b hb
  · intro e1 h1 e2 h2 b hb1 hb2
    rcases List.mem_cons.1 h1 with rfl | h1 <;> rcases List.mem_cons.1 h2 with rfl | h2
    · rfl
    · exact absurd (hv ▸ hb1 : e.v.ownBlock = some b).symm (hdiff e2 (hfil e2 h2).1 (hfil e2 h2).2 b hb2)
    · exact absurd (hv ▸ hb2 : e.v.ownBlock = some b).symm (hdiff e1 (hfil e1 h1).1 (hfil e1 h1).2 b hb1)
    · exact h.apart e1 (hfil e1 h1).1 e2 (hfil e2 h2).1 b hb1 hb2
  · intro e1 h1 e2 h2 hid
    rcases List.mem_cons.1 h1 with rfl | h1 <;> rcases List.mem_cons.1 h2 with rfl | h2
    · rfl
    · have := h.ids e2 (hfil e2 h2).1; simp at hid; omega
    · have := h.ids e1 (hfil e1 h1).1; simp at hid; omega
    · exact h.name e1 (hfil e1 h1).1 e2 (hfil e2 h2).1 hid
  · intro p hp
    rcases List.mem_cons.1 hp with rfl | hp
    · exact ⟨_, List.mem_cons_self, by simp [h.nt], rfl⟩
    · obtain ⟨hp1, hp2⟩ := List.mem_filter.1 hp
      obtain ⟨e', he', hid, hee⟩ := h.live p hp1
      refine ⟨e', List.mem_cons_of_mem _ (List.mem_filter.2 ⟨he', ?_⟩), hid, hee⟩
      rw [hid]; exact hp2
  · refine h.bel.trans ⟨hos, htape, hout, by omega, fun k hk => hother k fun hke => ?_⟩
    have := ((h.own e he).lt k hke.symm).1
    omega


theorem repD_cells {ok : Nat → Nat → Prop} {r : Row} {xs : List (DenR r)} {v : Value} (h : RepD w ok (toD (.sl r) xs) v) (hp : 0 < sz r) :
    ∃ a cap us, v = .slice a xs.length cap ∧ xs.length ≤ cap ∧ CellsRep w ok r xs us ∧ (∀ ad, a = some ad → ∀ (k : Nat) u, us[k]? = some u → w.cell? (ad.add k) = some u) ∧ (a = none → xs = []) ∧
      (∀ ad, a = some ad → ∀ k, k < us.length → ok ad.block (ad.off + k)) := by
  obtain ⟨a, cap, hv, hn, hc⟩ := id h
  subst hv
  cases a with
  | none =>
    have hx : xs = [] := by
      cases xs with
      | nil => rfl
      | cons x xs => obtain ⟨ad, u, h1, _⟩ := hc 0 0 (by simp) hp; cases h1
    subst hx
    exact ⟨none, cap, [], rfl, hn, ⟨by simp, fun i j hi => by simp at hi⟩, (fun ad h => by cases h), fun _ => rfl, fun ad h => by cases h⟩
  | some ad =>
    have hk : ∀ k, k < xs.length * sz r → ∃ u, w.cell? (ad.add k) = some u ∧ ok ad.block (ad.off + k) := by
      intro k hk
      have hi : k / sz r < xs.length := (Nat.div_lt_iff_lt_mul hp).2 hk
      have hj : k % sz r < sz r := Nat.mod_lt _ hp
      obtain ⟨ad', u, h1, h2, h3, _⟩ := hc _ _ hi hj
      have he : k / sz r * sz r + k % sz r = k := by have := Nat.div_add_mod k (sz r); rw [Nat.mul_comm] at this; exact this
      cases h1
      rw [he] at h3 h2
      exact ⟨u, h3, h2⟩
    let us : List Value := (List.range (xs.length * sz r)).map fun k => (w.cell? (ad.add k)).getD undef
    have hus : ∀ (k : Nat) u, us[k]? = some u → w.cell? (ad.add k) = some u := by
      intro k u hu
      have hlt : k < xs.length * sz r := by have := (List.getElem?_eq_some_iff.1 hu).1; simpa [us] using this
      obtain ⟨u', h1, _⟩ := hk k hlt
      simp [us, hlt, h1] at hu
      subst hu; exact h1
    refine ⟨some ad, cap, us, rfl, hn, .of_repD h (by simp [us]) (fun k u hu ad' had => by cases had; exact hus k u hu), (fun ad' had k u hu => by cases had; exact hus k u hu), (fun h => by cases h), fun ad' had k hlt => ?_⟩
    cases had
    exact (hk k (by simpa [us] using hlt)).choose_spec.2

theorem run_append_zero {t ty e : TypeId} {i : TypeInfo} (ht : P.underlying t = some (.slice e)) (hi : P.info? e = some i) (base : Option Addr) (n cap : Nat) (hn : n ≤ cap) (a : Option Addr) (c : Nat) (w : World) :
    (Builtin.append_ #[t, t] ty #[.slice base n cap, .slice a 0 c]).run P w = .ok (.slice base n cap) w := by
  cases base <;> cases a <;> simp [Builtin.append_, run_underlying ht, sizeOf, typeInfo, hi, Builtin.lenOf, Builtin.firstCells, loadCells, loadCellsFrom, hn, storeCells]

theorem SimM.liveSub (h : SimM E G w s) {live : List (Nat × Nat)} (hl : ∀ p ∈ live, p ∈ s.live) : SimM E G w { s with live := live } :=
  { h with b := ⟨h.b.box⟩, live := fun p hp => h.live p (hl p hp) }

/-- Elements that go into a new block. -/
theorem fresh_next {ρ : Type} {k : PV → St → Option ρ} {r : ρ} (h : SimM E G w s) {e : TypeId} {row : Row} {xs : List (DenR row)} {us : List Value} (hc : CellsRep w (okG E G) row xs us) {w' : World} (hb : Below w.heap.size w w')
    {g cap : Nat} {arr : Array Value} (hg : w.heap.size ≤ g) (hh : w'.heap[g]? = some (.cells arr e (0, 0))) (hn : xs.length ≤ cap) (hcap : cap ≤ maxLen) (ha : arr.size = cap * sz row) (hu : arr.toList.take (xs.length * sz row) = us)
    {live : List (Nat × Nat)} (hl : ∀ p ∈ live, p ∈ s.live) (hk : k (.one (.sl row xs (s.nt + 1))) { s with live := (s.nt, e) :: live, nt := s.nt + 1 } = some r) :
    Next1 E G w s k r (.slice (some ⟨g, 0, none⟩) xs.length cap) w' := by
  have hown : w'.ownsRow w.heap.size e (sz row) (.slice (some ⟨g, 0, none⟩) xs.length cap) xs.length us := ⟨hc.1, .inr ⟨g, cap, arr, rfl, hg, hh, hn, hcap, ha, hu⟩⟩
  obtain ⟨h1, h2⟩ := (h.liveSub hl).addTok hb hown
  refine ⟨_, _, _, ?_, h1, .below hb h2 rfl rfl rfl, rfl, hk⟩
  refine ⟨?_, by simp [Gh.tok, h.nt], fun e' he' hid => ?_⟩
  · have hc' := hc.mono h2.stays
    refine hc'.repD hn fun j u hj => ⟨?_, ?_⟩
    · have := hown.cells (g := g) rfl j u hj
      rwa [Addr.add_lit, Nat.zero_add] at this
    · have hjl : j < xs.length * sz row := by rw [← hc.1]; exact (List.getElem?_eq_some_iff.1 hj).1
      refine ⟨fun hlt => by have := h.base; omega, fun hm => by have := h.rho_lt g hm; omega, fun e' he' hbl => ?_⟩
      rcases List.mem_cons.1 he' with rfl | he'
      · exact hjl
      · have := ((h.own e' he').lt g hbl).2; omega
  · rcases List.mem_cons.1 he' with rfl | he'
    · exact ⟨rfl, rfl, rfl⟩
    · have := h.ids e' he'
      have := h.nt
      simp at hid; omega

theorem append_next {ρ : Type} {k : PV → St → Option ρ} {r : ρ} (h : SimM E G w s) {t ty e es eb : Nat} {row : Row} (hT : TIok P t (.slice e es eb row)) {c d c' : Cell} {s' : St} {x0 x1 : Value} (h0 : RepC E G w c x0) (h1 : RepC E G w d x1)
    (ha : appendL s e es eb row c d = some (true, c', s')) (hk : k (.one c') s' = some r) :
    ∃ x w', (Builtin.append_ #[t, t] ty #[x0, x1]).run P w = .ok x w' ∧ Next1 E G w s k r x w' := by
  obtain ⟨hu, i, z, hinfo, hsz, hby, hz, hzs⟩ := hT.slice _ _ _ _ rfl
  unfold appendL at ha
  cases hq : (Nat.beq es (sz row) && (Nat.blt 0 es && Nat.blt 0 eb)) with
  | false => rw [hq] at ha; cases ha
  | true =>
    rw [hq] at ha
    simp only [cond_true] at ha
    simp only [Bool.and_eq_true, Nat.beq_eq, Nat.blt_eq] at hq
    obtain ⟨hes, hpos, hbpos⟩ := hq
    subst hes
    -- the two roads into one: a value that owns its cells (or nil), its name if it has one
    have main : ∀ (l0 : List (DenR row)) (live : List (Nat × Nat)) (tok : Option Tok), RepD w (okG E G) (toD (.sl row) l0) x0 →
        (match tok with
          | none => x0 = .slice none 0 0 ∧ live = s.live
          | some q => q ∈ G.tk ∧ x0 = q.v ∧ q.n = l0.length ∧ q.sz = sz row ∧ q.e = e ∧ live = s.live.filter (fun p => !(Nat.beq p.1 q.id))) →
        ∀ l1, proj (.sl row) d = some l1 → (l0.length + l1.length) * eb ≤ LIM → k (.one (.sl row (l0 ++ l1) (s.nt + 1))) { s with live := (s.nt, e) :: live, nt := s.nt + 1 } = some r →
        ∃ x w', (Builtin.append_ #[t, t] ty #[x0, x1]).run P w = .ok x w' ∧ Next1 E G w s k r x w' := by
      intro l0 live tok hr0 htok l1 hp hlim hk
      have hr1 := proj_rep h1 hp
      obtain ⟨a1, cap1, news, rfl, hn1, hc1, hnews, hnone1, _⟩ := repD_cells hr1 hpos
      obtain ⟨a0, cap0, olds, hx0, hn0, hc0, holds, hnone0, hok0⟩ := repD_cells hr0 hpos
      have hsub : ∀ p ∈ live, p ∈ s.live := by
        intro p hp
        cases tok with
        | none => rw [htok.2] at hp; exact hp
        | some q => rw [htok.2.2.2.2.2] at hp; exact (List.mem_filter.1 hp).1
      have hl1 : news.length = l1.length * i.size := by rw [hc1.1, hsz]
      have hl0 : olds.length = l0.length * i.size := by rw [hc0.1, hsz]
      have hone := hc1.one hpos
      have hm63 : l0.length + l1.length ≤ 140737488355328 := Nat.le_trans (Nat.le_mul_of_pos_right _ hbpos) hlim
      have hcc := hc0.append hc1
      by_cases hm : l1.length = 0
      · -- nothing is added
        have hle : l1 = [] := List.eq_nil_of_length_eq_zero hm
        subst hle
        simp only [List.append_nil, List.length_nil] at hk
        refine ⟨x0, w, by rw [hx0]; exact run_append_zero hu hinfo _ _ _ hn0 _ _ w, ?_⟩
        cases tok with
        | none =>
          obtain ⟨g1, g2⟩ := htok
          have hl0' : l0 = [] := List.eq_nil_of_length_eq_zero (by have := hx0.symm.trans g1; simp at this; omega)
          subst hl0'
          rw [g1]
          obtain ⟨q1, q2⟩ := (h.liveSub hsub).addTok (Below.refl _ _) (World.ownsRow_nil w w.heap.size e (sz row))
          refine ⟨_, _, _, ?_, q1, .below (Below.refl _ _) q2 rfl rfl rfl, rfl, hk⟩
          refine ⟨⟨none, 0, rfl, Nat.le_refl _, fun i j hi => by simp at hi⟩, by simp [Gh.tok, h.nt], fun e' he' hid => ?_⟩
          rcases List.mem_cons.1 he' with rfl | he'
          · exact ⟨rfl, rfl, rfl⟩
          · have := h.ids e' he'; have := h.nt; simp at hid; omega
        | some q =>
          obtain ⟨g1, g2, g3, g4, g5, g6⟩ := htok
          subst g6
          obtain ⟨q1, q2⟩ := h.grow g1 (w' := w) (v := q.v) (n := q.n) (xs := q.xs) (h.own q g1) rfl (Nat.le_refl _) (fun _ _ => rfl) (fun _ _ _ _ _ _ _ => rfl) rfl rfl rfl rfl
          rw [← g5] at hk
          refine ⟨_, _, _, ?_, q1, ⟨q2, fun i blk arr T _ h => ⟨arr, h, rfl, fun _ _ _ => rfl⟩, Nat.le_refl _, rfl, rfl, rfl⟩, rfl, hk⟩
          refine ⟨hr0.mono q2.stays, by simp [Gh.grow, h.nt], fun e' he' hid => ?_⟩
          rcases List.mem_cons.1 he' with rfl | he'
          · exact ⟨g2, g3, g4⟩
          · have := h.ids e' (List.mem_filter.1 he').1; have := h.nt; simp at hid; omega
      · obtain ⟨ad1, rfl⟩ : ∃ ad, a1 = some ad := by
          cases a1 with
          | none => exact absurd (by rw [hnone1 rfl]; rfl) hm
          | some ad => exact ⟨ad, rfl⟩
        have hnews' := hnews ad1 rfl
        by_cases hnil : x0 = .slice none 0 0
        · -- a first block
          have hl0' : l0 = [] := List.eq_nil_of_length_eq_zero (by have := hx0.symm.trans hnil; simp at this; omega)
          subst hl0'
          have ho : olds = [] := List.eq_nil_of_length_eq_zero (by rw [hl0]; simp)
          subst ho
          simp only [List.nil_append, List.length_nil, Nat.zero_add] at hk hlim hcc hm63
          have hrun := run_append_nil (P := P) w t ty e i z hu hinfo hz ad1 l1.length cap1 news hl1 hnews' (by omega) (by omega) (by rw [hby]; exact Nat.le_trans hlim (by unfold LIM; omega))
          rw [hnil]
          refine ⟨_, _, hrun, ?_⟩
          have hcl : l1.length ≤ maxLen := by unfold maxLen; omega
          refine fresh_next h hcc (w' := w.drew.alloc _) ((Below.refl _ _).drew.alloc (Nat.le_refl _) _) (Nat.le_refl _) (heap_alloc_new w.drew _) (grownCap_ge w _ _ _) (grownCap_le_maxLen w _ _ _ hcl) ?_ ?_ hsub hk
          · simp only [Array.size_append, List.size_toArray, size_zeroCells, hzs, hc1.1, ← Nat.add_mul]
            congr 1
            have := grownCap_ge w l1.length 0 e
            omega
          · simp only [Array.toList_append]
            rw [← hc1.1]; exact List.take_left
        · obtain ⟨q, hq⟩ : ∃ q, tok = some q := by
            cases tok with
            | none => exact absurd htok.1 hnil
            | some q => exact ⟨q, rfl⟩
          subst hq
          obtain ⟨g1, g2, g3, g4, g5, g6⟩ := htok
          obtain ⟨o1, o2⟩ := h.own q g1
          rcases o2 with ⟨o2, _⟩ | ⟨g, cap, cur, o2, o3, o4, o5, o6, o7, o8⟩
          · exact absurd (g2.trans o2) hnil
          · have hx0' : x0 = .slice (some ⟨g, 0, none⟩) l0.length cap := by rw [g2, o2, g3]
            rw [hx0] at hx0'
            cases hx0'
            have holds' := holds _ rfl
            rw [hx0]
            by_cases hroom : l0.length + l1.length ≤ cap0
            · -- there is room
              have hfit : l0.length * i.size + news.length ≤ cur.size := by rw [o7, g4, hc1.1, hsz, ← Nat.add_mul]; exact Nat.mul_le_mul_right _ hroom
              rw [g5] at o4
              have hrun := run_append_room (P := P) w t ty e i hu hinfo g l0.length cap0 cur o4 ad1 l1.length cap1 news hl1 hnews' hone hroom hfit
              refine ⟨_, _, hrun, ?_⟩
              have hxs : cur.toList.take (l0.length * sz row) = q.xs := by rw [← g3, ← g4]; exact o8
              have hxe : q.xs = olds := by
                apply List.ext_getElem?
                intro j
                by_cases hj : j < olds.length
                · have e1 := holds' j _ (List.getElem?_eq_getElem hj)
                  have hjx : j < q.xs.length := by rw [o1, g3, g4, ← hc0.1]; exact hj
                  have e2 := (h.own q g1).cells (g := g) (by rw [o2]; rfl) j _ (List.getElem?_eq_getElem hjx)
                  rw [List.getElem?_eq_getElem hj, List.getElem?_eq_getElem hjx]
                  exact e2.symm.trans e1
                · have hjx : ¬ j < q.xs.length := by rw [o1, g3, g4, ← hc0.1]; exact hj
                  rw [List.getElem?_eq_none (by omega), List.getElem?_eq_none (by omega)]
              have hnewsz : (cur.toList.take (l0.length * i.size) ++ news ++ cur.toList.drop (l0.length * i.size + news.length)).length = cur.size := by simp; omega
              have hown' : (w.setRow g (cur.toList.take (l0.length * i.size) ++ news ++ cur.toList.drop (l0.length * i.size + news.length)).toArray).ownsRow E.base q.e q.sz (.slice (some ⟨g, 0, none⟩) (l0.length + l1.length) cap0) (l0.length + l1.length) (olds ++ news) := by
                refine ⟨by rw [List.length_append, hc0.1, hc1.1, g4, Nat.add_mul], .inr ⟨g, cap0, _, rfl, o3, by rw [g5]; exact setRow_heap w g cur _ e _ o4, hroom, o6, ?_, ?_⟩⟩
                · rw [List.size_toArray, hnewsz]; exact o7
                · rw [hsz, hxs, hxe]
                  have : (l0.length + l1.length) * q.sz = (olds ++ news).length := by rw [List.length_append, hc0.1, hc1.1, g4, Nat.add_mul]
                  rw [this]
                  exact List.take_left
              subst g6
              obtain ⟨q1, q2⟩ := h.grow g1 hown' (by rw [o2]; rfl) (by omega) (fun b hb => setRow_other w g b _ (fun hbe => hb (by rw [o2, hbe]; rfl))) (by
                  intro b hb o ho a ha hoff
                  rw [o2] at hb
                  have hbg : g = b := by simpa [Value.ownBlock] using hb
                  subst hbg
                  simp only [World.cell?, ha, setRow_heap w g cur _ e _ o4, o4]
                  split
                  · rfl
                  · rw [hoff]
                    rw [List.append_assoc, List.getElem?_toArray, List.getElem?_append_left (by rw [List.length_take, hsz, ← g4, ← g3]; simp; have := o7; rw [g3] at ho ⊢; have := Nat.mul_le_mul_right q.sz o5; rw [g3] at this; omega)]
                    rw [List.getElem?_take, if_pos (by rw [hsz, ← g4, ← g3]; exact ho)]
                    simp) (by simp) rfl rfl rfl
              rw [← g5] at hk
              refine ⟨_, _, _, ?_, q1, ⟨q2, ?_, by simp, rfl, rfl, rfl⟩, rfl, hk⟩
              · refine ⟨?_, by simp [Gh.grow, h.nt], fun e' he' hid => ?_⟩
                · have hcc' := hcc.mono q2.stays
                  have := hcc'.repD (g := g) (cap := cap0) (by simpa using hroom) fun j u hj => ⟨?_, ?_⟩
                  · simpa using this
                  · have := hown'.cells (g := g) rfl j u hj
                    rwa [Addr.add_lit, Nat.zero_add] at this
                  · have hjl : j < (l0 ++ l1).length * sz row := by rw [← hcc.1]; exact (List.getElem?_eq_some_iff.1 hj).1
                    refine ⟨fun hlt => by omega, h.out q g1 g (by rw [o2]; rfl), fun e' he' hbl => ?_⟩
                    rcases List.mem_cons.1 he' with rfl | he'
                    · rw [← g4] at hjl; simpa using hjl
                    · obtain ⟨f1, f2⟩ := List.mem_filter.1 he'
                      have := h.apart e' f1 q g1 g hbl (by rw [o2]; rfl)
                      subst this; simp at f2
                · rcases List.mem_cons.1 he' with rfl | he'
                  · exact ⟨rfl, by simp, g4⟩
                  · have := h.ids e' (List.mem_filter.1 he').1; have := h.nt; simp at hid; omega
              · intro j blk arr T hj hh
                have hne : blk ≠ g := fun hbe => h.out q g1 g (by rw [o2]; rfl) (hbe ▸ List.mem_iff_getElem?.2 ⟨j, hj⟩)
                exact ⟨arr, by rw [setRow_other w g blk _ hne]; exact hh, rfl, fun _ _ _ => rfl⟩
            · -- a greater block
              have hfits := growslice_fits (need := l0.length + l1.length) (old := cap0) (bytes := eb) (by omega) hlim
              have hrun := run_append_grow (P := P) w t ty e i z hu hinfo hz ⟨g, 0, none⟩ l0.length cap0 olds hl0 holds' ad1 l1.length cap1 news hl1 hnews' (by omega) (by omega) (by rw [hby]; exact hfits)
              refine ⟨_, _, hrun, ?_⟩
              have hcl : l0.length + l1.length ≤ maxLen := by unfold maxLen; omega
              have := fresh_next (k := k) (r := r) h hcc (w' := w.drew.alloc (.cells (olds.toArray ++ news.toArray ++ Builtin.zeroCells z.cells (grownCap w (l0.length + l1.length) cap0 e - (l0.length + l1.length))) e)) ((Below.refl _ _).drew.alloc (Nat.le_refl _) _) (g := w.heap.size) (cap := grownCap w (l0.length + l1.length) cap0 e) (Nat.le_refl _) (heap_alloc_new w.drew _)
                (by rw [List.length_append]; exact grownCap_ge w _ _ _) (grownCap_le_maxLen w _ _ _ hcl) ?_ ?_ hsub hk
              · simpa using this
              · simp only [Array.size_append, List.size_toArray, size_zeroCells, hzs, hc1.1, hc0.1, ← Nat.add_mul]
                congr 1
                have := grownCap_ge w (l0.length + l1.length) cap0 e
                omega
              · rw [List.length_append, Nat.add_mul, ← hc0.1, ← hc1.1, ← List.length_append]
                simp only [Array.toList_append]
                exact List.take_left
    cases c with
    | nil =>
      simp only at ha
      split at ha
      · rename_i l1 hl1
        simp only [Option.some.injEq, Prod.mk.injEq, Nat.ble_eq] at ha
        obtain ⟨hlim, rfl, rfl⟩ := ha
        have hx : x0 = .slice none 0 0 := h0
        exact main [] s.live none (by rw [hx]; exact ⟨none, 0, rfl, Nat.le_refl _, fun i j hi => by simp at hi⟩) ⟨hx, rfl⟩ l1 hl1 hlim hk
      · cases ha
    | sl r' l tok =>
      cases tok with
      | zero => simp at ha
      | succ n =>
        simp only at ha
        cases hany : s.live.any (fun p => Nat.beq p.1 n && Nat.beq p.2 e) with
        | false => rw [hany] at ha; cases ha
        | true =>
          rw [hany] at ha
          simp only [cond_true] at ha
          split at ha
          · rename_i l0 hl0
            split at ha
            · rename_i l1 hl1
              simp only [Option.some.injEq, Prod.mk.injEq, Nat.ble_eq] at ha
              obtain ⟨hlim, rfl, rfl⟩ := ha
              simp only [proj] at hl0
              split at hl0
              · rename_i hb
                cases hl0
                have := beqR_eq hb
                subst this
                obtain ⟨p, hp, hpe⟩ := List.any_eq_true.1 hany
                simp only [Bool.and_eq_true, Nat.beq_eq] at hpe
                obtain ⟨q, hq, hid, hqe⟩ := h.live p hp
                obtain ⟨hr, _, htok⟩ := h0
                have hqn : q.id = n := hid.trans hpe.1
                obtain ⟨f1, f2, f3⟩ := htok q hq (by omega)
                refine main l _ (some q) hr ⟨hq, f1, f2, f3, hqe.trans hpe.2, rfl⟩ l1 hl1 hlim ?_
                have : q.id = n := hqn
                rw [this]; exact hk
              · cases hl0
            · cases ha
          · cases ha
    | _ => simp at ha

end
end Go.PM
