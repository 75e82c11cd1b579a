/- The pure machine, part 25: one step of a region whose order is open; the region. -/
import Derived.Test.YtcjmpignjljfbaaPM17
namespace Go.PM
open Go.RowKit
set_option linter.unusedVariables false
set_option linter.unusedSimpArgs false

theorem memV_den {cx : Ctx} {s s' : St} {op : Op} {v : PV} (h : memV cx s op = some (true, v, s')) : denMem (ρ := PV × St) cx (fun _ _ _ _ => none) s [] op (fun v s' => some (v, s')) = some (v, s') := by
  have gen : ∀ r : Option (PV × St), (match r with
      | some (v, s') => some (true, v, s')
      | none => none) = some (true, v, s') → r = some (v, s') := by
    intro r hr
    split at hr
    · cases hr; rfl
    · cases hr
  cases op with
  | call c =>
    obtain ⟨callee, as, ts⟩ := c
    cases callee with
    | value fo => exact gen _ h
    | invoke r m => exact gen _ h
    | builtin b =>
      cases b <;> first | (exact gen _ h) | skip
      simp only [memV] at h
      simp only [denMem]
      split at h
      · rename_i x y t u has hts
        cases hc : Nat.beq t u with
        | false => rw [hc] at h; cases h
        | true =>
          rw [hc] at h
          simp only [cond_true] at h ⊢
          split at h
          · rename_i e es eb row c d hty hx hy
            split at h
            · rename_i q c' s1 hap
              cases h
              rfl
            · cases h
          · cases h
      · cases h
  | _ => exact gen _ h

theorem cs_none {P : Program} {ρ : Type} : CSOK (ρ := ρ) P (fun _ _ _ _ => none) := fun f vs s k r h => by cases h

section
variable {P : Program} {E : Env} {G0 : Gh} {w0 : World} {a0 : Act} {cx : Ctx} {ops : Array Oper} {ancs : List (List Nat)} {s0 : St} {Ts : Nat → TE} {Ms : Nat → St}

theorem lockAt_n (ancs : List (List Nat)) (os : List Oper) (s0 : St) : (lockAt ancs os s0).n = s0.n ∧ (lockAt ancs os s0).b = s0.b ∧ (lockAt ancs os s0).live = s0.live ∧ (lockAt ancs os s0).nt = s0.nt := by
  unfold lockAt
  cases allExact ancs os 0 os <;> exact ⟨rfl, rfl, rfl, rfl⟩

/-- An operation is done: the next state. -/
theorem put_inv (hR : RunOK cx ops ancs s0 Ts Ms) {L : Nat → Prop} (hcl : ∀ (j : Nat) o, ops.toList[j]? = some o → L j → ∀ d ∈ depsOf o, L d) {a : Act} {w : World} {i : Nat} {o : Oper} (ho : ops.toList[i]? = some o) (hni : ¬ L i) (hd : ∀ d ∈ depsOf o, L d)
    {i0 i1 : Nat} {G G' : Gh} {w' : World} (hF : Fr E G0 w0 (Ms 0) G w (Ms i0)) (hF' : Fr E G w (Ms i0) G' w' (Ms i1)) (hi1 : i1 ≤ ops.toList.length) (hmem : ∀ (k : Nat) o, ops.toList[k]? = some o → isMemOp o.op = true → (k < i1 ↔ (L k ∨ k = i)))
    (hM : SimM E G' w' (Ms i1)) (hE : ∀ j d ids v, (j, d, ids, v) ∈ Ts ops.toList.length → L j → (IdsHold a ids ∧ RepP E G w v (a.tmps.getD d undef)) ∨ (¬ IdsHold a ids ∧ a.tmps.getD d undef = undef))
    (hU : ∀ d, (∀ (j : Nat) o, ops.toList[j]? = some o → L j → o.dst ≠ some d) → a.tmps.getD d undef = a0.tmps.getD d undef) (hsz : a.tmps.size = s0.n) (hdf : a.defers = []) {x : Value}
    (hx : ∀ d ids v, (i, d, ids, v) ∈ Ts ops.toList.length → (IdsHold a ids ∧ RepP E G' w' v x) ∨ (¬ IdsHold a ids ∧ x = undef)) :
    AInv E G0 w0 a0 ops s0 Ts Ms (fun j => L j ∨ j = i) (a.put o.dst x) w' := by
  -- an entry's conditions don't look at what is set
  have hids : ∀ j d ids v, (j, d, ids, v) ∈ Ts ops.toList.length → (L j ∨ j = i) → (IdsHold (a.put o.dst x) ids ↔ IdsHold a ids) := by
    intro j d ids v hm hj
    have hne : ∀ p ∈ ids, o.dst ≠ some p.1 := by
      intro p hp he
      have hw := wrOk_get (idsOk_get hR.ids j d ids v hm p hp) i o ho he
      rw [Nat.zero_add] at hw
      have hjl := (hR.idx _ (Nat.le_refl _) j d ids v hm)
      obtain ⟨_, oj, hoj, _⟩ := hjl
      rcases hj with hj | rfl
      · exact hni (RunOK_before hR hcl (j + 1) j (Nat.lt_succ_self _) oj hoj (hcl j oj hoj hj) i hw).1
      · have := (RunOK_before hR hcl (j + 1) j (Nat.lt_succ_self _) o ho hd j hw).2; omega
    constructor
    · intro hh p hp
      have := hh p hp
      rwa [put_frame a _ _ _ (hne p hp)] at this
    · intro hh p hp
      rw [put_frame a _ _ _ (hne p hp)]
      exact hh p hp
  refine ⟨i1, G', hi1, hmem, hM, hF.trans hF', ?_, ?_, ?_, ?_⟩
  · intro j d ids v hm hj
    rw [hids j d ids v hm hj]
    obtain ⟨hjl, oj, hoj, hdj⟩ := hR.idx _ (Nat.le_refl _) j d ids v hm
    by_cases hji : j = i
    · subst hji
      rw [ho] at hoj; cases hoj
      have hlt : d < a.tmps.size := by rw [hsz]; exact hR.lt d (List.mem_filterMap.2 ⟨o, List.mem_of_getElem? ho, hdj⟩)
      have he : (a.put o.dst x).tmps.getD d undef = x := by rw [hdj, put_getD, if_pos ⟨rfl, hlt⟩]
      rw [he]
      exact hx d ids v hm
    · have hL : L j := by rcases hj with h | h; exact h; exact absurd h hji
      have hne : o.dst ≠ some d := fun he => hji (dst_inj hR.nodup hoj ho hdj he)
      rw [put_frame a _ _ _ hne]
      rcases hE j d ids v hm hL with ⟨h1, h2⟩ | h1
      · exact .inl ⟨h1, h2.mono hF'.mono⟩
      · exact .inr h1
  · intro d hdd
    rw [put_frame a _ _ _ (hdd i o ho (.inr rfl))]
    exact hU d fun j oj hj hL => hdd j oj hj (.inl hL)
  · simp [Act.put]
    cases o.dst <;> simp [hsz]
  · cases hod : o.dst <;> simp [Act.put, hdf]

theorem any_step (htab : TabOk P cx.ti) (hsp : SpecsOK P cx) (hR : RunOK cx ops ancs s0 Ts Ms) (h0 : Sim E G0 w0 s0 a0) {L : Nat → Prop} (hcl : ∀ (j : Nat) o, ops.toList[j]? = some o → L j → ∀ d ∈ depsOf o, L d) {a : Act} {w : World}
    (hI : AInv E G0 w0 a0 ops s0 Ts Ms L a w) {i : Nat} {o : Oper} (ho : ops.toList[i]? = some o) (hni : ¬ L i) (hd : ∀ d ∈ depsOf o, L d) {K : Act → World → Prop} {Q : Exit → Act → World → Prop}
    (hK : ∀ a' w', AInv E G0 w0 a0 ops s0 Ts Ms (fun j => L j ∨ j = i) a' w' → K a' w') :
    if Region.wanted o (yielded ops a.tmps) then o.wp P a w K Q else K (a.put o.dst undef) w := by
  obtain ⟨i0, G, hi0, hmem, hM, hF, hE, hU, hsz, hdf⟩ := hI
  have hil := (List.getElem?_eq_some_iff.1 ho).1
  have hanc := RunOK_before hR hcl (i + 1) i (Nat.lt_succ_self _) o ho hd
  have hrev : ∀ (k : Nat) ok, ops.toList[k]? = some ok → i ∈ anc ancs k → ¬ L k ∧ i < k := by
    intro k ok hk hik
    refine ⟨fun hL => hni (RunOK_before hR hcl (k + 1) k (Nat.lt_succ_self _) ok hk (hcl k ok hk hL) i hik).1, ?_⟩
    exact (RunOK_before hR (L := fun _ => True) (fun _ _ _ _ _ _ => trivial) (k + 1) k (Nat.lt_succ_self _) ok hk (fun _ _ => trivial) i hik).2
  -- memory where the operation has its place among all that make or write
  have hex : exactB ancs i 0 ops.toList = true → (∀ (k : Nat) ok, ops.toList[k]? = some ok → isMemOp ok.op = true → (k < i ↔ L k)) := by
    intro he k ok hk hm
    have := exactB_get he k ok hk hm
    rw [Nat.zero_add] at this
    rcases this with h | h | h
    · obtain ⟨h1, h2⟩ := hanc k h; exact ⟨fun _ => h1, fun _ => h2⟩
    · obtain ⟨h1, h2⟩ := hrev k ok hk h; exact ⟨fun hx => by omega, fun hx => (h1 hx).elim⟩
    · subst h; exact ⟨fun hx => by omega, fun hx => (hni hx).elim⟩
  have hMi : exactB ancs i 0 ops.toList = true → Ms i = Ms i0 := fun he => hR.ms' (by omega) hi0 fun k ok hk hm => (hex he k ok hk hm).trans (hmem k ok hk hm).symm
  have hn0 : (Ms i0).n = s0.n := by rw [hF.n, hR.m0]; exact (lockAt_n _ _ _).1
  generalize hsi : stAt ancs ops.toList s0 (Ms i) i (Ts i) = si
  have hsin : si.n = s0.n := by
    rw [← hsi]
    unfold stAt
    cases he : exactB ancs i 0 ops.toList with
    | true => show (Ms i).n = s0.n; rw [hMi he, hn0]
    | false => rfl
  have hsit : si.t = pickT (anc ancs i) (Ts i) ++ startT ancs ops.toList i s0.t := by rw [← hsi]; rfl
  have ht : SimT E G w si a := by
    refine ⟨fun d ids v hm => ?_, by rw [hsz, hsin], hdf⟩
    rw [hsit] at hm
    rcases List.mem_append.1 hm with hm | hm
    · obtain ⟨j, hj1, hj2⟩ := pickT_mem hm
      exact hE j d ids v (hR.sub i _ (by omega) (Nat.le_refl _) _ hj1) (hanc j hj2).1
    · obtain ⟨rfl, hm1, hm2⟩ := startT_mem hm
      have hun : a.tmps.getD d undef = a0.tmps.getD d undef := hU d fun j oj hj hL he => by
        have := startOk_get hm2 j oj hj he
        rw [Nat.zero_add] at this
        rcases this with h | h
        · subst h; exact hni hL
        · exact (hrev j oj hj h).1 hL
      rw [hun]
      rcases h0.t.tm _ _ _ hm1 with ⟨_, g⟩ | ⟨g, _⟩
      · exact .inl ⟨idsHold_nil _, g.mono hF.mono⟩
      · exact (g (idsHold_nil _)).elim
  have hb : SimB E G w si := by
    cases he : exactB ancs i 0 ops.toList with
    | true =>
      have hbb : si.b = (Ms i0).b := by rw [← hsi]; unfold stAt; rw [he]; show (Ms i).b = _; rw [hMi he]
      exact ⟨fun j cs hj => by rw [hbb] at hj; exact hM.b.box j cs hj⟩
    | false =>
      have hbb : si.b = s0.b := by rw [← hsi]; unfold stAt; rw [he]; rfl
      have hlk : Ms 0 = { s0 with t := [], fresh := s0.b.length, wr := [] } := by
        rw [hR.m0]; unfold lockAt
        cases hal : allExact ancs ops.toList 0 ops.toList with
        | true => have := allExact_get hal i o ho; rw [Nat.zero_add, he] at this; cases this
        | false => rfl
      refine ⟨fun j cs hj => ?_⟩
      rw [hbb] at hj
      obtain ⟨blk, arr, T, g1, g2, g3⟩ := h0.m.b.box j cs hj
      obtain ⟨arr', k1, k2, k3⟩ := hF.box j blk arr T g1 g2
      have : arr' = arr := by
        apply Array.ext_getElem?
        intro off
        exact k3 off (by rw [hlk]; exact (List.getElem?_eq_some_iff.1 hj).1) (by rw [hlk]; simp)
      subst this
      exact ⟨blk, arr', T, hF.mono.rho _ _ g1, k1, g3.mono hF.mono⟩
  obtain ⟨hgr, hgs⟩ := guard_sound ht (ops := ops) (o := o)
  -- the next place among those that make or write, if this operation leaves memory alone
  have next : ∃ i1, i1 ≤ ops.toList.length ∧ (∀ (k : Nat) o, ops.toList[k]? = some o → isMemOp o.op = true → (k < i1 ↔ (L k ∨ k = i))) ∧ (Ms (i + 1) = Ms i → Ms i1 = Ms i0) := by
    cases hm : isMemOp o.op with
    | true =>
      have he := memExact_get hR.me i o ho hm
      rw [Nat.zero_add] at he
      refine ⟨i + 1, by omega, fun k ok hk hmk => ?_, fun heq => by rw [heq, hMi he]⟩
      rw [← hex he k ok hk hmk]; omega
    | false =>
      refine ⟨i0, hi0, fun k ok hk hmk => ?_, fun _ => rfl⟩
      rw [hmem k ok hk hmk]
      constructor
      · exact .inl
      · rintro (h | rfl)
        · exact h
        · rw [ho] at hk; cases hk; rw [hm] at hmk; cases hmk
  have quiet : ∀ x w', Below w.heap.size w w' → Ms (i + 1) = Ms i → (∀ d ids v, (i, d, ids, v) ∈ Ts ops.toList.length → (IdsHold a ids ∧ RepP E G w' v x) ∨ (¬ IdsHold a ids ∧ x = undef)) → K (a.put o.dst x) w' := by
    intro x w' hbel heq hx
    obtain ⟨i1, k1, k2, k3⟩ := next
    refine hK _ _ (put_inv hR hcl ho hni hd hF (w' := w') (G' := G) (i1 := i1) ?_ k1 k2 ?_ hE hU hsz hdf hx)
    · rw [k3 heq]; exact .below hbel (.below hbel) rfl rfl rfl
    · rw [k3 heq]; exact hM.below hbel
  have hstp := hR.stp i o ho
  generalize hT2 : Ts (i + 1) = T2 at hstp
  generalize hM2 : Ms (i + 1) = M2 at hstp
  cases hstp with
  | skip hg =>
    rw [hsi] at hg
    rw [hgs hg]
    refine quiet undef w (Below.refl _ _) hM2 fun d ids v hm => ?_
    obtain ⟨_, rfl, rfl⟩ := hR.at_ ho hT2 hm
    exact .inl ⟨idsHold_nil _, rfl⟩
  | pure ids g c v hg hv c1 c2 =>
    rw [hsi] at hg hv
    obtain ⟨g1, g2, g3⟩ := hgr ids g hg
    by_cases hw : Region.wanted o (yielded ops a.tmps) = true
    · rw [if_pos hw]
      have hi := g1.1 hw
      have hc : c = true := by
        cases g with
        | none => exact c1 rfl
        | some q => exact c2 (by rw [(g3 q rfl).1 hi])
      subst hc
      refine opP_sound htab hsp hv ht hb hM hi fun x w' hbel hx => quiet x w' hbel hM2 fun d ids' v' hm => ?_
      obtain ⟨_, rfl, rfl⟩ := hR.at_ ho hT2 hm
      exact .inl ⟨hi, hx⟩
    · rw [if_neg hw]
      refine quiet undef w (Below.refl _ _) hM2 fun d ids' v' hm => ?_
      obtain ⟨_, rfl, rfl⟩ := hR.at_ ho hT2 hm
      exact .inr ⟨fun hi => hw (g1.2 hi), rfl⟩
  | mem ids v s' hg hmo he hv =>
    rw [hsi] at hg hv
    obtain ⟨g1, g2, _⟩ := hgr ids none hg
    have hids := g2 rfl
    subst hids
    have hw := g1.2 (idsHold_nil a)
    rw [if_pos hw]
    have hsie : si = { Ms i with t := si.t } := by
      rw [← hsi]; unfold stAt; rw [he]; rfl
    have hMs : SimM E G w si := by
      rw [hsie]
      exact (hM.congr (s' := { Ms i with t := si.t }) (by show (Ms i).b = _; rw [hMi he]) (by show (Ms i).live = _; rw [hMi he]) (by show (Ms i).nt = _; rw [hMi he]))
    refine denMem_sound htab cs_none (memV_den hv) hMs ht (idsHold_nil a) fun x w' hx => ?_
    obtain ⟨v1, s1, G1, k1, k2, k3, k4, k5⟩ := hx
    cases k5
    have hfr : Fr E G w (Ms i0) G1 w' (Ms (i + 1)) := by
      rw [hM2, ← hMi he]
      rw [hsie] at k3
      exact ⟨k3.mono, k3.box, k3.size, k3.fresh, k3.wr, k3.n⟩
    refine hK _ _ (put_inv hR hcl ho hni hd hF (w' := w') (G' := G1) (i1 := i + 1) hfr (by omega) (fun k ok hk hmk => ?_) ?_ hE hU hsz hdf fun d ids' v' hm => ?_)
    · rw [← hex he k ok hk hmk]; omega
    · rw [hM2]; exact k2.congr rfl rfl rfl
    · obtain ⟨_, rfl, rfl⟩ := hR.at_ ho hT2 hm
      exact .inl ⟨idsHold_nil _, k1⟩


theorem getD_replicate (m j : Nat) : (Array.replicate m false).getD j false = false := by
  rcases Nat.lt_or_ge j m with h | h
  · simp [h]
  · simp [h]

theorem listed_set {listed : Array Bool} {i : Nat} (hi : i < listed.size) (j : Nat) : (listed.setIfInBounds i true).getD j false = true ↔ (listed.getD j false = true ∨ j = i) := by
  simp only [Array.getD_eq_getD_getElem?, Array.getElem?_setIfInBounds]
  by_cases h : i = j
  · subst h; simp [hi]
  · have h' : ¬ j = i := fun e => h e.symm
    simp [h, h']

theorem count_set : ∀ {l : List Bool} {i : Nat}, l[i]? = some false → (l.set i true).count false + 1 = l.count false
  | [], i, h => by simp at h
  | b :: l, 0, h => by simp at h; subst h; simp
  | b :: l, i + 1, h => by
    have := count_set (l := l) (i := i) (by simpa using h)
    simp only [List.set_cons_succ, List.count_cons]
    omega

theorem any_sound {ρ : Type} (htab : TabOk P cx.ti) (hsp : SpecsOK P cx) (hR : RunOK cx ops ancs s0 Ts Ms) (h0 : Sim E G0 w0 s0 a0) {Q : Exit → Act → World → Prop}
    (hQ : ∀ a w G, Sim E G w (fin ops.toList s0 (Ts ops.toList.length) (Ms ops.toList.length)) a → Fr E G0 w0 s0 G w (fin ops.toList s0 (Ts ops.toList.length) (Ms ops.toList.length)) → (∀ d, d ∉ ops.toList.filterMap (·.dst) → a.tmps.getD d undef = a0.tmps.getD d undef) → Q .normal a w) :
    ∀ (fuel : Nat) (listed : Array Bool) (a : Act) (w : World), listed.size = ops.size → listed.toList.count false ≤ fuel →
      (∀ (j : Nat) o, ops.toList[j]? = some o → listed.getD j false = true → ∀ d ∈ depsOf o, listed.getD d false = true) →
      AInv E G0 w0 a0 ops s0 Ts Ms (fun j => listed.getD j false = true) a w → wpAny P .any ops Q fuel listed a w := by
  -- nothing is ready: all have come up
  have all : ∀ (listed : Array Bool), listed.size = ops.size → Region.ready .any ops listed = [] → ∀ (j m : Nat), m < j → m < ops.toList.length → listed.getD m false = true := by
    intro listed hsz hr j
    induction j with
    | zero => intro m hm; omega
    | succ j ih =>
      intro m hm hml
      by_cases hmj : m < j
      · exact ih m hmj hml
      · have : m = j := by omega
        subst this
        have ho : ops.toList[m]? = some ops.toList[m] := List.getElem?_eq_getElem hml
        cases hl : listed.getD m false with
        | true => rfl
        | false =>
          have hin : m ∈ Region.ready .any ops listed := by
            rw [mem_ready]
            have hms : m < listed.size := by rw [hsz]; simpa using hml
            refine ⟨?_, ops.toList[m], by rw [← Array.getElem?_toList]; exact ho, fun e he hb => ?_⟩
            · simp only [Array.getD_eq_getD_getElem?, Array.getElem?_eq_getElem hms] at hl ⊢
              exact hl
            · have hd : e.on ∈ depsOf ops.toList[m] := depsL_mem (Array.mem_toList_iff.2 he) hb
              have hk := ancOk_get hR.ancok m _ ho
              rw [Nat.zero_add] at hk
              simp only [ancOk1, Bool.and_eq_true, List.all_eq_true, Nat.blt_eq] at hk
              have hlt := hk.1 _ hd
              exact ih e.on hlt (by omega)
          rw [hr] at hin; cases hin
  have done : ∀ (listed : Array Bool) a w, (∀ m, m < ops.toList.length → listed.getD m false = true) → AInv E G0 w0 a0 ops s0 Ts Ms (fun j => listed.getD j false = true) a w → Q .normal a w := by
    rintro listed a w hall ⟨i0, G, hi0, hmem, hM, hF, hE, hU, hsz, hdf⟩
    have hms : Ms ops.toList.length = Ms i0 := hR.ms' (Nat.le_refl _) hi0 fun k ok hk hm => by
      have hlt := (List.getElem?_eq_some_iff.1 hk).1
      rw [hmem k ok hk hm]
      exact ⟨fun _ => hall k hlt, fun _ => hlt⟩
    have hUd : ∀ d, d ∉ ops.toList.filterMap (·.dst) → a.tmps.getD d undef = a0.tmps.getD d undef := fun d hd => hU d fun j oj hj _ he => hd (List.mem_filterMap.2 ⟨oj, List.mem_of_getElem? hj, he⟩)
    have hn0 : (Ms i0).n = s0.n := by rw [hF.n, hR.m0]; exact (lockAt_n _ _ _).1
    refine hQ a w G ⟨⟨?_, ?_, hdf⟩, ?_⟩ ?_ hUd
    · intro d ids v hm
      rcases List.mem_append.1 hm with hm | hm
      · obtain ⟨⟨j, e⟩, h1, h2⟩ := List.mem_map.1 hm
        cases h2
        exact hE j d ids v h1 (hall j (hR.idx _ (Nat.le_refl _) _ _ _ _ h1).1)
      · obtain ⟨rfl, h1, h2⟩ := keepT_mem hm
        rw [hUd d h2]
        rcases h0.t.tm _ _ _ h1 with ⟨_, g⟩ | ⟨g, _⟩
        · exact .inl ⟨idsHold_nil _, g.mono hF.mono⟩
        · exact (g (idsHold_nil _)).elim
    · show a.tmps.size = (Ms ops.toList.length).n
      rw [hms, hn0, hsz]
    · exact hM.congr (by show (Ms ops.toList.length).b = _; rw [hms]) (by show (Ms ops.toList.length).live = _; rw [hms]) (by show (Ms ops.toList.length).nt = _; rw [hms])
    · refine ⟨hF.mono, fun i blk arr T hi hh => ?_, hF.size, rfl, rfl, by show (Ms ops.toList.length).n = _; rw [hms, hn0]⟩
      obtain ⟨arr', k1, k2, k3⟩ := hF.box i blk arr T hi hh
      refine ⟨arr', k1, k2, fun off hl hw => k3 off ?_ ?_⟩
      · rw [hR.m0]; unfold lockAt
        cases allExact ancs ops.toList 0 ops.toList with
        | true => exact hl
        | false =>
          show i < s0.b.length
          rw [h0.m.len]
          exact (List.getElem?_eq_some_iff.1 hi).1
      · rw [hR.m0]; unfold lockAt
        cases allExact ancs ops.toList 0 ops.toList with
        | true => exact hw
        | false => intro h; cases h
  intro fuel
  induction fuel with
  | zero =>
    intro listed a w hsz hc hcl hI
    have hall : ∀ m, m < ops.toList.length → listed.getD m false = true := by
      intro m hm
      have hms : m < listed.size := by rw [hsz]; simpa using hm
      have hg : listed.toList[m]? = some listed[m] := by simp [hms]
      cases hb : listed[m] with
      | true => simp [Array.getD_eq_getD_getElem?, hms, hb]
      | false =>
        rw [hb] at hg
        have := count_set hg
        omega
    refine ⟨?_, done listed a w hall hI⟩
    apply List.eq_nil_iff_forall_not_mem.2
    intro j hj
    obtain ⟨h1, o, ho, _⟩ := mem_ready.1 hj
    have hlt := (Array.getElem?_eq_some_iff.1 ho).1
    have := hall j (by simpa using hlt)
    have hms : j < listed.size := by rw [hsz]; exact hlt
    simp only [Array.getD_eq_getD_getElem?, Array.getElem?_eq_getElem hms] at h1 this
    simp at h1 this
    rw [h1] at this; cases this
  | succ fuel ih =>
    intro listed a w hsz hc hcl hI
    refine ⟨fun hr => done listed a w (fun m hm => all listed hsz hr (m + 1) m (Nat.lt_succ_self _) hm) hI, fun i hi => ?_⟩
    obtain ⟨h1, o, ho, hdep⟩ := mem_ready.1 hi
    have hlt := (Array.getElem?_eq_some_iff.1 ho).1
    have hms : i < listed.size := by rw [hsz]; exact hlt
    have hfalse : listed[i] = false := by simpa [Array.getD_eq_getD_getElem?, hms] using h1
    have hni : ¬ listed.getD i false = true := by simp [Array.getD_eq_getD_getElem?, hms, hfalse]
    have hd : ∀ d ∈ depsOf o, listed.getD d false = true := by
      intro d hd
      obtain ⟨e, he, hb, hed⟩ := depsL_of hd
      rw [← hed]
      exact hdep e (Array.mem_toList_iff.1 he) hb
    have hol : ops.toList[i]? = some o := by rw [Array.getElem?_toList]; exact ho
    have hst := any_step (K := wpAny P .any ops Q fuel (listed.setIfInBounds i true)) (Q := Q) htab hsp hR h0 hcl hI hol hni hd fun a' w' hI' => by
      refine ih _ a' w' (by simp [hsz]) ?_ ?_ ?_
      · have hg : listed.toList[i]? = some false := by simp [hms, hfalse]
        have := count_set hg
        rw [Array.toList_setIfInBounds]
        omega
      · intro j oj hj hL d hdj
        rw [listed_set hms] at hL ⊢
        rcases hL with hL | rfl
        · exact .inl (hcl j oj hj hL d hdj)
        · rw [hol] at hj; cases hj; exact .inl (hd d hdj)
      · have : (fun j => (listed.setIfInBounds i true).getD j false = true) = fun j => listed.getD j false = true ∨ j = i := funext fun j => propext (listed_set hms j)
        rw [this]; exact hI'
    unfold wpOp
    rw [ho]
    dsimp only
    by_cases hw : Region.wanted o (yielded ops a.tmps) = true
    · rw [if_pos hw] at hst ⊢; exact .inl hst
    · rw [if_neg hw] at hst ⊢; exact hst

theorem denAny_sound {ρ : Type} (htab : TabOk P cx.ti) (hsp : SpecsOK P cx) (hmx : P.follows .mixedOrders = true) {K : St → Option ρ} {r : ρ} (h : denAny cx ops ancs K s0 = some r) {G : Gh} {w : World} {a : Act} (hs : Sim E G w s0 a) {id : Nat} {Q : Exit → Act → World → Prop}
    (hQ : ∀ a' w' s' G', Sim E G' w' s' a' → Fr E G w s0 G' w' s' → (∀ d, d ∉ ops.toList.filterMap (·.dst) → a'.tmps.getD d undef = a.tmps.getD d undef) → K s' = some r → Q .normal a' w') : (Code.region id ops true).wp P Q a w := by
  unfold denAny at h
  cases hc : (ancOk ancs 0 ops.toList && (distinctN (ops.toList.filterMap (·.dst)) && ((ops.toList.filterMap (·.dst)).all (fun d => Nat.blt d s0.n) && memExact ancs ops.toList 0 ops.toList))) with
  | false => rw [hc] at h; cases h
  | true =>
    rw [hc] at h
    simp only [cond_true] at h
    simp only [Bool.and_eq_true, List.all_eq_true, Nat.blt_eq] at hc
    obtain ⟨c1, c2, c3, c4⟩ := hc
    obtain ⟨Ts, Ms, e1, e2, e3, e4, e5⟩ := denAnyL_run _ _ _ _ h
    simp only [Nat.zero_add] at e3 e4 e5
    have hR : RunOK cx ops ancs s0 Ts Ms := ⟨c1, distinctN_nodup c2, c3, c4, e1, e2, e3, e4⟩
    have hb : Below w.heap.size w { w with drawn := w.drawn + 1 } := ⟨rfl, rfl, rfl, Nat.le_refl _, fun _ _ => rfl⟩
    have h0 := hs.below hb
    have hl0 := lockAt_n ancs ops.toList s0
    refine wp_region_any hmx (any_sound (ρ := ρ) htab hsp hR h0 (fun a' w' G' h1 h2 h3 => hQ a' w' _ G' h1 ((Fr.below hb (.below hb) rfl rfl rfl : Fr E G w s0 G _ s0).trans h2) h3 e5) ops.size _ a _ (by simp) (by simp) ?_ ?_)
    · intro j o hj hL
      rw [getD_replicate] at hL; cases hL
    · refine ⟨0, G, Nat.zero_le _, fun k o hk hm => ⟨fun hx => by omega, fun hx => by have hx' : (Array.replicate ops.size false).getD k false = true := hx; rw [getD_replicate] at hx'; cases hx'⟩, ?_, .refl _ _ _ _, ?_, fun d _ => rfl, h0.t.n, h0.t.df⟩
      · rw [hR.m0]; exact h0.m.congr hl0.2.1 hl0.2.2.1 hl0.2.2.2
      · intro j d ids v _ hL
        have hL' : (Array.replicate ops.size false).getD j false = true := hL
        rw [getD_replicate] at hL'; cases hL'

end
end Go.PM
