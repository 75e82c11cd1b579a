/- The pure machine, part 8: the rest of what only reckons, and all of it in one theorem. -/
import Derived.Test.YtcjmpignjljfbaaPM7
namespace Go.PM
set_option linter.unusedVariables false
set_option linter.unusedSimpArgs false
section
variable {P : Program} {E : Env} {G : Gh} {w : World}

theorem run_mapMList {w : World} {α β : Type} (f : α → Sem β) (g : α → β) : ∀ (l : List α), (∀ x ∈ l, (f x).run P w = .ok (g x) w) → (l.mapM f).run P w = .ok (l.map g) w
  | [], _ => by simp
  | x :: l, h => by
    simp only [List.mapM_cons, Sem.run_bind, h x List.mem_cons_self, Result.andThen_ok]
    rw [run_mapMList f g l fun y hy => h y (List.mem_cons_of_mem _ hy)]
    simp

theorem run_mapMArr {w : World} {α β : Type} (f : α → Sem β) (g : α → β) (a : Array α) (h : ∀ x ∈ a.toList, (f x).run P w = .ok (g x) w) : (a.mapM f).run P w = .ok (a.map g) w := by
  rw [Array.mapM_eq_mapM_toList]
  simp only [Sem.run_map]
  rw [run_mapMList f g a.toList h]
  simp only [Result.andThen]
  congr 1
  apply Array.ext'
  simp

theorem take_set_succ (l : List Value) (i : Nat) (v : Value) (h : i < l.length) : (l.set i v).take (i + 1) = l.take i ++ [v] := by
  apply List.ext_getElem?
  intro j
  rw [List.getElem?_take]
  by_cases h1 : j < i
  · rw [if_pos (by omega), List.getElem?_set_ne (by omega), List.getElem?_append_left (by simp; omega), List.getElem?_take, if_pos h1]
  · by_cases h2 : j = i
    · subst h2
      rw [if_pos (by omega), List.getElem?_set_self h, List.getElem?_append_right (by simp; omega)]
      have : j - (List.take j l).length = 0 := by simp; omega
      rw [this]; rfl
    · rw [if_neg (by omega), List.getElem?_eq_none (by simp; omega)]

theorem drop_set_lt (l : List Value) (i m : Nat) (v : Value) (h : i < m) : (l.set i v).drop m = l.drop m := by
  apply List.ext_getElem?
  intro j
  rw [List.getElem?_drop, List.getElem?_drop, List.getElem?_set_ne (by omega)]

theorem setRange : ∀ (vs : List Value) (k off : Nat) (cells : Array Value), off + k + vs.length ≤ cells.size →
    ((vs.zipIdx k).foldl (fun (cs : Array Value) (p : Value × Nat) => cs.setIfInBounds (off + p.2) p.1) cells).toList = cells.toList.take (off + k) ++ (vs ++ cells.toList.drop (off + k + vs.length))
  | [], k, off, cells, _ => by simp
  | v :: vs, k, off, cells, h => by
    simp only [List.zipIdx_cons, List.foldl_cons]
    simp only [List.length_cons] at h
    rw [setRange vs (k + 1) off _ (by simp; omega)]
    simp only [Array.toList_setIfInBounds, List.length_cons]
    rw [← Nat.add_assoc, take_set_succ _ _ _ (by simp; omega), drop_set_lt _ _ _ _ (by omega)]
    have : off + k + 1 + vs.length = off + k + (vs.length + 1) := by omega
    rw [this]
    simp

theorem fillCells (v : Value) (off : Nat) (cells : Array Value) (h : off + v.cells.size ≤ cells.size) :
    (v.cells.zipIdx.foldl (fun cs (x : Value × Nat) => match x with | (c, j) => cs.setIfInBounds (off + j) c) cells).toList = cells.toList.take off ++ (v.cells.toList ++ cells.toList.drop (off + v.cells.size)) := by
  have := setRange v.cells.toList 0 off cells (by simpa using h)
  rw [← Array.foldl_toList]
  simpa using this

theorem RepCs.app {cs ds : List Cell} : ∀ {us vs : List Value}, RepCs E G w cs us → RepCs E G w ds vs → RepCs E G w (cs ++ ds) (us ++ vs) := by
  induction cs with
  | nil => intro us vs h1 h2; rw [show us = [] from h1]; exact h2
  | cons c cs ih =>
    rintro us vs ⟨u, us', rfl, h1, h2⟩ h3
    exact ⟨u, us' ++ vs, rfl, h1, ih h2 h3⟩

theorem RepCs.takeC {cs : List Cell} : ∀ {us : List Value} (n : Nat), RepCs E G w cs us → RepCs E G w (cs.take n) (us.take n) := by
  induction cs with
  | nil => intro us n h; rw [show us = [] from h]; simp [RepCs]
  | cons c cs ih =>
    rintro us n ⟨u, us', rfl, h1, h2⟩
    cases n with
    | zero => simp [RepCs]
    | succ n => exact ⟨u, us'.take n, rfl, h1, ih n h2⟩

theorem RepCs.dropC {cs : List Cell} : ∀ {us : List Value} (n : Nat), RepCs E G w cs us → RepCs E G w (cs.drop n) (us.drop n) := by
  induction cs with
  | nil => intro us n h; rw [show us = [] from h]; simp [RepCs]
  | cons c cs ih =>
    rintro us n ⟨u, us', rfl, h1, h2⟩
    cases n with
    | zero => exact ⟨u, us', rfl, h1, h2⟩
    | succ n => exact ih n h2

theorem fill_rep {F : List Field} {fs : List (Nat × Nat × Bool)} {N : Nat} (hf : fieldsAre P N F fs = true) (place : Nat → Option (Nat × Nat))
    (hplace : ∀ (i o n : Nat) g, fs[i]? = some (o, n, g) → place i = some (o, n)) :
    ∀ (ps : List (Nat × List Cell)) (vs : List (Nat × Value)) (z : List Cell) (cells : Array Value) (out : List Cell),
      ps.length = vs.length → (∀ (k : Nat) p q, ps[k]? = some p → vs[k]? = some q → p.1 = q.1 ∧ RepCs E G w p.2 q.2.cells.toList) →
      RepCs E G w z cells.toList → fillC fs ps z = some out → ∃ r, Instr.fill place cells vs = some r ∧ RepCs E G w out r.toList
  | [], vs, z, cells, out, hl, _, hz, h => by
    have : vs = [] := List.eq_nil_of_length_eq_zero hl.symm
    subst this
    simp [fillC] at h; subst h
    exact ⟨cells, rfl, hz⟩
  | (i, cs) :: ps, [], z, cells, out, hl, _, _, _ => by simp at hl
  | (i, cs) :: ps, (j, v) :: vs, z, cells, out, hl, hp, hz, h => by
    have h0 := hp 0 (i, cs) (j, v) rfl rfl
    obtain ⟨rfl, hcs⟩ := h0
    simp only [fillC] at h
    split at h
    · rename_i o n g hfi
      cases hc : (Nat.beq cs.length n && Nat.ble (o + n) z.length) with
      | false => rw [hc] at h; cases h
      | true =>
        rw [hc] at h
        simp only [cond_true] at h
        simp only [Bool.and_eq_true, Nat.beq_eq, Nat.ble_eq] at hc
        obtain ⟨hc1, hc2⟩ := hc
        have hlen : v.cells.size = n := by have := hcs.length; simp at this; omega
        have hzl : cells.size = z.length := by have := hz.length; simpa using this
        have hfill := fillCells v o cells (by omega)
        obtain ⟨r, hr1, hr2⟩ := fill_rep hf place hplace ps vs _ (v.cells.zipIdx.foldl (fun cs (x : Value × Nat) => match x with | (c, j) => cs.setIfInBounds (o + j) c) cells) out (by simpa using hl)
          (fun k p q h1 h2 => hp (k + 1) p q (by simpa using h1) (by simpa using h2)) (by
            rw [hfill, hlen]
            exact (hz.takeC o).app (hcs.app (hz.dropC (o + n)))) h
        refine ⟨r, ?_, hr2⟩
        simp only [Instr.fill, hplace _ _ _ _ hfi]
        rw [if_neg]
        · exact hr1
        · simp only [Bool.or_eq_true, bne_iff_ne, decide_eq_true_eq, ne_eq]
          omega
    · cases h

theorem evParts_rep {s : St} {a : Act} (ht : SimT E G w s a) {ids : List (Nat × Bool)} (hi : IdsHold a ids) : ∀ {ps : List (Nat × Operand)} {l : List (Nat × List Cell)}, evParts (s.ev ids) ps = some l →
    l.length = ps.length ∧ ∀ (k : Nat) p q, l[k]? = some p → (ps.map fun x => (x.1, a.eval x.2))[k]? = some q → p.1 = q.1 ∧ RepCs E G w p.2 q.2.cells.toList
  | [], l, h => by simp [evParts] at h; subst h; exact ⟨rfl, fun k p q hp => by simp at hp⟩
  | (i, x) :: ps, l, h => by
    simp only [evParts] at h
    split at h
    · rename_i v l' hv hl'
      split at h
      · rename_i cs hcs
        cases h
        obtain ⟨h1, h2⟩ := evParts_rep ht hi hl'
        refine ⟨by simp [h1], fun k p q hp hq => ?_⟩
        cases k with
        | zero =>
          simp at hp hq; subst hp; subst hq
          exact ⟨rfl, pvCells_rep (ev_rep ht hi hv) hcs⟩
        | succ k => exact h2 k p q (by simpa using hp) (by simpa using hq)
      · cases h
    · cases h

theorem build_gives {tis : Nat → Option TI} (htab : TabOk P tis) {s : St} {a : Act} (ht : SimT E G w s a) {ids : List (Nat × Bool)} (hi : IdsHold a ids) (t : TypeId) (ps : Array (Nat × Operand)) :
    GivesR P E G w (Instr.build t (ps.map fun (i, x) => (i, a.eval x))) (opV tis s ids (.build t ps)) := by
  simp only [opV]
  split
  · rename_i z fs cmp l hty hl
    split
    · rename_i cs hcs
      refine .ok ?_
      have hT := tiB_ok (htab _ _ hty)
      obtain ⟨i, zv, hinfo, hsz, hz, hpv⟩ := hT.info
      obtain ⟨F, hu, hfs, _⟩ := hT.agg _ _ _ rfl
      obtain ⟨us, hzv, hzr⟩ := (pvIs_rep hpv : RepP E G w (.agg z) zv)
      obtain ⟨h1, h2⟩ := evParts_rep ht hi hl
      let g : Field → Nat × Nat := fun f => (f.offset, ((P.info? f.type).map (·.size)).getD 0)
      have hmap : ∀ w' : World, ∀ f ∈ F.toList, ((do pure (f.offset, ← sizeOf f.type) : Sem (Nat × Nat))).run P w' = .ok (g f) w' := by
        intro w' f hf
        obtain ⟨k, hk⟩ := List.getElem?_of_mem hf
        have hlenF : ∀ {F : List Field} {fs : List (Nat × Nat × Bool)}, fieldsAre P z.length F fs = true → F.length = fs.length := by
          intro F
          induction F with
          | nil => intro fs h; cases fs <;> simp_all [fieldsAre]
          | cons f F ih => intro fs h; cases fs with
            | nil => simp [fieldsAre] at h
            | cons q fs => obtain ⟨_, _, _⟩ := q; simp only [fieldsAre, Bool.and_eq_true] at h; simp [ih h.2]
        have hkl : k < fs.length := by rw [← hlenF hfs]; exact (List.getElem?_eq_some_iff.1 hk).1
        obtain ⟨o, n, gg, hq⟩ : ∃ o n gg, fs[k]? = some (o, n, gg) := ⟨_, _, _, List.getElem?_eq_getElem hkl⟩
        obtain ⟨fl, i', d, hfl, ho, hi', hs', _⟩ := fieldsAre_get hfs k o n gg hq
        rw [hk] at hfl; cases hfl
        simp only [Sem.run_bind, run_sizeOf' hi', Result.andThen_ok, Sem.run_pure, g, hi', Option.map_some, Option.getD_some]
      have hplace : ∀ (i o n : Nat) gg, fs[i]? = some (o, n, gg) → (F.map g)[i]? = some (o, n) := by
        intro i o n gg hq
        obtain ⟨fl, i', d, hfl, ho, hi', hs', _⟩ := fieldsAre_get hfs i o n gg hq
        have : F[i]? = some fl := by rw [← Array.getElem?_toList]; exact hfl
        simp [this, g, ho, hi', hs']
      obtain ⟨r, hr1, hr2⟩ := fill_rep hfs ((F.map g)[·]?) hplace l (ps.toList.map fun x => (x.1, a.eval x.2)) z us.toArray cs (by simpa using h1) h2 (by simpa using hzr) hcs
      refine ⟨.agg r, fun w' _ => ?_, r.toList, by simp, hr2⟩
      unfold Instr.build
      simp only [Sem.run_bind, run_underlying hu, Result.andThen_ok]
      have hzero : (zeroValue t).run P w' = .ok zv w' := by simp [zeroValue, typeInfo, hinfo, hz]
      rw [hzero]
      simp only [Result.andThen_ok]
      rw [run_mapMArr _ g F (hmap w')]
      simp only [Result.andThen_ok]
      have hcells : zv.cells = us.toArray := by rw [hzv]; rfl
      have hps : (ps.map fun (x : Nat × Operand) => match x with | (i, x) => (i, a.eval x)).toList = ps.toList.map fun x => (x.1, a.eval x.2) := by simp
      rw [hcells, hps, hr1]
      rfl
    · exact .no
  · exact .no

theorem valsOf_rep {s : St} {a : Act} (ht : SimT E G w s a) {ids : List (Nat × Bool)} (hi : IdsHold a ids) : ∀ {xs : List Operand} {vs : List Value}, valsOf (s.ev ids) xs = some vs → xs.map a.eval = vs
  | [], vs, h => by simp [valsOf] at h; subst h; rfl
  | x :: xs, vs, h => by
    simp only [valsOf] at h
    split at h
    · rename_i v vs' hv hvs
      cases h
      have : a.eval x = v := ev_rep ht hi hv
      simp [this, valsOf_rep ht hi hvs]
    · cases h

theorem foldV_run {w : World} (f : Value → Value → Option Value) (g : Value → Value → Sem Value) (h : ∀ a b c, f a b = some c → ∀ w : World, (g a b).run P w = .ok c w) : ∀ (l : List Value) (v u : Value), foldV f v l = some u → (l.foldlM g v).run P w = .ok u w
  | [], v, u, hf => by simp [foldV] at hf; subst hf; rfl
  | b :: l, v, u, hf => by
    simp only [foldV] at hf
    split at hf
    · rename_i c hc
      simp only [List.foldlM_cons, Sem.run_bind, h _ _ _ hc, Result.andThen_ok]
      exact foldV_run f g h l c u hf
    · cases hf

theorem maxV_run (a b c : Value) (h : maxV a b = some c) (w : World) : (Builtin.max2 a b).run P w = .ok c w := by
  unfold maxV at h
  split at h
  · cases h; simp [Builtin.max2]
  · cases h; simp [Builtin.max2, Op.stringOp, asBool]
  · cases h

theorem minV_run (a b c : Value) (h : minV a b = some c) (w : World) : (Builtin.min2 a b).run P w = .ok c w := by
  unfold minV at h
  split at h
  · cases h; simp [Builtin.min2]
  · cases h; simp [Builtin.min2, Op.stringOp, asBool]
  · cases h

end
end Go.PM
