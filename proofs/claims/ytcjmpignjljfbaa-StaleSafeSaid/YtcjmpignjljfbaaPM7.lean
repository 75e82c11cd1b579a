/- The pure machine, part 7: all operations that only reckon and read, in one theorem. -/
import Derived.Test.YtcjmpignjljfbaaPM6
namespace Go.PM
set_option linter.unusedVariables false
set_option linter.unusedSimpArgs false
section
variable {P : Program} {E : Env} {G : Gh} {w : World}

theorem intOfPV_rep {v : PV} {x : Value} {n : Int} (h : RepP E G w v x) (hn : intOfPV v = some n) : ∃ k, x = .int k n := by
  unfold intOfPV at hn
  split at hn
  · cases hn; exact ⟨_, h⟩
  · cases hn

theorem boundOf_spec {s : St} {a : Act} (ht : SimT E G w s a) {ids : List (Nat × Bool)} (hi : IdsHold a ids) {x : Option Operand} {d n : Int} (h : boundOf (s.ev ids) x d = some n) :
    (x = none ∧ n = d) ∨ ∃ (o : Operand) (k : IntKind), x = some o ∧ a.eval o = .int k n := by
  unfold boundOf at h
  split at h
  · exact .inl ⟨rfl, (Option.some.inj h).symm⟩
  · rename_i o
    split at h
    · rename_i v hv
      obtain ⟨k, hk⟩ := intOfPV_rep (ev_rep ht hi hv) h
      exact .inr ⟨o, k, rfl, hk⟩
    · cases h

theorem run_bounds {w' : World} {isS : Bool} {len cap : Nat} {s : St} {a : Act} (ht : SimT E G w s a) {ids : List (Nat × Bool)} (hi : IdsHold a ids) {lo hi' : Option Operand} {l h : Int}
    (h1 : boundOf (s.ev ids) lo 0 = some l) (h2 : boundOf (s.ev ids) hi' (len : Int) = some h) (a1 : 0 ≤ l) (a2 : l ≤ h) (a3 : h ≤ (len : Int)) (a4 : len ≤ cap) :
    (Instr.sliceBounds isS len cap (lo.map a.eval) (hi'.map a.eval) none).run P w' = .ok (l.toNat, h.toNat, cap) w' := by
  have hb := boundOf_spec ht hi h1
  have hb2 := boundOf_spec ht hi h2
  have e0 : (h.toNat : Int) = h := Int.toNat_of_nonneg (by omega)
  rcases hb with ⟨rfl, rfl⟩ | ⟨o, k, rfl, ho⟩ <;> rcases hb2 with ⟨rfl, rfl⟩ | ⟨o', k', rfl, ho'⟩
  · simp [Instr.sliceBounds]
  · simp only [Instr.sliceBounds, Option.map_none, Option.map_some, ho', Sem.run_bind, Sem.run_pure, Result.andThen_ok]
    rw [run_sliceBound _ _ _ _ _ (by omega) (by omega)]; simp
  · simp only [Instr.sliceBounds, Option.map_none, Option.map_some, ho, Sem.run_bind, Sem.run_pure, Result.andThen_ok]
    rw [run_sliceBound _ _ _ _ _ (by omega) (by omega)]; simp
  · simp only [Instr.sliceBounds, Option.map_some, ho, ho', Sem.run_bind, Sem.run_pure, Result.andThen_ok]
    rw [run_sliceBound _ _ _ _ _ (by omega) (by omega)]
    simp only [Result.andThen_ok]
    rw [run_sliceBound _ _ _ _ _ (by omega) (by omega)]; simp

theorem map_getD {α : Type} (f : α → List D) (l : List α) (i : Nat) (h : i < l.length) : (l.map f).getD i [] = f l[i] := by
  simp [List.getD, List.getElem?_eq_getElem h]

theorem RepD_sub {r : Row} {l : List (DenR r)} {ok : Nat → Nat → Prop} {a? : Option Addr} {cap : Nat} {x : Value} (hx : x = .slice a? l.length cap) (hr : RepD w ok (toD (.sl r) l) x) {lo hi : Nat} (h1 : lo ≤ hi) (h2 : hi ≤ l.length) (h3 : l.length ≤ cap) :
    RepD w ok (toD (.sl r) ((l.take hi).drop lo)) (.slice (if cap = lo then a? else a?.map (·.add (lo * sz r))) (hi - lo) (cap - lo)) := by
  have hlen : ((l.take hi).drop lo).length = hi - lo := by simp; omega
  obtain ⟨a', cap', hv, _, hc⟩ := hr
  rw [hx] at hv; cases hv
  simp only [toD, hlen]
  refine ⟨_, _, rfl, by omega, fun i j hi' hj => ?_⟩
  obtain ⟨ad, u, g1, g2, g3, g4⟩ := hc (lo + i) j (by omega) hj
  subst g1
  have hne : ¬ cap = lo := by omega
  rw [if_neg hne]
  refine ⟨ad.add (lo * sz r), u, rfl, ?_, ?_, ?_⟩
  · rw [add_block, add_off]
    have : ad.off + lo * sz r + (i * sz r + j) = ad.off + ((lo + i) * sz r + j) := by rw [Nat.add_mul]; omega
    rw [this]; exact g2
  · rw [add_add]
    have : lo * sz r + (i * sz r + j) = (lo + i) * sz r + j := by rw [Nat.add_mul]; omega
    rw [this]; exact g3
  · have e : ((((l.take hi).drop lo).map (toDs r)).getD i []) = ((l.map (toDs r)).getD (lo + i) []) := by
      rw [map_getD _ _ _ (by omega), map_getD _ _ _ (by omega)]
      simp
    show RepD w ok (((((l.take hi).drop lo).map (toDs r)).getD i []).getD j dNo) u
    rw [e]; exact g4

theorem run_sliceAt_sl {t e : TypeId} {x : Value} {lo hi : Option Value} (h : P.underlying t = some (.slice e)) : (Instr.sliceAt t x lo hi none).run P w = (Instr.slice t x lo hi none).run P w := by
  simp [Instr.sliceAt, run_underlying h]

theorem run_sliceAt_str {t : TypeId} {x : Value} {lo hi : Option Value} (h : P.underlying t = some .string) : (Instr.sliceAt t x lo hi none).run P w = (Instr.slice t x lo hi none).run P w := by
  simp [Instr.sliceAt, run_underlying h]

theorem slice_gives {tis : Nat → Option TI} (htab : TabOk P tis) {s : St} {a : Act} (ht : SimT E G w s a) {ids : List (Nat × Bool)} (hi : IdsHold a ids) (t : TypeId) (x : Operand) (lo hi' : Option Operand) :
    GivesR P E G w (Instr.sliceAt t (a.eval x) (lo.map a.eval) (hi'.map a.eval) none) (opV tis s ids (.slice t x lo hi' none)) := by
  simp only [opV]
  split
  · rename_i b hty hx
    split
    · rename_i l h hl hh
      refine .chk fun hc => ?_
      simp only [Bool.and_eq_true, decide_eq_true_eq] at hc
      have hu := (tiB_ok (htab _ _ hty)).str rfl
      have hr : a.eval x = .string b := ev_rep ht hi hx
      rw [hr]
      refine .val fun w' => ?_
      rw [run_sliceAt_str hu]
      simp only [Instr.slice, Sem.run_bind, run_underlying hu, Result.andThen_ok, Option.isSome_none, Bool.false_eq_true, if_false]
      rw [run_bounds ht hi hl hh hc.1 hc.2.1 hc.2.2 (Nat.le_refl _)]
      rfl
    · exact .no
  · rename_i e es eb row r q tok hty hx
    split
    · rename_i l h hl hh
      cases hes : Nat.beq es (sz r) with
      | false => exact .no
      | true =>
        refine .chk fun hc => ?_
        simp only [Bool.and_eq_true, decide_eq_true_eq] at hc
        rw [Nat.beq_eq] at hes
        obtain ⟨hu, i, z, hinfo, hsz, _⟩ := (tiB_ok (htab _ _ hty)).slice _ _ _ _ rfl
        obtain ⟨hr, _⟩ := ev_rep ht hi hx
        obtain ⟨a?, cap, hv, hn, _⟩ := id hr
        refine ⟨.slice (if cap = l.toNat then a? else a?.map (·.add (l.toNat * sz r))) (h.toNat - l.toNat) (cap - l.toNat), fun w' _ => ?_, RepD_sub hv hr (by omega) (by omega) hn, Nat.zero_le _, fun e _ he => by omega⟩
        rw [run_sliceAt_sl hu, hv]
        simp only [Instr.slice, Sem.run_bind, run_underlying hu, Result.andThen_ok]
        rw [run_bounds ht hi hl hh hc.1 hc.2.1 hc.2.2 hn]
        simp only [Result.andThen_ok, run_sizeOf' hinfo, Sem.run_pure, hsz, hes]
    · exact .no
  · exact .no

theorem index_gives {tis : Nat → Option TI} (htab : TabOk P tis) {s : St} {a : Act} (ht : SimT E G w s a) {ids : List (Nat × Bool)} (hi : IdsHold a ids) (t : TypeId) (x ix : Operand) :
    GivesR P E G w (Instr.index t (a.eval x) (a.eval ix)) (opV tis s ids (.index t x ix)) := by
  simp only [opV]
  split
  · rename_i b k n hty hx hix
    have hu := (tiB_ok (htab _ _ hty)).str rfl
    refine .chk fun hc => ?_
    simp only [Bool.and_eq_true, decide_eq_true_eq] at hc
    have h1 : a.eval x = .string b := ev_rep ht hi hx
    have h2 : a.eval ix = .int k n := ev_rep ht hi hix
    rw [h1, h2]
    refine .val fun w' => ?_
    have hlt : n.toNat < b.size := by omega
    have hlt' : n.toNat < b.data.size := hlt
    simp only [Instr.index, asIntOf, Sem.run_bind, Sem.run_pure, Result.andThen_ok, run_underlying hu, if_pos hc.1]
    have : b[n.toNat]? = some (b.data.getD n.toNat 0) := by
      rw [getElem?_pos b n.toNat hlt]
      simp only [Array.getD, hlt', dif_pos]
      rfl
    rw [this]; rfl
  · exact .no

theorem RepT_get {ps : List (Bool × List Cell)} : ∀ {us : List Value}, RepT E G w ps us → ∀ (i : Nat) p, ps[i]? = some p → ∃ u, us[i]? = some u ∧ RepB E G w p u := by
  induction ps with
  | nil => intro us _ i p h; simp at h
  | cons q ps ih =>
    rintro us ⟨u, us', rfl, h1, h2⟩ i p h
    cases i with
    | zero => simp at h; subst h; exact ⟨u, by simp, h1⟩
    | succ i => simp at h; simpa using ih h2 i p h

theorem extract_gives {tis : Nat → Option TI} {s : St} {a : Act} (ht : SimT E G w s a) {ids : List (Nat × Bool)} (hi : IdsHold a ids) (x : Operand) (i : Nat) :
    GivesR P E G w (Instr.extract (a.eval x) i) (opV tis s ids (.extract x i)) := by
  simp only [opV]
  split
  · rename_i ps hx
    obtain ⟨us, h1, h2⟩ := ev_rep ht hi hx
    rw [h1]
    split
    · rename_i c hp
      obtain ⟨u, hu, c', hc, hr⟩ := RepT_get h2 _ _ hp
      cases hc
      exact .ok ⟨u, fun w' _ => by simp [Instr.extract, hu], hr⟩
    · rename_i cs hp
      obtain ⟨u, hu, us', hv, hr⟩ := RepT_get h2 _ _ hp
      exact .ok ⟨u, fun w' _ => by simp [Instr.extract, hu], us', hv, hr⟩
    · exact .no
  · exact .no

theorem oneC_rep {c : Cell} {x : Value} (h : RepC E G w c x) (hc : oneC c = true) : x.oneCell' = true := by
  cases c with
  | val v => rw [show x = v from h]; exact hc
  | sl r l t => obtain ⟨⟨a, c, rfl, _⟩, _⟩ := h; rfl
  | nil => rw [show x = _ from h]; rfl
  | box b o => obtain ⟨_, _, rfl⟩ := h; rfl
  | elt r y o => obtain ⟨_, rfl, _⟩ := h; rfl
  | clo f cs => obtain ⟨_, rfl, _⟩ := h; rfl

theorem pvCells_rep {v : PV} {x : Value} {cs : List Cell} (h : RepP E G w v x) (hv : pvCells v = some cs) : RepCs E G w cs x.cells.toList := by
  cases v with
  | one c =>
    simp only [pvCells] at hv
    cases hc : oneC c with
    | false => rw [hc] at hv; cases hv
    | true =>
      rw [hc] at hv
      cases hv
      have h1 := oneC_rep h hc
      refine ⟨x, [], ?_, ⟨h, h1⟩, rfl⟩
      cases x <;> first | rfl | cases h1
  | agg ds => simp [pvCells] at hv; subst hv; obtain ⟨us, h1, h2⟩ := h; subst h1; simpa [Value.cells] using h2
  | tup ps => simp [pvCells] at hv
  | no => simp [pvCells] at hv

end
end Go.PM
