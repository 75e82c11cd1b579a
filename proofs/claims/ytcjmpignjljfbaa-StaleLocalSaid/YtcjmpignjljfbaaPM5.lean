/- The pure machine, part 5: each operation that only reckons and reads. -/
import Derived.Test.YtcjmpignjljfbaaPM4
namespace Go.PM
set_option linter.unusedVariables false
set_option linter.unusedSimpArgs false

def R.val : R → Option (Bool × PV)
  | .no => none
  | .ok v => some (true, v)
  | .chk c v => some (c, v)

def Gives (P : Program) (E : Env) (G : Gh) (w : World) (sm : Sem Value) (v : PV) : Prop := ∃ x, (∀ w', Go.RowKit.Below w.heap.size w w' → sm.run P w' = .ok x w') ∧ RepP E G w v x

def GivesR (P : Program) (E : Env) (G : Gh) (w : World) (sm : Sem Value) (r : R) : Prop := ∀ v, r.val = some (true, v) → Gives P E G w sm v

section
variable {P : Program} {E : Env} {G : Gh} {w : World}

theorem GivesR.no {sm : Sem Value} : GivesR P E G w sm .no := fun _ h => by simp [R.val] at h
theorem GivesR.ok {sm : Sem Value} {v : PV} (h : Gives P E G w sm v) : GivesR P E G w sm (.ok v) := fun _ h' => by simp [R.val] at h'; subst h'; exact h
theorem GivesR.chk {sm : Sem Value} {c : Bool} {v : PV} (h : c = true → Gives P E G w sm v) : GivesR P E G w sm (.chk c v) := fun _ h' => by simp [R.val] at h'; obtain ⟨h1, rfl⟩ := h'; exact h h1

theorem Gives.pure {x : Value} {v : PV} (h : RepP E G w v x) : Gives P E G w (Pure.pure x) v := ⟨x, fun _ _ => rfl, h⟩

theorem cellsAt_gives {ad : Addr} {off : Nat} {cs : List Cell} (hc : ∀ (j : Nat) d, cs[j]? = some d → ∃ u, w.cell? (ad.add j) = some u ∧ RepC E G w d u ∧ u.oneCell' = true) {t : TypeId} {ti : TI} (ht : TIok P t ti) :
    GivesR P E G w (loadVar t (ad.add off)) (cellsAt ti.isAgg ti.size off cs) := by
  obtain ⟨i, z, hi, hs, _, _⟩ := ht.info
  obtain ⟨d, hd, hag⟩ := ht.desc
  cases hg : ti.isAgg with
  | true =>
    unfold cellsAt
    cases hle : Nat.ble (off + ti.size) cs.length with
    | false => exact .no
    | true =>
      refine .ok ?_
      rw [Nat.ble_eq] at hle
      have hpick : ∀ k, k < ti.size → ∃ u, w.cell? ((ad.add off).add k) = some u ∧ ∃ d, cs[off + k]? = some d ∧ RepC E G w d u ∧ u.oneCell' = true := by
        intro k hk
        have hlt : off + k < cs.length := by omega
        obtain ⟨u, hu, hr⟩ := hc (off + k) cs[off + k] (List.getElem?_eq_getElem hlt)
        exact ⟨u, by rw [add_add]; exact hu, _, List.getElem?_eq_getElem hlt, hr⟩
      let f : Nat → Value := fun k => (w.cell? ((ad.add off).add k)).getD undef
      have hf : ∀ k, k < ti.size → w.cell? ((ad.add off).add k) = some (f k) := by
        intro k hk
        obtain ⟨u, hu, _⟩ := hpick k hk
        show w.cell? ((ad.add off).add k) = some ((w.cell? ((ad.add off).add k)).getD undef)
        rw [hu]; rfl
      refine ⟨.agg ((List.range ti.size).map f).toArray, ?_, _, rfl, ?_⟩
      · intro w' hbel
        unfold loadVar
        simp only [Sem.run_bind, run_isAgg' hd, Result.andThen_ok, hag, hg, if_true, run_sizeOf' hi, hs]
        rw [run_loadCells w' _ _ f fun k hk => (hbel.cell (World.block_lt_of_cell? w _ (hf k hk))).trans (hf k hk)]
        rfl
      · apply RepCs.of
        · simp; omega
        · intro k c hk
          have hkl : k < ti.size := by
            have := (List.getElem?_eq_some_iff.1 hk).1
            simp at this; omega
          obtain ⟨u, hu, d, hd, hr⟩ := hpick k hkl
          refine ⟨f k, by simp [hkl], ?_⟩
          have he : c = d := by
            rw [List.getElem?_take, if_pos hkl, List.getElem?_drop, hd] at hk
            exact (Option.some.inj hk).symm
          subst he
          have : f k = u := Option.some.inj ((hf k hkl).symm.trans hu)
          rw [this]; exact hr
  | false =>
    unfold cellsAt
    simp only
    split
    · rename_i c hcs
      refine .ok ?_
      obtain ⟨u, hu, hr, _⟩ := hc off c hcs
      refine ⟨u, ?_, hr⟩
      intro w' hbel
      unfold loadVar
      simp only [Sem.run_bind, run_isAgg' hd, Result.andThen_ok, hag, hg, Bool.false_eq_true, if_false, run_load, (hbel.cell (World.block_lt_of_cell? w _ hu)).trans hu]
    · exact .no

theorem run_loadAt {t : TypeId} {ad : Addr} : Instr.loadAt t (.pointer (some ad)) = loadVar t ad := rfl

theorem load_gives {tis : Nat → Option TI} (htab : TabOk P tis) {s : St} {a : Act} (ht : SimT E G w s a) (hb : SimB E G w s) {ids : List (Nat × Bool)} (hi : IdsHold a ids) (t : TypeId) (x : Operand) :
    GivesR P E G w (Instr.loadAt t (a.eval x)) (opV tis s ids (.load t x)) := by
  simp only [opV]
  split
  · rename_i ty c hty hx
    split
    · rename_i cs off hd
      have hr := ev_rep ht hi hx
      obtain ⟨ad, h1, h2⟩ := deref_rep hb hr hd
      rw [h1, run_loadAt]
      exact cellsAt_gives h2 (tiB_ok (htab _ _ hty))
    · exact .no
  · exact .no

theorem run_fieldPlace {f : Field} {i : TypeInfo} (hi : P.info? f.type = some i) (hn : i.size ≠ 0) (ad : Addr) (w : World) : (fieldPlace ad f).run P w = .ok (ad.add f.offset) w := by
  unfold fieldPlace
  simp only [Sem.run_bind, run_sizeOf' hi, Result.andThen_ok, if_neg hn, Sem.run_pure]

theorem fieldAddr_gives {tis : Nat → Option TI} (htab : TabOk P tis) {s : St} {a : Act} (ht : SimT E G w s a) {ids : List (Nat × Bool)} (hi : IdsHold a ids) (st : TypeId) (x : Operand) (f : Nat) :
    GivesR P E G w (Instr.fieldAt st (a.eval x) f) (opV tis s ids (.fieldAddr st x f)) := by
  simp only [opV]
  split
  · rename_i z fs cmp c hty hx
    split
    · rename_i o n g hf
      cases hz : Nat.beq n 0 with
      | true => exact .no
      | false =>
        have hr := ev_rep ht hi hx
        obtain ⟨F, hu, hfs, _⟩ := (tiB_ok (htab _ _ hty)).agg _ _ _ rfl
        obtain ⟨fl, i, d, hfl, ho, hinfo, hsz, _⟩ := fieldsAre_get hfs f o n g hf
        have hn : i.size ≠ 0 := by rw [hsz]; intro h; rw [h] at hz; cases hz
        have hfl' : F[f]? = some fl := by rw [← Array.getElem?_toList]; exact hfl
        have hrun : ∀ ad, ∀ w' : World, (Instr.fieldAt st (.pointer (some ad)) f).run P w' = .ok (.pointer (some (ad.add o))) w' := by
          intro ad w'
          unfold Instr.fieldAt
          simp only [Sem.run_bind, run_underlying hu, Result.andThen_ok, hfl', Instr.sureAddr, Sem.run_pure, run_fieldPlace hinfo hn, ho]
        cases c with
        | box b off =>
          refine .ok ?_
          obtain ⟨blk, h1, h2⟩ := hr
          rw [h2]
          exact ⟨_, fun w' _ => hrun _ w', blk, h1, by rw [Addr.add_lit]⟩
        | elt r y off =>
          refine .ok ?_
          obtain ⟨ad, h1, h2⟩ := hr
          rw [h1]
          exact ⟨_, fun w' _ => hrun _ w', ad, by rw [add_add], h2⟩
        | val v => exact .no
        | sl r l t => exact .no
        | nil => exact .no
        | clo f cs => exact .no
    · exact .no
  · exact .no

theorem field_gives {tis : Nat → Option TI} (htab : TabOk P tis) {s : St} {a : Act} (ht : SimT E G w s a) {ids : List (Nat × Bool)} (hi : IdsHold a ids) (st : TypeId) (x : Operand) (f : Nat) :
    GivesR P E G w (Instr.field st (a.eval x) f) (opV tis s ids (.field st x f)) := by
  simp only [opV]
  split
  · rename_i z fs cmp cs hty hx
    split
    · rename_i o n g hf
      have hr := ev_rep ht hi hx
      obtain ⟨F, hu, hfs, _⟩ := (tiB_ok (htab _ _ hty)).agg _ _ _ rfl
      obtain ⟨fl, i, d, hfl, ho, hinfo, hsz, hd, hag, hle, hone⟩ := fieldsAre_get hfs f o n g hf
      have hfl' : F[f]? = some fl := by rw [← Array.getElem?_toList]; exact hfl
      obtain ⟨us, h1, h2⟩ := hr
      rw [h1]
      have hrun : ∀ w' : World, (Instr.field st (.agg us.toArray) f).run P w' = (part fl.type us.toArray o).run P w' := by
        intro w'
        unfold Instr.field
        simp only [Sem.run_bind, run_underlying hu, Result.andThen_ok, hfl', asAgg, Sem.run_pure, ho]
      have hpart : ∀ w' : World, (part fl.type us.toArray o).run P w' = (if g then (.ok (.agg (us.toArray.extract o (o + n))) w' : Result Value) else match us.toArray[o]? with
          | some v => .ok v w'
          | none => .halt (.stuck "part: no such cell") w') := by
        intro w'
        unfold part
        simp only [Sem.run_bind, run_isAgg' hd, Result.andThen_ok, hag]
        cases g with
        | true => simp only [if_true, Sem.run_bind, run_sizeOf' hinfo, Result.andThen_ok, Sem.run_pure, hsz]
        | false =>
          simp only [Bool.false_eq_true, if_false]
          split <;> simp_all
      unfold cellsAt
      cases g with
      | true =>
        simp only
        cases hle : Nat.ble (o + n) cs.length with
        | false => exact .no
        | true =>
          rw [Nat.ble_eq] at hle
          refine .ok ⟨_, fun w' _ => by rw [hrun, hpart]; rfl, (us.drop o).take n, ?_, ?_⟩
          · congr 1
            apply Array.ext'
            simp [List.extract_eq_take_drop]
          · have hlen := h2.length
            apply RepCs.of
            · simp; omega
            · intro k c hk
              have hkn : k < n := by
                have := (List.getElem?_eq_some_iff.1 hk).1
                simp at this; omega
              rw [List.getElem?_take, if_pos hkn, List.getElem?_drop] at hk ⊢
              exact h2.get _ _ hk
      | false =>
        simp only
        split
        · rename_i c hc
          obtain ⟨u, hu, hr, _⟩ := h2.get _ _ hc
          refine .ok ⟨u, ?_, hr⟩
          intro w' _
          rw [hrun, hpart]
          simp [hu]
        · exact .no
    · exact .no
  · exact .no

theorem rd_get {r : Row} {l : List (DenR r)} {n : Int} (h0 : 0 ≤ n) (h1 : n < (l.length : Int)) : (l.map (toDs r)).getD n.toNat [] = toDs r (rd r l n) := by
  have : n.toNat < l.length := by omega
  simp [rd, List.getD, List.getElem?_eq_getElem this]

theorem indexAddr_gives {tis : Nat → Option TI} (htab : TabOk P tis) {s : St} {a : Act} (ht : SimT E G w s a) {ids : List (Nat × Bool)} (hi : IdsHold a ids) (t : TypeId) (x ix : Operand) :
    GivesR P E G w (Instr.indexAt t (a.eval x) (a.eval ix)) (opV tis s ids (.indexAddr t x ix)) := by
  simp only [opV]
  split
  · rename_i e es eb row r l tok k n hty hx hix
    cases hes : (Nat.beq es (sz r) && Nat.blt 0 es) with
    | false => exact .no
    | true =>
      refine .chk fun hc => ?_
      rw [Bool.and_eq_true] at hes
      obtain ⟨hes, hpos⟩ := hes
      rw [Nat.blt_eq] at hpos
      rw [Bool.and_eq_true, decide_eq_true_eq, decide_eq_true_eq] at hc
      rw [Nat.beq_eq] at hes
      obtain ⟨hu, i, z, hinfo, hsz, hby, _⟩ := (tiB_ok (htab _ _ hty)).slice _ _ _ _ rfl
      have hr := ev_rep ht hi hx
      have hrn : a.eval ix = .int k n := ev_rep ht hi hix
      obtain ⟨⟨ad?, cap, hv, hlen, hcells⟩, _⟩ := hr
      have hne : 0 < l.length := by omega
      rw [hv, hrn]
      cases had : ad? with
      | none =>
        obtain ⟨ad, u, h, _⟩ := hcells 0 0 hne (by omega)
        rw [had] at h; cases h
      | some ad =>
        subst had
        refine ⟨.pointer (some (ad.add (n.toNat * sz r))), ?_, ad.add (n.toNat * sz r), rfl, fun j hj => ?_⟩
        · intro w' _
          unfold Instr.indexAt
          simp only [asIntOf, Sem.run_bind, Sem.run_pure, Result.andThen_ok, run_underlying hu, run_sizeOf' hinfo, hsz, hes]
          rw [if_pos ⟨hc.1, by omega⟩]
          simp only [Sem.run_bind, run_sizeOf' hinfo, Result.andThen_ok, Sem.run_pure, hsz, hes]
        · obtain ⟨ad', u, h1, h2, h3, h4⟩ := hcells n.toNat j (by omega) hj
          cases h1
          refine ⟨?_, u, by rw [add_add]; exact h3, ?_⟩
          · rw [add_block, add_off, Nat.add_assoc]; exact h2
          · have h5 : RepD w (okG E G) (((l.map (toDs r)).getD n.toNat []).getD j dNo) u := h4
            rwa [rd_get hc.1 hc.2] at h5
  · exact .no

end
end Go.PM
