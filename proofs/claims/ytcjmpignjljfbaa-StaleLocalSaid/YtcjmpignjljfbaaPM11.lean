/- The pure machine, part 11: operations that make or write memory. -/
import Derived.Test.YtcjmpignjljfbaaPM10
import Derived.Laws.CopyRow
namespace Go.PM
open Go.RowKit
set_option linter.unusedVariables false
set_option linter.unusedSimpArgs false

/-- What a step leaves of what was there: of each box its block, and the cells that may not be written. -/
structure Fr (E : Env) (G : Gh) (w : World) (s : St) (G' : Gh) (w' : World) (s' : St) : Prop where
  mono : Mono E G w G' w'
  box : ∀ (i : Nat) blk arr T, G.rho[i]? = some blk → w.heap[blk]? = some (.cells arr T (0, 0)) → ∃ arr', w'.heap[blk]? = some (.cells arr' T (0, 0)) ∧ arr'.size = arr.size ∧
    ∀ off : Nat, i < s.fresh → (i, off) ∉ s.wr → arr'[off]? = arr[off]?
  size : w.heap.size ≤ w'.heap.size
  fresh : s'.fresh = s.fresh
  wr : s'.wr = s.wr
  n : s'.n = s.n

section
variable {P : Program} {E : Env} {G G' : Gh} {w w' : World} {s : St}

theorem Fr.refl (E : Env) (G : Gh) (w : World) (s : St) : Fr E G w s G w s := ⟨.refl _ _ _, fun i blk arr T _ h => ⟨arr, h, rfl, fun _ _ _ => rfl⟩, Nat.le_refl _, rfl, rfl, rfl⟩

theorem Fr.trans {s' s'' : St} {G'' : Gh} {w'' : World} (h : Fr E G w s G' w' s') (h' : Fr E G' w' s' G'' w'' s'') : Fr E G w s G'' w'' s'' :=
  ⟨h.mono.trans h.size h'.mono, fun i blk arr T hi hh => by
      obtain ⟨arr', h1, h2, h3⟩ := h.box i blk arr T hi hh
      obtain ⟨arr'', g1, g2, g3⟩ := h'.box i blk arr' T (h.mono.rho _ _ hi) h1
      exact ⟨arr'', g1, g2.trans h2, fun off hl hw => (g3 off (by rw [h.fresh]; exact hl) (by rw [h.wr]; exact hw)).trans (h3 off hl hw)⟩,
    Nat.le_trans h.size h'.size, h'.fresh.trans h.fresh, h'.wr.trans h.wr, h'.n.trans h.n⟩

theorem Fr.below {s' : St} (hb : Below w.heap.size w w') (hm : Mono E G w G' w') (h1 : s'.fresh = s.fresh) (h2 : s'.wr = s.wr) (h3 : s'.n = s.n) : Fr E G w s G' w' s' :=
  ⟨hm, fun i blk arr T _ h => ⟨arr, by rw [hb.block _ (Array.getElem?_eq_some_iff.1 h).1]; exact h, rfl, fun _ _ _ => rfl⟩, hb.size, h1, h2, h3⟩

/-- What follows an operation that made or wrote memory. -/
def Next1 {ρ : Type} (E : Env) (G : Gh) (w : World) (s : St) (k : PV → St → Option ρ) (r : ρ) (x : Value) (w' : World) : Prop :=
  ∃ v s' G', RepP E G' w' v x ∧ SimM E G' w' s' ∧ Fr E G w s G' w' s' ∧ s'.t = s.t ∧ k v s' = some r

theorem run_newVar' (t : TypeId) (v : Value) (w : World) : (newVar t v).run P w = .ok ⟨w.heap.size, 0, none⟩ (w.alloc (.cells v.cells t)) := rfl

theorem box_next {ρ : Type} {k : PV → St → Option ρ} {r : ρ} (h : SimM E G w s) {cs : List Cell} {v : Value} (hr : RepCs E G w cs v.cells.toList) (T : TypeId) (hk : k (.one (.box s.b.length 0)) (newBox s cs) = some r) :
    Next1 E G w s k r (.pointer (some ⟨w.heap.size, 0, none⟩)) (w.alloc (.cells v.cells T)) := by
  obtain ⟨h1, h2⟩ := h.addBox hr T
  refine ⟨_, _, _, ?_, h1, .below (below_alloc w _) h2 rfl rfl rfl, rfl, hk⟩
  exact ⟨w.heap.size, by rw [h.len]; simp, rfl⟩

theorem mayWrite_spec {b : Nat} : ∀ {off n : Nat}, mayWrite s b off n = true → ∀ k, off ≤ k → k < off + n → ¬ (b < s.fresh ∧ (b, k) ∉ s.wr)
  | off, 0, _, k, h1, h2 => by omega
  | off, n + 1, h, k, h1, h2 => by
    simp only [mayWrite, Bool.and_eq_true, Bool.or_eq_true, Nat.ble_eq, List.any_eq_true, Nat.beq_eq] at h
    obtain ⟨h3, h4⟩ := h
    by_cases hk : k = off
    · subst hk
      rintro ⟨g1, g2⟩
      rcases h3 with h3 | ⟨p, hp, e1, e2⟩
      · omega
      · obtain ⟨p1, p2⟩ := p
        simp at e1 e2; subst e1; subst e2
        exact g2 hp
    · exact mayWrite_spec h4 k (by omega) (by omega)

theorem RepCs.oneAll : ∀ {cs : List Cell} {us : List Value}, RepCs E G w cs us → ∀ u ∈ us, u.oneCell' = true
  | [], us, h, u, hu => by rw [show us = [] from h] at hu; cases hu
  | c :: cs, us, h, u, hu => by
    obtain ⟨v, vs, rfl, ⟨_, h1⟩, h2⟩ := h
    rcases List.mem_cons.1 hu with rfl | hu
    · exact h1
    · exact h2.oneAll u hu

theorem store_next {ρ : Type} {k : PV → St → Option ρ} {r : ρ} (h : SimM E G w s) {b off : Nat} {vs cs : List Cell} {v : Value} {t : TypeId} {i : TypeInfo} (hi : P.info? t = some i) (hisz : i.size = vs.length)
    (hv : RepCs E G w vs v.cells.toList) (hb : s.b[b]? = some cs) (hle : off + vs.length ≤ cs.length) (hmay : mayWrite s b off vs.length = true) {x : Value} (hx : RepC E G w (.box b off) x)
    (hk : k .no { s with b := s.b.set b (setCells cs off vs) } = some r) :
    ∃ w', (Instr.storeAt t x v).run P w = .ok () w' ∧ Next1 E G w s k r undef w' := by
  obtain ⟨blk, h1, rfl⟩ := hx
  obtain ⟨blk', arr, T, g1, g2, g3⟩ := h.b.box b cs hb
  rw [h1] at g1; cases g1
  have hvl : v.cells.size = vs.length := by have := hv.length; simpa using this
  have hal : arr.size = cs.length := by have := g3.length; simpa using this
  have hrun := run_storeCells_at (P := P) blk off T v.cells.toList 0 arr w g2 (by simp; omega) hv.oneAll
  simp only [Nat.add_zero] at hrun
  refine ⟨w.setRow blk (arr.toList.take off ++ v.cells.toList ++ arr.toList.drop (off + v.cells.toList.length)).toArray, ?_, .no, { s with b := s.b.set b (setCells cs off vs) }, G, rfl, ?_, ?_, rfl, hk⟩
  · unfold Instr.storeAt Instr.sureAddr storeVar
    simp only [pure_bind, Sem.run_bind, run_sizeOf' hi, Result.andThen_ok]
    rw [if_neg (by rw [hisz, hvl]; simp)]
    exact hrun
  · have hnb : ∀ b' o, okG E G b' o → b' ≠ blk := fun b' o ho hbb => ho.2.1 (hbb ▸ List.mem_iff_getElem?.2 ⟨b, h1⟩)
    have hm : Mono E G w G (w.setRow blk (arr.toList.take off ++ v.cells.toList ++ arr.toList.drop (off + v.cells.toList.length)).toArray) :=
      ⟨fun b' o ho hb' => ⟨ho, fun a ha _ => cell_setRow_other w blk _ a (by rw [ha]; exact hnb b' o ho)⟩, fun _ _ h => h, fun _ h => .inl h, Nat.le_refl _⟩
    have hbase : E.base ≤ blk := h.rge blk (List.mem_iff_getElem?.2 ⟨b, h1⟩)
    refine ⟨⟨fun j cs' hj => ?_⟩, h.nodup, h.rge, fun e he => ?_, h.ids, h.out, h.apart, h.name, h.live, h.nt, ?_, by simpa using h.base, by simp [h.len]⟩
    · have hjl : j < s.b.length := by have := (List.getElem?_eq_some_iff.1 hj).1; simpa using this
      by_cases hjb : j = b
      · subst hjb
        rw [List.getElem?_set_self hjl] at hj
        cases hj
        refine ⟨blk, _, T, h1, setRow_heap w blk arr _ T _ g2, ?_⟩
        show RepCs E G _ (cs.take off ++ (vs ++ cs.drop (off + vs.length))) (arr.toList.take off ++ v.cells.toList ++ arr.toList.drop (off + v.cells.toList.length))
        have hrr := ((g3.takeC off).app (hv.app (g3.dropC (off + vs.length)))).mono hm
        have hee : arr.toList.take off ++ v.cells.toList ++ arr.toList.drop (off + v.cells.toList.length) = arr.toList.take off ++ (v.cells.toList ++ arr.toList.drop (off + vs.length)) := by
          rw [List.append_assoc, hv.length]
        exact hee ▸ hrr
      · rw [List.getElem?_set_ne (fun e => hjb e.symm)] at hj
        obtain ⟨blk2, arr2, T2, e1, e2, e3⟩ := h.b.box j cs' hj
        have hne : blk2 ≠ blk := by
          intro he; subst he
          have hj2 := (List.getElem?_eq_some_iff.1 e1).1
          have hb2 := (List.getElem?_eq_some_iff.1 h1).1
          have := (List.getElem?_inj hj2 h.nodup).1 (e1.trans h1.symm)
          exact hjb this
        exact ⟨blk2, arr2, T2, e1, by rw [setRow_other w blk blk2 _ hne]; exact e2, e3.mono hm⟩
    · obtain ⟨q1, q2⟩ := h.own e he
      refine ⟨q1, ?_⟩
      rcases q2 with q | ⟨g, cap, cur, p1, p2, p3, p4⟩
      · exact .inl q
      · refine .inr ⟨g, cap, cur, p1, p2, ?_, p4⟩
        rw [setRow_other w blk g _ ?_]; exact p3
        intro he'
        subst he'
        exact h.out e he g (by rw [p1]; rfl) (List.mem_iff_getElem?.2 ⟨b, h1⟩)
    · exact h.bel.trans ⟨rfl, rfl, rfl, by simp, fun k hk => setRow_other w blk k _ (by omega)⟩
  · refine ⟨?_, ?_, by simp, rfl, rfl, rfl⟩
    · have hnb : ∀ b' o, okG E G b' o → b' ≠ blk := fun b' o ho hbb => ho.2.1 (hbb ▸ List.mem_iff_getElem?.2 ⟨b, h1⟩)
      exact ⟨fun b' o ho hb' => ⟨ho, fun a ha _ => cell_setRow_other w blk _ a (by rw [ha]; exact hnb b' o ho)⟩, fun _ _ h => h, fun _ h => .inl h, Nat.le_refl _⟩
    · intro j blk2 arr2 T2 e1 e2
      by_cases hbb : blk2 = blk
      · subst hbb
        rw [g2] at e2; cases e2
        refine ⟨_, setRow_heap w blk2 arr _ T _ g2, ?_, ?_⟩
        · simp; omega
        · intro o ho hw
          have hjb : j = b := (List.getElem?_inj (List.getElem?_eq_some_iff.1 e1).1 h.nodup).1 (e1.trans h1.symm)
          subst hjb
          have hout : o < off ∨ off + vs.length ≤ o := by
            by_cases h1 : o < off
            · exact .inl h1
            · by_cases h2 : off + vs.length ≤ o
              · exact .inr h2
              · exact absurd ⟨ho, hw⟩ (mayWrite_spec hmay o (by omega) (by omega))
          simp only [List.getElem?_toArray]
          rcases hout with ho' | ho'
          · rw [List.append_assoc, List.getElem?_append_left (by simp; omega), List.getElem?_take, if_pos ho']; simp
          · rw [List.getElem?_append_right (by simp; omega), List.getElem?_drop]
            simp
            congr 1
            omega
      · exact ⟨arr2, by rw [setRow_other w blk blk2 _ hbb]; exact e2, rfl, fun _ _ _ => rfl⟩

end
end Go.PM
