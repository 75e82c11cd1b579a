/- The pure machine, part 13: slices that are built; calls; every operation that makes or writes memory. -/
import Derived.Test.YtcjmpignjljfbaaPM12
namespace Go.PM
open Go.RowKit
set_option linter.unusedVariables false
set_option linter.unusedSimpArgs false
section
variable {P : Program} {E : Env} {G G' : Gh} {w w' : World} {s : St}

def valsL (vs : List (Nat × Value)) : List Value := (vs.map fun p => p.2.cells.toList).flatten

theorem fillSeq (es : Nat) : ∀ (ps : List (Nat × List Cell)) (vs : List (Nat × Value)) (k : Nat) (cells : Array Value), inOrder k ps = true → ps.length = vs.length →
    (∀ (j : Nat) p q, ps[j]? = some p → vs[j]? = some q → p.1 = q.1) → (∀ p ∈ vs, p.2.cells.size = es) → (k + vs.length) * es ≤ cells.size →
    ∃ r, Instr.fill (fun i => some (i * es, es)) cells vs = some r ∧ r.toList = cells.toList.take (k * es) ++ (valsL vs ++ cells.toList.drop ((k + vs.length) * es))
  | ps, [], k, cells, _, _, _, _, _ => ⟨cells, rfl, by simp [valsL]⟩
  | [], v :: vs, k, cells, _, hl, _, _, _ => by simp at hl
  | (i, cs) :: ps, (j, v) :: vs, k, cells, ho, hl, hid, hsz, hle => by
    simp only [inOrder, Bool.and_eq_true, Nat.beq_eq] at ho
    obtain ⟨rfl, ho⟩ := ho
    have hij : i = j := hid 0 _ _ rfl rfl
    subst hij
    have hv : v.cells.size = es := hsz _ List.mem_cons_self
    simp only [List.length_cons] at hle hl
    have h1 : (i + 1) * es ≤ cells.size := Nat.le_trans (Nat.mul_le_mul_right _ (by omega)) hle
    have hf := fillCells v (i * es) cells (by rw [hv]; rw [Nat.add_mul] at h1; omega)
    have hsz2 : (v.cells.zipIdx.foldl (fun cs (x : Value × Nat) => match x with | (c, j) => cs.setIfInBounds (i * es + j) c) cells).size = cells.size := by
      rw [← Array.length_toList, hf, hv]
      rw [Nat.add_mul] at h1
      simp [hv]; omega
    obtain ⟨r, hr1, hr2⟩ := fillSeq es ps vs (i + 1) (v.cells.zipIdx.foldl (fun cs (x : Value × Nat) => match x with | (c, j) => cs.setIfInBounds (i * es + j) c) cells) ho (by omega)
      (fun k p q h1 h2 => hid (k + 1) p q (by simpa using h1) (by simpa using h2)) (fun p hp => hsz p (List.mem_cons_of_mem _ hp)) (by rw [hsz2]; rwa [show i + 1 + vs.length = i + (vs.length + 1) by omega])
    refine ⟨r, ?_, ?_⟩
    · simp only [Instr.fill]
      rw [if_neg]
      · exact hr1
      · simp only [Bool.or_eq_true, bne_iff_ne, decide_eq_true_eq, ne_eq]
        rw [Nat.add_mul] at h1
        omega
    · rw [hr2, hf, hv]
      have e1 : (cells.toList.take (i * es) ++ (v.cells.toList ++ cells.toList.drop (i * es + es))).take ((i + 1) * es) = cells.toList.take (i * es) ++ v.cells.toList := by
        rw [← List.append_assoc]
        have : (i + 1) * es = (cells.toList.take (i * es) ++ v.cells.toList).length := by rw [Nat.add_mul] at h1 ⊢; simp [hv]; omega
        rw [this, List.take_left]
      have e2 : (cells.toList.take (i * es) ++ (v.cells.toList ++ cells.toList.drop (i * es + es))).drop ((i + 1 + vs.length) * es) = cells.toList.drop ((i + (vs.length + 1)) * es) := by
        rw [← List.append_assoc]
        have hlen : (cells.toList.take (i * es) ++ v.cells.toList).length = (i + 1) * es := by rw [Nat.add_mul] at h1 ⊢; simp [hv]; omega
        have : (i + 1 + vs.length) * es = (cells.toList.take (i * es) ++ v.cells.toList).length + vs.length * es := by rw [hlen, ← Nat.add_mul]
        rw [this, List.drop_append]
        simp only [Nat.add_sub_cancel_left, List.drop_drop]
        rw [List.drop_eq_nil_of_le (by omega), List.nil_append]
        congr 1
        rw [show i + (vs.length + 1) = i + 1 + vs.length by omega, Nat.add_mul, Nat.add_mul i 1]
        omega
      rw [e1, e2]
      simp [valsL]

theorem getElem?_valsL {es : Nat} (hp : 0 < es) : ∀ (vs : List (Nat × Value)) (i j : Nat) p, (∀ q ∈ vs, q.2.cells.size = es) → vs[i]? = some p → j < es → (valsL vs)[i * es + j]? = p.2.cells.toList[j]?
  | [], i, j, p, _, h, _ => by simp at h
  | q :: vs, i, j, p, hs, h, hj => by
    have hq := hs q List.mem_cons_self
    simp only [valsL, List.map_cons, List.flatten_cons]
    cases i with
    | zero =>
      simp at h; subst h
      rw [Nat.zero_mul, Nat.zero_add, List.getElem?_append_left (by simp; omega)]
    | succ i =>
      simp at h
      have := getElem?_valsL hp vs i j p (fun q hq => hs q (List.mem_cons_of_mem _ hq)) h hj
      rw [List.getElem?_append_right (by simp [hq, Nat.add_mul]; omega)]
      have e : (i + 1) * es + j - q.2.cells.toList.length = i * es + j := by simp [hq, Nat.add_mul]; omega
      rw [e]; exact this

theorem length_valsL {es : Nat} : ∀ (vs : List (Nat × Value)), (∀ q ∈ vs, q.2.cells.size = es) → (valsL vs).length = vs.length * es
  | [], _ => by simp [valsL]
  | q :: vs, hs => by
    have := length_valsL vs fun q hq => hs q (List.mem_cons_of_mem _ hq)
    simp only [valsL, List.map_cons, List.flatten_cons, List.length_append, List.length_cons] at this ⊢
    rw [this, Array.length_toList, hs q List.mem_cons_self, Nat.add_mul]; omega

theorem implAll_get {r : Row} : ∀ {ls : List (List Cell)} {xs : List (DenR r)}, implAll r ls = some xs → xs.length = ls.length ∧ ∀ (i : Nat) x, xs[i]? = some x → ∃ cs, ls[i]? = some cs ∧ impl r cs = some x
  | [], xs, h => by simp [implAll] at h; subst h; exact ⟨rfl, fun i x hx => by simp at hx⟩
  | cs :: ls, xs, h => by
    simp only [implAll] at h
    split at h
    · rename_i x xs' h1 h2
      cases h
      obtain ⟨g1, g2⟩ := implAll_get h2
      refine ⟨by simp [g1], fun i y hy => ?_⟩
      cases i with
      | zero => simp at hy; subst hy; exact ⟨cs, rfl, h1⟩
      | succ i => simpa using g2 i y (by simpa using hy)
    · cases h

theorem impl_len : ∀ {r : Row} {cs : List Cell} {x : DenR r}, impl r cs = some x → cs.length = sz r
  | .nil, cs, x, h => by cases cs <;> simp_all [impl, sz]
  | .cons t .nil, cs, x, h => by
    match cs, h with
    | [], h => simp [impl] at h
    | [c], h => simp [sz]
    | c :: d :: cs, h => simp [impl] at h
  | .cons t (.cons t' r), cs, x, h => by
    match cs, h with
    | [], h => simp [impl] at h
    | c :: cs, h =>
      simp only [impl] at h
      split at h
      · rename_i y z hy hz
        have := impl_len hz
        simp [sz] at this ⊢; omega
      · cases h
  | .cons t .expr, cs, x, h => by
    match cs, h with
    | [], h => simp [impl] at h
    | c :: cs, h =>
      simp only [impl] at h
      split at h
      · rename_i y z hy hz
        unfold exOf at hz
        split at hz
        · simp [sz]
        · cases hz
      · cases h
  | .expr, cs, x, h => by
    have h' : exOf cs = some x := by cases cs <;> simpa [impl] using h
    unfold exOf at h'
    split at h'
    · simp [sz]
    · cases h'

theorem buildSlice_next {ρ : Type} {k : PV → St → Option ρ} {r : ρ} (h : SimM E G w s) {a : Act} (ht : SimT E G w s a) {ids : List (Nat × Bool)} (hi : IdsHold a ids) {t e es eb len : Nat} {row : Row} (hT : TIok P t (.slice e es eb row)) {ps : Array (Nat × Operand)} {l : List (Nat × List Cell)}
    (hl : evParts (s.ev ids) ps.toList = some l) (hes : es = sz row) (hpos : 0 < es) (hlen : l.length = len) (hord : inOrder 0 l = true) (hlim : len * es ≤ 16777216) {xs : List (DenR row)} (hxs : implAll row (l.map (·.2)) = some xs)
    (hk : k (.one (.sl row xs (s.nt + 1))) { s with live := (s.nt, e) :: s.live, nt := s.nt + 1 } = some r) :
    ∃ x w', (Instr.buildSlice t len (ps.map fun (i, x) => (i, a.eval x))).run P w = .ok x w' ∧ Next1 E G w s k r x w' := by
  obtain ⟨hu, i, z, hinfo, hsz, hby, hz, hzs⟩ := hT.slice _ _ _ _ rfl
  obtain ⟨hl1, hl2⟩ := evParts_rep ht hi hl
  obtain ⟨hx1, hx2⟩ := implAll_get hxs
  have hps : (ps.map fun (x : Nat × Operand) => match x with | (i, x) => (i, a.eval x)).toList = ps.toList.map fun x => (x.1, a.eval x.2) := by simp
  let vs : List (Nat × Value) := ps.toList.map fun x => (x.1, a.eval x.2)
  have hvl : vs.length = len := by simp [vs]; rw [← hlen, hl1]; simp
  have hcell : ∀ (j : Nat) q, vs[j]? = some q → ∃ p x, l[j]? = some p ∧ xs[j]? = some x ∧ impl row p.2 = some x ∧ RepCs E G w p.2 q.2.cells.toList := by
    intro j q hq
    have hj : j < l.length := by have := (List.getElem?_eq_some_iff.1 hq).1; omega
    have hjx : j < xs.length := by rw [hx1]; simpa using hj
    obtain ⟨cs, hcs, him⟩ := hx2 j _ (List.getElem?_eq_getElem hjx)
    rw [List.getElem?_map, List.getElem?_eq_getElem hj] at hcs
    simp at hcs
    refine ⟨l[j], xs[j], List.getElem?_eq_getElem hj, List.getElem?_eq_getElem hjx, by rw [hcs]; exact him, (hl2 j _ q (List.getElem?_eq_getElem hj) hq).2⟩
  have hvs : ∀ q ∈ vs, q.2.cells.size = es := by
    intro q hq
    obtain ⟨j, hj⟩ := List.getElem?_of_mem hq
    obtain ⟨p, x, _, _, him, hrep⟩ := hcell j q hj
    have h1 := impl_len him
    have h2 := hrep.length
    simp at h2; omega
  obtain ⟨arr, ha1, ha2⟩ := fillSeq es l vs 0 ((Array.range (len * es)).map (fun j => z.cells[j % z.cells.size]!)) hord (by omega) (fun j p q h1 h2 => (hl2 j p q h1 h2).1) hvs (by simp [hvl])
  have ha3 : arr.toList = valsL vs := by
    rw [ha2, Nat.zero_mul, List.take_zero, List.nil_append, Nat.zero_add, hvl, List.drop_eq_nil_of_le (by simp), List.append_nil]
  have hasz : arr.size = len * sz row := by rw [← Array.length_toList, ha3, length_valsL vs hvs, hvl, hes]
  have hxl : xs.length = len := by rw [hx1]; simpa using hlen
  refine ⟨.slice (some ⟨w.heap.size, 0, none⟩) len len, w.alloc (.cells arr e), ?_, ?_⟩
  · unfold Instr.buildSlice
    simp only [Sem.run_bind, run_underlying hu, Result.andThen_ok, run_sizeOf' hinfo, hsz]
    rw [if_neg (by omega)]
    by_cases h0 : len * es = 0
    · rw [if_pos h0, pure_bind]
      have hrange : ((Array.range (len * es)).map fun j => (#[] : Array Value)[j % (#[] : Array Value).size]!) = (Array.range (len * es)).map (fun j => z.cells[j % z.cells.size]!) := by rw [h0]; simp
      rw [hrange, hps, ha1]
      rfl
    · rw [if_neg h0]
      have hz' : (zeroValue e).run P w = .ok z w := by simp [zeroValue, typeInfo, hinfo, hz]
      simp only [Sem.run_bind, hz', Result.andThen_ok, Sem.run_pure]
      rw [hps, ha1]
      rfl
  · have hcr : CellsRep w (okG E G) row xs (valsL vs) := by
      refine ⟨by rw [length_valsL vs hvs, hvl, hxl, hes], fun i j hi hj => ?_⟩
      have hiv : i < vs.length := by omega
      obtain ⟨p, x, _, hx, him, hrep⟩ := hcell i _ (List.getElem?_eq_getElem hiv)
      obtain ⟨u, hu1, hu2⟩ := impl_rep hrep him j hj
      refine ⟨u, ?_, ?_⟩
      · rw [← hes, getElem?_valsL hpos vs i j _ hvs (List.getElem?_eq_getElem hiv) (by omega)]; exact hu1
      · rw [map_getD _ _ _ hi]
        rw [List.getElem?_eq_getElem hi] at hx; cases hx
        exact hu2
    have := fresh_next (k := k) (r := r) h hcr (w' := w.alloc (.cells arr e)) (below_alloc w _) (g := w.heap.size) (cap := len) (arr := arr) (e := e) (Nat.le_refl _) (heap_alloc_new w _) (by omega) (by
        unfold maxLen
        have : len ≤ len * es := Nat.le_mul_of_pos_right _ hpos
        omega) hasz (by rw [ha3, List.take_of_length_le]; rw [length_valsL vs hvs, hvl, hxl, hes]; exact Nat.le_refl _) (fun p hp => hp) hk
    rw [hxl] at this
    exact this

end
end Go.PM
