/- The pure machine, part 19: a loop's frame, laid anew. -/
import Derived.Test.YtcjmpignjljfbaaPM18
namespace Go.PM
open Go.RowKit
set_option linter.unusedVariables false
set_option linter.unusedSimpArgs false

theorem getTm_spec {s : St} : ∀ {l : List (Nat × Ty × Option Nat)} {cs : List (Option Nat × Cell)}, getTm s l = some cs → cs.length = l.length ∧ cs.map (·.1) = l.map (·.2.2) ∧
    ∀ (j : Nat) d ty o, l[j]? = some (d, ty, o) → ∃ c, cs[j]? = some (o, c) ∧ getT s.t d = some ([], .one c) ∧ ownOk s o c = true
  | [], cs, h => by simp [getTm] at h; subst h; exact ⟨rfl, rfl, fun j d ty o hj => by simp at hj⟩
  | (d, ty, o) :: l, cs, h => by
    simp only [getTm] at h
    split at h
    · rename_i c cs' hg hl
      cases ho : ownOk s o c with
      | false => rw [ho] at h; cases h
      | true =>
        rw [ho] at h
        cases h
        obtain ⟨h1, h2, h3⟩ := getTm_spec hl
        refine ⟨by simp [h1], by simp [h2], fun j d' ty' o' hj => ?_⟩
        cases j with
        | zero => simp at hj; obtain ⟨rfl, rfl, rfl⟩ := hj; exact ⟨c, rfl, hg, ho⟩
        | succ j => simpa using h3 j d' ty' o' (by simpa using hj)
    · cases h

theorem getBx_spec {s : St} : ∀ {l : List (Nat × Nat × Ty × Option Nat)} {cs : List (Option Nat × Cell)}, getBx s l = some cs → cs.length = l.length ∧ cs.map (·.1) = l.map (·.2.2.2) ∧
    ∀ (j : Nat) b off ty o, l[j]? = some (b, off, ty, o) → ∃ c, cs[j]? = some (o, c) ∧ s.cellB b off = some c ∧ ownOk s o c = true
  | [], cs, h => by simp [getBx] at h; subst h; exact ⟨rfl, rfl, fun j b off ty o hj => by simp at hj⟩
  | (b, off, ty, o) :: l, cs, h => by
    simp only [getBx] at h
    split at h
    · rename_i c cs' hg hl
      cases ho : ownOk s o c with
      | false => rw [ho] at h; cases h
      | true =>
        rw [ho] at h
        cases h
        obtain ⟨h1, h2, h3⟩ := getBx_spec hl
        refine ⟨by simp [h1], by simp [h2], fun j b' off' ty' o' hj => ?_⟩
        cases j with
        | zero => simp at hj; obtain ⟨rfl, rfl, rfl, rfl⟩ := hj; exact ⟨c, rfl, hg, ho⟩
        | succ j => simpa using h3 j b' off' ty' o' (by simpa using hj)
    · cases h

theorem plainT_mem : ∀ {l : List (Nat × List (Nat × Bool) × PV)} {d ids v}, (d, ids, v) ∈ plainT l → (d, ids, v) ∈ l
  | [], d, ids, v, h => by cases h
  | (k, [], u) :: l, d, ids, v, h => by
    rcases List.mem_cons.1 h with h1 | h1
    · cases h1; exact List.mem_cons_self
    · exact List.mem_cons_of_mem _ (plainT_mem h1)
  | (k, p :: ps, u) :: l, d, ids, v, h => List.mem_cons_of_mem _ (plainT_mem (l := l) h)

theorem setTm_mem : ∀ {l : List (Nat × Ty × Option Nat)} {cs : List Cell} {t : List (Nat × List (Nat × Bool) × PV)} {d ids v}, (d, ids, v) ∈ setTm l cs t →
    (∃ (j : Nat) (ty : Ty) (o : Option Nat) (c : Cell), l[j]? = some (d, ty, o) ∧ cs[j]? = some c ∧ ids = [] ∧ v = .one c) ∨ (d, ids, v) ∈ t
  | [], cs, t, d, ids, v, h => .inr (by simpa [setTm] using h)
  | _ :: _, [], t, d, ids, v, h => .inr (by simpa [setTm] using h)
  | (k, ty, o) :: l, c :: cs, t, d, ids, v, h => by
    simp only [setTm] at h
    rcases List.mem_cons.1 h with h1 | h1
    · cases h1; exact .inl ⟨0, ty, o, c, rfl, rfl, rfl, rfl⟩
    · rcases setTm_mem h1 with ⟨j, ty', o', c', a1, a2, a3, a4⟩ | h2
      · exact .inl ⟨j + 1, ty', o', c', by simpa using a1, by simpa using a2, a3, a4⟩
      · exact .inr h2

theorem setBx_len : ∀ (l : List (Nat × Nat × Ty × Option Nat)) (cs : List Cell) (bs : List (List Cell)), (setBx l cs bs).length = bs.length
  | [], cs, bs => by simp [setBx]
  | _ :: _, [], bs => by simp [setBx]
  | (b, off, ty, o) :: l, c :: cs, bs => by simp only [setBx]; rw [setBx_len]; simp

theorem setBx_get : ∀ (l : List (Nat × Nat × Ty × Option Nat)) (cs : List Cell) (bs : List (List Cell)) (i : Nat) (row : List Cell), (setBx l cs bs)[i]? = some row → ∃ row0, bs[i]? = some row0 ∧ row.length = row0.length ∧
    ∀ (k : Nat) c, row[k]? = some c → (∃ (j : Nat) (ty : Ty) (o : Option Nat), l[j]? = some (i, k, ty, o) ∧ cs[j]? = some c) ∨ (row0[k]? = some c ∧ ∀ (j : Nat) (ty : Ty) (o : Option Nat), j < cs.length → l[j]? ≠ some (i, k, ty, o))
  | [], cs, bs, i, row, h => ⟨row, by simpa [setBx] using h, rfl, fun k c hk => .inr ⟨hk, fun j ty o _ hj => by simp at hj⟩⟩
  | _ :: _, [], bs, i, row, h => ⟨row, by simpa [setBx] using h, rfl, fun k c hk => .inr ⟨hk, fun j ty o hj => by simp at hj⟩⟩
  | (b, off, ty, o) :: l, c0 :: cs, bs, i, row, h => by
    simp only [setBx] at h
    obtain ⟨row1, h1, h2, h3⟩ := setBx_get l cs _ i row h
    by_cases hib : i = b
    · subst hib
      have hil : i < bs.length := by
        have := (List.getElem?_eq_some_iff.1 h1).1
        simpa using this
      rw [List.getElem?_set_self hil] at h1
      cases h1
      have hb : bs[i]? = some bs[i] := List.getElem?_eq_getElem hil
      have hD : bs.getD i [] = bs[i] := by simp [List.getD, hb]
      rw [hD] at h2 h3
      refine ⟨bs[i], hb, by simpa using h2, fun k c hk => ?_⟩
      rcases h3 k c hk with ⟨j, ty', o', a1, a2⟩ | ⟨a1, a2⟩
      · exact .inl ⟨j + 1, ty', o', by simpa using a1, by simpa using a2⟩
      · by_cases hko : k = off
        · subst hko
          have hkl : k < bs[i].length := by
            have := (List.getElem?_eq_some_iff.1 a1).1
            simpa using this
          rw [List.getElem?_set_self hkl] at a1
          cases a1
          exact .inl ⟨0, ty, o, rfl, rfl⟩
        · rw [List.getElem?_set_ne (fun e => hko e.symm)] at a1
          refine .inr ⟨a1, fun j ty' o' hj => ?_⟩
          cases j with
          | zero => intro he; simp at he; exact hko he.1.symm
          | succ j => simpa using a2 j ty' o' (by simpa using hj)
    · rw [List.getElem?_set_ne (fun e => hib e.symm)] at h1
      refine ⟨row1, h1, h2, fun k c hk => ?_⟩
      rcases h3 k c hk with ⟨j, ty', o', a1, a2⟩ | ⟨a1, a2⟩
      · exact .inl ⟨j + 1, ty', o', by simpa using a1, by simpa using a2⟩
      · refine .inr ⟨a1, fun j ty' o' hj => ?_⟩
        cases j with
        | zero => intro he; simp at he; exact hib he.1.symm
        | succ j => simpa using a2 j ty' o' (by simpa using hj)

/-- Of each box its block, and the cells that are not the frame's. -/
def BoxFr (G : Gh) (w w' : World) (h : Hint) : Prop :=
  ∀ (i : Nat) blk arr T, G.rho[i]? = some blk → w.heap[blk]? = some (.cells arr T (0, 0)) → ∃ arr', w'.heap[blk]? = some (.cells arr' T (0, 0)) ∧ arr'.size = arr.size ∧
    ∀ off : Nat, (i, off) ∉ h.bx.map (fun p => (p.1, p.2.1)) → arr'[off]? = arr[off]?

theorem zip_fst_snd {α β : Type} : ∀ l : List (α × β), (l.map (·.1)).zip (l.map (·.2)) = l
  | [] => rfl
  | (a, b) :: l => by simp only [List.map_cons, List.zip_cons_cons, zip_fst_snd l]

section
variable {P : Program} {E : Env} {G G' : Gh} {w w' : World} {s s' : St} {a a' : Act}

theorem Sim.one (h : Sim E G w s a) {d : Nat} {c : Cell} (hg : getT s.t d = some ([], .one c)) : RepC E G w c (a.tmps.getD d undef) := by
  rcases h.t.tm _ _ _ (getT_mem hg) with ⟨_, h2⟩ | ⟨h2, _⟩
  · exact h2
  · exact (h2 (idsHold_nil a)).elim

theorem nrep_repc {G'' : Gh} {T : List Tok} (hs : Stays w' (okG E G') w' (okG E G'')) (hT : G''.tk = T) (hid : ∀ e ∈ T, e.id < G''.nt) (hu : ∀ e ∈ T, ∀ e' ∈ T, e.id = e'.id → e = e') {d : Cell} {x : Value} (h : NRep E G' w' T d x) : RepC E G'' w' d x := by
  cases d with
  | sl r l tok =>
    obtain ⟨h1, h2⟩ := h
    refine ⟨h1.mono hs, ?_, fun e he ht => ?_⟩
    · rcases h2 with rfl | ⟨e, he, h2, _⟩
      · exact Nat.zero_le _
      · have := hid e he; omega
    · rw [hT] at he
      rcases h2 with rfl | ⟨e', he', h2, h3, h4, h5⟩
      · omega
      · have := hu e he e' he' (by omega)
        subst this
        exact ⟨h3, h4, h5⟩
  | val v => exact h.1
  | nil => obtain ⟨_, v, hv⟩ := h; cases hv
  | box b o => obtain ⟨_, v, hv⟩ := h; cases hv
  | elt r y o => obtain ⟨_, v, hv⟩ := h; cases hv
  | clo f cs => obtain ⟨_, v, hv⟩ := h; cases hv

theorem reput {h : Hint} {ds : List Nat} (h0 : Sim E G w s a) (hin : ∀ p ∈ h.bx, p.1 < s.b.length) (hn : s'.n = s.n) (h1 : Sim E G' w' s' a') (hm : Mono E G w G' w') (hbx : BoxFr G w w' h) (htm : ∀ d, d ∉ ds → a'.tmps.getD d undef = a.tmps.getD d undef) {v : DenR h.row} (hv : h.get s' = some v) :
    ∃ G'', Sim E G'' w' (h.put ds s v) a' ∧ Mono E G w G'' w' ∧ G''.rho = G.rho := by
  unfold Hint.get at hv
  split at hv
  · rename_i l m hl hmm
    cases hdn : distinctN (toksOf (l ++ m)) with
    | false => rw [hdn] at hv; cases hv
    | true =>
      rw [hdn] at hv
      simp only [cond_true] at hv
      obtain ⟨l1, l2, l3⟩ := getTm_spec hl
      obtain ⟨m1, m2, m3⟩ := getBx_spec hmm
      -- the real values of the frame
      let cellOf : Nat → Nat → Value := fun b off => match G.rho[b]? with
        | some blk => (w'.cell? ⟨blk, off, none⟩).getD undef
        | none => undef
      let xt : List Value := h.tm.map fun p => a'.tmps.getD p.1 undef
      let xb : List Value := h.bx.map fun p => cellOf p.1 p.2.1
      have hos : h.owns = (l ++ m).map (·.1) := by simp only [Hint.owns, List.map_append, l2, m2]
      have hzip : h.owns.zip ((l ++ m).map (·.2)) = l ++ m := by rw [hos]; exact zip_fst_snd (l ++ m)
      have hcl : ((l ++ m).map (·.2)).length = h.tm.length + h.bx.length := by simp [l1, m1]
      -- what a box of the frame's holds
      have hbox : ∀ (b off : Nat) c, b < G.rho.length → s'.cellB b off = some c → RepC E G' w' c (cellOf b off) ∧ ∃ blk, G.rho[b]? = some blk ∧ w'.cell? ⟨blk, off, none⟩ = some (cellOf b off) ∧ (cellOf b off).oneCell' = true := by
        intro b off c hbl hc
        unfold St.cellB at hc
        split at hc
        · rename_i cs hcs
          obtain ⟨blk, arr, T, g1, g2, g3⟩ := h1.m.b.box b cs hcs
          have hr : G.rho[b]? = some G.rho[b] := List.getElem?_eq_getElem hbl
          have he : blk = G.rho[b] := by have := hm.rho _ _ hr; rw [g1] at this; exact Option.some.inj this
          subst he
          obtain ⟨u, hu, hur, huo⟩ := g3.get off c hc
          have hcell : w'.cell? ⟨G.rho[b], off, none⟩ = some u := by simp only [World.cell?, g2]; simpa using hu
          have hcO : cellOf b off = u := by simp only [cellOf, hr, hcell, Option.getD_some]
          rw [hcO]
          exact ⟨hur, _, hr, hcell, huo⟩
        · cases hc
      have hbin : ∀ (j : Nat) b off ty o, h.bx[j]? = some (b, off, ty, o) → b < G.rho.length := by
        intro j b off ty o hj
        have := hin _ (List.mem_of_getElem? hj)
        rw [h0.m.len] at this
        exact this
      -- each cell of the frame
      have hget : ∀ (j : Nat) p, (l ++ m)[j]? = some p → (∃ d ty, h.tm[j]? = some (d, ty, p.1) ∧ l[j]? = some p ∧ getT s'.t d = some ([], .one p.2)) ∨
          (∃ b off ty, h.tm.length ≤ j ∧ h.bx[j - h.tm.length]? = some (b, off, ty, p.1) ∧ s'.cellB b off = some p.2) := by
        intro j p hj
        by_cases hjl : j < l.length
        · rw [List.getElem?_append_left hjl] at hj
          have hjt : j < h.tm.length := by omega
          obtain ⟨c, c1, c2, c3⟩ := l3 j h.tm[j].1 h.tm[j].2.1 h.tm[j].2.2 (List.getElem?_eq_getElem hjt)
          rw [hj] at c1; cases c1
          exact .inl ⟨_, _, List.getElem?_eq_getElem hjt, hj, c2⟩
        · rw [List.getElem?_append_right (by omega)] at hj
          have hjb : j - l.length < h.bx.length := by rw [← m1]; exact (List.getElem?_eq_some_iff.1 hj).1
          obtain ⟨c, c1, c2, c3⟩ := m3 (j - l.length) h.bx[j - l.length].1 h.bx[j - l.length].2.1 h.bx[j - l.length].2.2.1 h.bx[j - l.length].2.2.2 (List.getElem?_eq_getElem hjb)
          rw [hj] at c1; cases c1
          refine .inr ⟨h.bx[j - l.length].1, h.bx[j - l.length].2.1, h.bx[j - l.length].2.2.1, by omega, ?_, c2⟩
          rw [← l1]
          exact List.getElem?_eq_getElem hjb
      have hown : ∀ (j : Nat) o c, h.owns[j]? = some o → ((l ++ m).map (·.2))[j]? = some c → ownOk s' o c = true := by
        intro j o c ho hc
        rw [hos] at ho
        simp only [List.getElem?_map, Option.map_eq_some_iff] at ho hc
        obtain ⟨p, hp, rfl⟩ := ho
        obtain ⟨p', hp', rfl⟩ := hc
        rw [hp] at hp'; cases hp'
        rcases hget j p hp with ⟨d, ty, e1, e2, e3⟩ | ⟨b, off, ty, e1, e2, e3⟩
        · obtain ⟨c, c1, c2, c3⟩ := l3 _ _ _ _ e1
          rw [e2] at c1; rw [Option.some.inj c1]; exact c3
        · obtain ⟨c, c1, c2, c3⟩ := m3 _ _ _ _ _ e2
          rw [e3] at c2; rw [Option.some.inj c2]; exact c3
      have hxl : (xt ++ xb).length = ((l ++ m).map (·.2)).length := by rw [hcl]; simp [xt, xb]
      have hxt : ∀ (j : Nat) d ty o, h.tm[j]? = some (d, ty, o) → (xt ++ xb)[j]? = some (a'.tmps.getD d undef) := by
        intro j d ty o hj
        have hjt := (List.getElem?_eq_some_iff.1 hj).1
        rw [List.getElem?_append_left (by simpa [xt] using hjt)]
        simp [xt, hj]
      have hxb : ∀ (j : Nat) b off ty o, h.bx[j]? = some (b, off, ty, o) → (xt ++ xb)[h.tm.length + j]? = some (cellOf b off) := by
        intro j b off ty o hj
        rw [List.getElem?_append_right (by simp [xt])]
        simp [xt, xb, hj]
      have hrep : ∀ (j : Nat) c d x, ((l ++ m).map (·.2))[j]? = some c → (expl h.row v)[j]? = some d → (xt ++ xb)[j]? = some x → RepC E G' w' c x ∧ CellEq c d := by
        intro j c d x hc hd hx
        refine ⟨?_, ?_⟩
        · simp only [List.getElem?_map, Option.map_eq_some_iff] at hc
          obtain ⟨p, hp, rfl⟩ := hc
          rcases hget j p hp with ⟨d', ty, e1, e2, e3⟩ | ⟨b, off, ty, e1, e2, e3⟩
          · rw [hxt _ _ _ _ e1] at hx; cases hx
            exact h1.one e3
          · have := hxb _ _ _ _ _ e2
            rw [show h.tm.length + (j - h.tm.length) = j by omega, hx] at this
            cases this
            exact (hbox b off p.2 (hbin _ _ _ _ _ e2) e3).1
        · obtain ⟨d', g1, g2⟩ := impl_expl hv j c hc
          rw [hd] at g1; cases g1
          exact g2
      obtain ⟨T, t1, t2, t3, t4, t5, t6, t7⟩ := name_rep h1.m h.owns ((l ++ m).map (·.2)) (expl h.row v) (xt ++ xb) s.nt (by rw [hos]; simp) (by rw [expl_length, impl_len hv]) hxl hrep hown
        (by rw [hzip]; exact distinctN_nodup hdn)
      rw [hzip] at t3
      let G'' : Gh := { rho := G.rho, tk := T, nt := s.nt + (nameL s.nt h.owns (expl h.row v)).length }
      have hrsub : ∀ b, b ∈ G.rho → b ∈ G'.rho := by
        intro b hb
        obtain ⟨i, hi⟩ := List.getElem?_of_mem hb
        exact List.mem_of_getElem? (hm.rho i b hi)
      have hok : ∀ b o, okG E G' b o → okG E G'' b o := by
        intro b o ho
        refine ⟨ho.1, fun hb => ho.2.1 (hrsub b hb), fun e he hb => ?_⟩
        rcases t3 e he with ⟨q1, _⟩ | ⟨q, hq, _, q1, q2, q3, _⟩
        · rw [q1] at hb; cases hb
        · rw [q2, q3]; exact ho.2.2 q hq (by rw [← q1]; exact hb)
      have hst : Stays w' (okG E G') w' (okG E G'') := fun b o ho _ => ⟨hok b o ho, fun _ _ _ => rfl⟩
      have hmono : Mono E G w G'' w' :=
        ⟨fun b o ho hb => ⟨hok b o (hm.stays b o ho hb).1, (hm.stays b o ho hb).2⟩, fun _ _ h => h, fun e he => .inr (by rw [← h0.m.nt]; exact (t1 e he).1), by show G.nt ≤ s.nt + _; rw [h0.m.nt]; omega⟩
      have hcell : ∀ (j : Nat) c x, (nameCs s.nt h.owns (expl h.row v))[j]? = some c → (xt ++ xb)[j]? = some x → RepC E G'' w' c x := fun j c x hc hx =>
        nrep_repc hst rfl (fun e he => (t1 e he).2) t2 (t7 j c x hc hx)
      refine ⟨G'', ⟨⟨?_, by rw [h1.t.n, hn]; rfl, h1.t.df⟩, ⟨⟨?_⟩, h0.m.nodup, h0.m.rge, ?_, fun e he => (t1 e he).2, ?_, t4, t2, t5, rfl, h1.m.bel, h1.m.base, ?_⟩⟩, hmono, rfl⟩
      · intro d ids u hmem
        rcases setTm_mem hmem with ⟨j, ty, o, c, e1, e2, rfl, rfl⟩ | hmem
        · exact .inl ⟨idsHold_nil _, hcell j c _ e2 (hxt j d ty o e1)⟩
        · obtain ⟨rfl, k2, k3⟩ := keepT_mem hmem
          rcases h0.t.tm _ _ _ k2 with ⟨_, g⟩ | ⟨g, _⟩
          · exact .inl ⟨idsHold_nil _, by rw [htm d k3]; exact RepP.mono hmono g⟩
          · exact (g (idsHold_nil a)).elim
      · intro i row hi
        obtain ⟨row0, r1, r2, r3⟩ := setBx_get _ _ _ _ _ hi
        obtain ⟨blk, arr, Ty, b1, b2, b3⟩ := h0.m.b.box i row0 r1
        obtain ⟨arr', a1, a2, a3⟩ := hbx i blk arr Ty b1 b2
        have hil : i < G.rho.length := (List.getElem?_eq_some_iff.1 b1).1
        refine ⟨blk, arr', Ty, b1, a1, RepCs.of ?_ fun k c hk => ?_⟩
        · have := b3.length
          simp at this ⊢
          omega
        · rcases r3 k c hk with ⟨j, ty, o, e1, e2⟩ | ⟨e1, e2⟩
          · rw [List.getElem?_drop] at e2
            obtain ⟨c0, _, c1, _⟩ := m3 j i k ty o e1
            obtain ⟨_, blk', d1, d2, d3⟩ := hbox i k c0 hil c1
            rw [b1] at d1; cases d1
            refine ⟨cellOf i k, ?_, hcell _ c _ e2 (hxb j i k ty o e1), d3⟩
            simp only [World.cell?, a1] at d2
            simpa using d2
          · have hnm : (i, k) ∉ h.bx.map (fun p => (p.1, p.2.1)) := by
              intro hmem
              obtain ⟨p, hp, hpe⟩ := List.mem_map.1 hmem
              obtain ⟨j, hj⟩ := List.getElem?_of_mem hp
              obtain ⟨p1, p2, p3, p4⟩ := p
              simp at hpe
              obtain ⟨rfl, rfl⟩ := hpe
              refine e2 j p3 p4 ?_ hj
              have := (List.getElem?_eq_some_iff.1 hj).1
              simp only [List.length_drop, t6, hcl]
              omega
            obtain ⟨u, g1, g2, g3⟩ := b3.get k c e1
            refine ⟨u, ?_, g2.mono hmono, g3⟩
            have := a3 k hnm
            simp at g1 ⊢
            rw [this]; exact g1
      · intro e he
        rcases t3 e he with ⟨q1, q2, q3⟩ | ⟨q, hq, _, q1, q2, q3, q4, q5⟩
        · rw [q1, q2, q3]; exact World.ownsRow_nil _ _ _ _
        · rw [q1, q2, q3, q4, q5]; exact h1.m.own q hq
      · intro e he b hb hmem
        rcases t3 e he with ⟨q1, _⟩ | ⟨q, hq, _, q1, _⟩
        · rw [q1] at hb; cases hb
        · exact h1.m.out q hq b (by rw [← q1]; exact hb) (hrsub b hmem)
      · show (setBx h.bx _ s.b).length = G.rho.length
        rw [setBx_len, h0.m.len]
  · cases hv

end
end Go.PM
