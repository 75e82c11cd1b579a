/- The pure machine, part 9: whatever only reckons and reads gives on the real machine what it gives on the pure one. -/
import Derived.Test.YtcjmpignjljfbaaPM8
namespace Go.PM
set_option linter.unusedVariables false
set_option linter.unusedSimpArgs false
section
variable {P : Program} {E : Env} {G : Gh} {w : World}

theorem RepCs.belowW {w' : World} {cs : List Cell} {us : List Value} (h : RepCs E G w cs us) (hb : Go.RowKit.Below w.heap.size w w') : RepCs E G w' cs us :=
  h.mono ⟨fun b o ho hlt => ⟨ho, fun a ha _ => World.cell?_of_block (hb.block _ (by rw [ha]; exact hlt))⟩, fun _ _ h => h, fun _ h => .inl h, Nat.le_refl _⟩

def Runs (P : Program) (E : Env) (G : Gh) (w : World) (sm : Sem Next) (v : PV) : Prop := ∃ x, (∀ w', Go.RowKit.Below w.heap.size w w' → sm.run P w' = .ok (.value x) w') ∧ RepP E G w v x

theorem Runs.of {sm : Sem Value} {v : PV} (h : Gives P E G w sm v) : Runs P E G w (do pure (.value (← sm))) v := by
  obtain ⟨x, h1, h2⟩ := h
  exact ⟨x, fun w' hb => by simp only [Sem.run_bind, h1 w' hb, Result.andThen_ok, Sem.run_pure], h2⟩

theorem binOp_gives {tis : Nat → Option TI} (htab : TabOk P tis) {s : St} {a : Act} (ht : SimT E G w s a) {ids : List (Nat × Bool)} (hi : IdsHold a ids) (op : BinOp) (t : TypeId) (x y : Operand) (yt : TypeId) :
    GivesR P E G w (do eqGuard op t x y (a.eval x) (a.eval y); binOp op t (a.eval x) (a.eval y)) (opV tis s ids (.binOp op t x y yt)) := by
  have pre : ∀ {u v : Value} {r : R}, a.eval x = u → a.eval y = v → (∀ w' : World, (eqGuard op t x y u v).run P w' = .ok () w') → GivesR P E G w (binOp op t u v) r →
      GivesR P E G w (do eqGuard op t x y (a.eval x) (a.eval y); binOp op t (a.eval x) (a.eval y)) r := by
    intro u v r h1 h2 h3 h4 pv hpv
    obtain ⟨z, g1, g2⟩ := h4 pv hpv
    exact ⟨z, fun w' hb => by rw [h1, h2]; simp only [Sem.run_bind, h3, Result.andThen_ok, g1 w' hb], g2⟩
  simp only [opV]
  split
  · rename_i b c hx hy
    have h1 : a.eval x = .bool b := ev_rep ht hi hx
    have h2 : a.eval y = .bool c := ev_rep ht hi hy
    split
    · rename_i hty
      have hu := (tiB_ok (htab _ _ hty)).bool rfl
      exact pre h1 h2 (fun _ => run_eqGuard_bool _ _ _ _ _ _) (.ok (.val fun w' => by rw [run_eql_bool _ _ _ _ hu]))
    · rename_i hty
      have hu := (tiB_ok (htab _ _ hty)).bool rfl
      refine pre h1 h2 (fun _ => run_eqGuard_bool _ _ _ _ _ _) (.ok (.val fun w' => ?_))
      simp only [binOp, Sem.run_bind, Op.equal, Op.maxDepth, run_equalIn_bool' w' _ t _ _ hu, Result.andThen_ok, Sem.run_pure]
    · exact .no
  · rename_i u v _ hx hy
    have h1 : a.eval x = u := ev_rep ht hi hx
    have h2 : a.eval y = v := ev_rep ht hi hy
    by_cases hb : ∃ p q, binV op u v = .ok q ∨ binV op u v = .chk p q
    · refine pre h1 h2 ?_ (binV_gives op t u v)
      cases u <;> cases v <;> first
        | exact fun _ => run_eqGuard_int _ _ _ _ _ _ _ _
        | exact fun _ => run_eqGuard_string _ _ _ _ _ _
        | (exfalso; obtain ⟨p, q, h | h⟩ := hb <;> cases h)
    · cases hr : binV op u v with
      | no => exact .no
      | ok q => exact absurd ⟨true, q, .inl hr⟩ hb
      | chk p q => exact absurd ⟨p, q, .inr hr⟩ hb
  · rename_i as bs hx hy
    obtain ⟨us, h1, h1'⟩ := (ev_rep ht hi hx : RepP E G w (.agg as) _)
    obtain ⟨vs, h2, h2'⟩ := (ev_rep ht hi hy : RepP E G w (.agg bs) _)
    have key : ∀ z fs ks c, tis t = some (.agg z fs (some ks)) → eqCells ks as bs = some c → (∀ w' : World, (eqGuard op t x y (.agg us.toArray) (.agg vs.toArray)).run P w' = .ok () w') ∧ (∀ w', Go.RowKit.Below w.heap.size w w' → (Op.equalIn 10000 t (.agg us.toArray) (.agg vs.toArray)).run P w' = .ok c w') := by
      intro z fs ks c hty hc
      obtain ⟨F, hu, _, hcmp⟩ := (tiB_ok (htab _ _ hty)).agg _ _ _ rfl
      simp only [cmpB, Bool.and_eq_true, Bool.not_eq_true'] at hcmp
      obtain ⟨hg, hk⟩ := hcmp
      split at hk
      · rename_i ks' hks
        have := cksEq_eq hk
        subst this
        exact ⟨fun w' => run_eqGuard_agg w' op t x y _ _ hg, fun w' hb => (cmpGood 8 t _ hks _ hu 10000 (by omega)).1 rfl us vs as bs c (h1'.belowW hb) (h2'.belowW hb) hc⟩
      · cases hk
    split
    · rename_i hty
      split
      · rename_i c hc
        obtain ⟨k1, k2⟩ := key _ _ _ _ hty hc
        exact pre h1 h2 k1 (.ok ⟨_, fun w' hb => by rw [run_eql_struct, k2 w' hb]; rfl, rfl⟩)
      · exact .no
    · rename_i hty
      split
      · rename_i c hc
        obtain ⟨k1, k2⟩ := key _ _ _ _ hty hc
        exact pre h1 h2 k1 (.ok ⟨_, fun w' hb => by rw [run_neq_struct, k2 w' hb]; rfl, rfl⟩)
      · exact .no
    · exact .no
  · exact .no

theorem len_gives {tis : Nat → Option TI} (htab : TabOk P tis) {s : St} {a : Act} (ht : SimT E G w s a) {ids : List (Nat × Bool)} (hi : IdsHold a ids) (as : Array Operand) (ts : Array TypeId) (ty : TypeId) :
    GivesR P E G w (Builtin.len_ ts ty (as.map a.eval)) (opV tis s ids (.call { callee := .builtin .len, args := as, argTypes := ts })) := by
  simp only [opV]
  split
  · rename_i x t has hts
    have ha : as = #[x] := Array.ext' has
    have htt : ts = #[t] := Array.ext' hts
    subst ha; subst htt
    have hmap : (#[x] : Array Operand).map a.eval = #[a.eval x] := by simp
    rw [hmap]
    split
    · rename_i b hty hx
      have hu := (tiB_ok (htab _ _ hty)).str rfl
      have hr : a.eval x = .string b := ev_rep ht hi hx
      rw [hr]
      exact .ok (.val fun w' => (by simp [Builtin.len_, run_underlying hu, isz, goInt]))
    · rename_i e es eb row r l tok hty hx
      obtain ⟨hu, _⟩ := (tiB_ok (htab _ _ hty)).slice _ _ _ _ rfl
      obtain ⟨⟨ad, cap, hv, _⟩, _⟩ := (ev_rep ht hi hx : RepP E G w (.one (.sl r l tok)) _)
      rw [hv]
      exact .ok (.val fun w' => (by simp [Builtin.len_, run_underlying hu, isz, goInt]))
    · rename_i e es eb row hty hx
      obtain ⟨hu, _⟩ := (tiB_ok (htab _ _ hty)).slice _ _ _ _ rfl
      have hv : a.eval x = .slice none 0 0 := (ev_rep ht hi hx : RepP E G w (.one .nil) _)
      rw [hv]
      exact .ok (.val fun w' => (by simp [Builtin.len_, run_underlying hu, isz, goInt]))
    · exact .no
  · exact .no

theorem opV_sound {tis : Nat → Option TI} (htab : TabOk P tis) {s : St} {a : Act} (ht : SimT E G w s a) (hb : SimB E G w s) {ids : List (Nat × Bool)} (hi : IdsHold a ids) (o : Oper) (v : PV)
    (h : (opV tis s ids o.op).val = some (true, v)) : Runs P E G w (execOp a.eval o) v := by
  cases hop : o.op with
  | move x =>
    rw [hop] at h
    simp only [opV] at h
    split at h
    · rename_i u hu
      cases h
      exact ⟨a.eval x, fun w' _ => by simp only [execOp, hop]; rfl, ev_rep ht hi hu⟩
    · cases h
  | assign x =>
    rw [hop] at h
    simp only [opV] at h
    split at h
    · rename_i u hu
      cases h
      exact ⟨a.eval x, fun w' _ => by simp only [execOp, hop]; rfl, ev_rep ht hi hu⟩
    · cases h
  | pick c x y =>
    rw [hop] at h
    cases c with
    | tmp t =>
      simp only [opV] at h
      have hc : ∀ b : Bool, s.ev ids (.tmp t) = some (.one (.val (.bool b))) → IdsHold a ((t, b) :: ids) ∧ a.eval (.tmp t) = .bool b := by
        intro b hb'
        have he : a.eval (.tmp t) = .bool b := ev_rep ht hi hb'
        refine ⟨fun p hp => ?_, he⟩
        rcases List.mem_cons.1 hp with rfl | hp
        · exact he
        · exact hi p hp
      have hrun : ∀ b : Bool, a.eval (.tmp t) = .bool b → ∀ w', Go.RowKit.Below w.heap.size w w' → (execOp a.eval o).run P w' = .ok (.value (if b then a.eval x else a.eval y)) w' := by
        intro b hb' w' _
        simp only [execOp, hop, hb', asBool, Sem.run_bind, Sem.run_pure, Result.andThen_ok]
      split at h
      · rename_i b p q e1 e2 e3
        cases h
        obtain ⟨g1, g2⟩ := hc b e1
        refine ⟨_, hrun b g2, ?_⟩
        cases b with
        | true => exact ev_rep ht g1 e2
        | false => exact ev_rep ht g1 e3
      · rename_i u e1 e2 _
        cases h
        obtain ⟨g1, g2⟩ := hc true e1
        exact ⟨_, hrun true g2, ev_rep ht g1 e2⟩
      · rename_i u e1 e2 _
        cases h
        obtain ⟨g1, g2⟩ := hc false e1
        exact ⟨_, hrun false g2, ev_rep ht g1 e2⟩
      · cases h
    | const _ => simp [opV, R.val] at h
    | func _ => simp [opV, R.val] at h
    | global _ => simp [opV, R.val] at h
  | load t x => rw [hop] at h; simp only [execOp, hop]; exact .of (load_gives htab ht hb hi t x v h)
  | fieldAddr t x f => rw [hop] at h; simp only [execOp, hop]; exact .of (fieldAddr_gives htab ht hi t x f v h)
  | field t x f => rw [hop] at h; simp only [execOp, hop]; exact .of (field_gives htab ht hi t x f v h)
  | indexAddr t x i => rw [hop] at h; simp only [execOp, hop]; exact .of (indexAddr_gives htab ht hi t x i v h)
  | index t x i => rw [hop] at h; simp only [execOp, hop]; exact .of (index_gives htab ht hi t x i v h)
  | slice t x lo hi' mx =>
    rw [hop] at h
    cases mx with
    | none => simp only [execOp, hop, Option.map_none]; exact .of (slice_gives htab ht hi t x lo hi' v h)
    | some m => simp [opV, R.val] at h
  | binOp op t x y yt => rw [hop] at h; simp only [execOp, hop]; exact .of (binOp_gives htab ht hi op t x y yt v h)
  | unOp op t x =>
    rw [hop] at h
    simp only [execOp, hop]
    simp only [opV] at h
    split at h
    · rename_i u hu
      have hr : a.eval x = u := ev_rep ht hi hu
      rw [hr]
      exact .of (unV_gives op u v h)
    · cases h
  | convert src dst x =>
    rw [hop] at h
    simp only [execOp, hop]
    simp only [opV] at h
    split at h
    · rename_i k1 k k2 n h1 h2 hx
      cases h
      have hs := (tiB_ok (htab _ _ h1)).int _ rfl
      have hd := (tiB_ok (htab _ _ h2)).int _ rfl
      have hr : a.eval x = .int k2 n := ev_rep ht hi hx
      rw [hr]
      refine .of ⟨.int k (k.wrap n), fun w' _ => ?_, rfl⟩
      simp only [convert, Sem.run_bind, run_underlying hs, run_underlying hd, Result.andThen_ok]
      rfl
    · rename_i b h1 h2 hx
      cases h
      have hs := (tiB_ok (htab _ _ h1)).str rfl
      have hd := (tiB_ok (htab _ _ h2)).str rfl
      have hr : a.eval x = .string b := ev_rep ht hi hx
      rw [hr]
      refine .of ⟨.string b, fun w' _ => ?_, rfl⟩
      simp only [convert, Sem.run_bind, run_underlying hs, run_underlying hd, Result.andThen_ok]
      rfl
    · cases h
  | extract x i => rw [hop] at h; simp only [execOp, hop]; exact .of (extract_gives (tis := tis) ht hi x i v h)
  | build t ps => rw [hop] at h; simp only [execOp, hop]; exact .of (build_gives htab ht hi t ps v h)
  | makeFunc fn fs cs =>
    rw [hop] at h
    cases fn with
    | func f =>
      simp only [opV] at h
      split at h
      · rename_i h1 h2
        cases h
        have e1 : fs = #[] := Array.ext' h1
        have e2 : cs = #[] := Array.ext' h2
        subst e1; subst e2
        simp only [execOp, hop]
        exact .of ⟨.func (.func f) #[] #[], fun w' _ => by simp [Instr.makeFunc], [], rfl, rfl⟩
      · cases h
    | method n => simp [opV, R.val] at h
    | methodOf t n => simp [opV, R.val] at h
    | via t p f q => simp [opV, R.val] at h
    | yield l => simp [opV, R.val] at h
  | call c =>
    rw [hop] at h
    obtain ⟨callee, as, ts⟩ := c
    cases callee with
    | value f => simp [opV, R.val] at h
    | invoke r m => simp [opV, R.val] at h
    | builtin b =>
      have hexec : ∀ sm, builtin b ts o.type (as.map fun | .const _ => true | _ => false) (as.map a.eval) = sm → ∀ w' : World, (execOp a.eval o).run P w' = sm.run P w' := by
        intro sm hsm w'
        simp only [execOp, hop, resolve, pure_bind, invoke]
        exact congrArg (fun z => Sem.run P z w') hsm
      cases b with
      | len =>
        obtain ⟨x, h1, h2⟩ := len_gives htab ht hi as ts o.type v h
        exact ⟨x, fun w' hb => by rw [hexec _ rfl]; simp only [builtin, Sem.run_bind, h1 w' hb, Result.andThen_ok, Sem.run_pure], h2⟩
      | max =>
        simp only [opV] at h
        split at h
        · rename_i v' vs hvs
          split at h
          · rename_i u hu
            cases h
            have hl := valsOf_rep ht hi hvs
            refine ⟨u, fun w' _ => ?_, rfl⟩
            rw [hexec _ rfl]
            simp only [builtin, Builtin.max_, Array.toList_map, hl, Sem.run_bind]
            rw [foldV_run maxV Builtin.max2 (fun a b c h w => maxV_run a b c h w) vs v' u hu]
            rfl
          · cases h
        · cases h
      | min =>
        simp only [opV] at h
        split at h
        · rename_i v' vs hvs
          split at h
          · rename_i u hu
            cases h
            have hl := valsOf_rep ht hi hvs
            refine ⟨u, fun w' _ => ?_, rfl⟩
            rw [hexec _ rfl]
            simp only [builtin, Builtin.min_, Array.toList_map, hl, Sem.run_bind]
            rw [foldV_run minV Builtin.min2 (fun a b c h w => minV_run a b c h w) vs v' u hu]
            rfl
          · cases h
        · cases h
      | _ => simp [opV, R.val] at h
  | _ => rw [hop] at h; simp [opV, R.val] at h

end
end Go.PM
