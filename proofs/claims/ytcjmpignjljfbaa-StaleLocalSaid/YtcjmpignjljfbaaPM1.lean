/- The pure machine, part 1: types of data, data as trees, cells, and what it means that a real value stands for them. -/
import Derived.Below
import Derived.Deep.Draws
import Derived.KernelRfl
namespace Go.PM

/-! ### Types of data -/
inductive Ex where
  | mk (kind : Int) (s : ByteArray) (vk vn : Int) (vs : ByteArray) (args : List Ex)

mutual
inductive Ty where
  | bool
  | int (k : IntKind)
  | str
  | sl (r : Row)
inductive Row where
  | nil
  | cons (t : Ty) (r : Row)
  | expr
end

mutual
@[reducible] def Den : Ty → Type
  | .bool => Bool
  | .int _ => Int
  | .str => ByteArray
  | .sl r => List (DenR r)
@[reducible] def DenR : Row → Type
  | .nil => Unit
  | .cons t .nil => Den t
  | .cons t (.cons u r) => Den t × DenR (.cons u r)
  | .cons t .expr => Den t × Ex
  | .expr => Ex
end

def zeroT : (t : Ty) → Den t
  | .bool => false
  | .int _ => (0 : Int)
  | .str => (⟨#[]⟩ : ByteArray)
  | .sl r => ([] : List (DenR r))

def zeroEx : Ex := .mk 0 ⟨#[]⟩ 0 0 ⟨#[]⟩ []

def zeroR : (r : Row) → DenR r
  | .nil => ()
  | .cons t .nil => zeroT t
  | .cons t (.cons u r) => (zeroT t, zeroR (.cons u r))
  | .cons t .expr => (zeroT t, zeroEx)
  | .expr => zeroEx

def sz : Row → Nat
  | .nil => 0
  | .cons _ r => sz r + 1
  | .expr => 6

/-! ### Data as trees -/
inductive D where
  | v (x : Value)
  | sl (n s : Nat) (f : Nat → Nat → D)

def dNo : D := .v undef

mutual
def exD : Ex → List D
  | .mk k s vk vn vs args => [.v (.int .i64 k), .v (.string s), .v (.int .i64 vk), .v (.int .i64 vn), .v (.string vs), .sl args.length 6 (fun i j => ((exDs args).getD i []).getD j dNo)]
def exDs : List Ex → List (List D)
  | [] => []
  | e :: l => exD e :: exDs l
end

mutual
def toD : (t : Ty) → Den t → D
  | .bool, b => .v (.bool b)
  | .int k, n => .v (.int k n)
  | .str, s => .v (.string s)
  | .sl r, l => .sl l.length (sz r) (fun i j => ((l.map (toDs r)).getD i []).getD j dNo)
def toDs : (r : Row) → DenR r → List D
  | .nil, _ => []
  | .cons t .nil, x => [toD t x]
  | .cons t (.cons u r), x => toD t x.1 :: toDs (.cons u r) x.2
  | .cons t .expr, x => toD t x.1 :: exD x.2
  | .expr, e => exD e
end

theorem exD_length (e : Ex) : (exD e).length = 6 := by cases e; simp [exD]

theorem toDs_length : ∀ (r : Row) (x : DenR r), (toDs r x).length = sz r
  | .nil, _ => by simp [toDs, sz]
  | .cons t .nil, x => by simp [toDs, sz]
  | .cons t (.cons u r), x => by
    have := toDs_length (.cons u r) x.2
    simp only [toDs, List.length_cons, this, sz]
  | .cons t .expr, x => by simp only [toDs, List.length_cons, exD_length, sz]
  | .expr, e => by simp only [toDs, exD_length, sz]

/-- A value stands for a tree: what is in slices lies in cells of which 'ok' says that they stay. -/
def RepD (w : World) (ok : Nat → Nat → Prop) : D → Value → Prop
  | .v x, v => v = x
  | .sl n s f, v => ∃ (a : Option Addr) (cap : Nat), v = .slice a n cap ∧ n ≤ cap ∧
      ∀ i j, i < n → j < s → ∃ ad u, a = some ad ∧ ok ad.block (ad.off + (i * s + j)) ∧ w.cell? (ad.add (i * s + j)) = some u ∧ RepD w ok (f i j) u

/-- What stays: the cells of which 'ok' tells are in 'w'' as in 'w', and 'ok'' tells of them. -/
def Stays (w : World) (ok : Nat → Nat → Prop) (w' : World) (ok' : Nat → Nat → Prop) : Prop :=
  ∀ b o, ok b o → b < w.heap.size → ok' b o ∧ ∀ a : Addr, a.block = b → a.off = o → w'.cell? a = w.cell? a

theorem add_block (a : Addr) (n : Nat) : (a.add n).block = a.block := by unfold Addr.add; split <;> rfl
theorem add_off (a : Addr) (n : Nat) : (a.add n).off = a.off + n := by unfold Addr.add; split <;> simp_all
theorem add_add (a : Addr) (m n : Nat) : (a.add m).add n = a.add (m + n) := by
  unfold Addr.add
  by_cases hm : m = 0 <;> by_cases hn : n = 0 <;> simp [hm, hn]
  omega

theorem RepD.mono {w w' : World} {ok ok' : Nat → Nat → Prop} (h : Stays w ok w' ok') : ∀ {d : D} {v : Value}, RepD w ok d v → RepD w' ok' d v
  | .v _, _, hd => hd
  | .sl n s f, v, hd => by
    obtain ⟨a, cap, hv, hn, hc⟩ := hd
    refine ⟨a, cap, hv, hn, fun i j hi hj => ?_⟩
    obtain ⟨ad, u, ha, ho, hcell, hr⟩ := hc i j hi hj
    have hb : ad.block < w.heap.size := by have := World.block_lt_of_cell? w _ hcell; rwa [add_block] at this
    obtain ⟨h1, h2⟩ := h _ _ ho hb
    exact ⟨ad, u, ha, h1, (h2 _ (add_block _ _) (add_off _ _)).trans hcell, RepD.mono h hr⟩

/-! ### Cells, values of the pure machine -/
inductive Cell where
  | val (v : Value)
  | sl (r : Row) (l : List (DenR r)) (tok : Nat)
  | nil
  | box (b off : Nat)
  | elt (r : Row) (x : DenR r) (off : Nat)
  | clo (f : FuncId) (caps : List (Nat × Nat))

inductive PV where
  | one (c : Cell)
  | agg (cs : List Cell)
  | tup (vs : List (Bool × List Cell))
  | no

/-- One slice that may grow: its name, its elements' type, its value, how many elements it has, their size, its cells. -/
structure Tok where
  id : Nat
  e : TypeId
  v : Value
  n : Nat
  sz : Nat
  xs : List Value

structure Gh where
  rho : List Nat
  tk : List Tok
  nt : Nat

/-- What is fixed while a call runs: where its own blocks begin, what of the elder ones stays, the world at its begin. -/
structure Env where
  base : Nat
  ok : Nat → Nat → Prop
  w0 : World

def okG (E : Env) (G : Gh) (b o : Nat) : Prop :=
  (b < E.base → E.ok b o) ∧ b ∉ G.rho ∧ ∀ e ∈ G.tk, e.v.ownBlock = some b → o < e.n * e.sz

def RepCaps (G : Gh) : List (Nat × Nat) → List Value → Prop
  | [], us => us = []
  | c :: cs, us => ∃ blk vs, G.rho[c.1]? = some blk ∧ us = .pointer (some ⟨blk, c.2, none⟩) :: vs ∧ RepCaps G cs vs

theorem RepCaps.mono {G G' : Gh} (h : ∀ (i b : Nat), G.rho[i]? = some b → G'.rho[i]? = some b) : ∀ {cs : List (Nat × Nat)} {us : List Value}, RepCaps G cs us → RepCaps G' cs us
  | [], _, hc => hc
  | _ :: _, _, ⟨blk, vs, h1, h2, h3⟩ => ⟨blk, vs, h _ _ h1, h2, RepCaps.mono h h3⟩

def RepC (E : Env) (G : Gh) (w : World) : Cell → Value → Prop
  | .val v, x => x = v
  | .sl r l tok, x => RepD w (okG E G) (toD (.sl r) l) x ∧ tok ≤ G.nt ∧ ∀ e ∈ G.tk, e.id + 1 = tok → x = e.v ∧ e.n = l.length ∧ e.sz = sz r
  | .nil, x => x = .slice none 0 0
  | .box b off, x => ∃ blk, G.rho[b]? = some blk ∧ x = .pointer (some ⟨blk, off, none⟩)
  | .elt r y off, x => ∃ ad : Addr, x = .pointer (some (ad.add off)) ∧ ∀ j, j < sz r → okG E G ad.block (ad.off + j) ∧ ∃ u, w.cell? (ad.add j) = some u ∧ RepD w (okG E G) ((toDs r y).getD j dNo) u
  | .clo f caps, x => ∃ us : List Value, x = .func (.func f) #[] us.toArray ∧ RepCaps G caps us

def RepCs (E : Env) (G : Gh) (w : World) : List Cell → List Value → Prop
  | [], vs => vs = []
  | c :: cs, vs => ∃ u us, vs = u :: us ∧ (RepC E G w c u ∧ u.oneCell' = true) ∧ RepCs E G w cs us

def RepB (E : Env) (G : Gh) (w : World) (p : Bool × List Cell) (x : Value) : Prop :=
  match p with
  | (true, cs) => ∃ us : List Value, x = .agg us.toArray ∧ RepCs E G w cs us
  | (false, cs) => ∃ c, cs = [c] ∧ RepC E G w c x

def RepT (E : Env) (G : Gh) (w : World) : List (Bool × List Cell) → List Value → Prop
  | [], vs => vs = []
  | p :: ps, vs => ∃ u us, vs = u :: us ∧ RepB E G w p u ∧ RepT E G w ps us

def RepP (E : Env) (G : Gh) (w : World) : PV → Value → Prop
  | .one c, x => RepC E G w c x
  | .agg cs, x => ∃ us : List Value, x = .agg us.toArray ∧ RepCs E G w cs us
  | .tup ps, x => ∃ us : List Value, x = .tuple us.toArray ∧ RepT E G w ps us
  | .no, x => x = undef

/-- A step of memory: what stays, which boxes there are, which slices may grow. -/
structure Mono (E : Env) (G : Gh) (w : World) (G' : Gh) (w' : World) : Prop where
  stays : Stays w (okG E G) w' (okG E G')
  rho : ∀ (i b : Nat), G.rho[i]? = some b → G'.rho[i]? = some b
  tk : ∀ e ∈ G'.tk, e ∈ G.tk ∨ G.nt ≤ e.id
  nt : G.nt ≤ G'.nt

theorem Mono.refl (E : Env) (G : Gh) (w : World) : Mono E G w G w :=
  ⟨fun _ _ h _ => ⟨h, fun _ _ _ => rfl⟩, fun _ _ h => h, fun _ h => .inl h, Nat.le_refl _⟩

theorem RepC.mono {E : Env} {G G' : Gh} {w w' : World} (h : Mono E G w G' w') {c : Cell} {x : Value} (hc : RepC E G w c x) : RepC E G' w' c x := by
  cases c with
  | val v => exact hc
  | sl r l tok =>
    obtain ⟨h1, h2, h3⟩ := hc
    refine ⟨h1.mono h.stays, Nat.le_trans h2 h.nt, fun e he ht => ?_⟩
    rcases h.tk e he with h' | h'
    · exact h3 e h' ht
    · omega
  | nil => exact hc
  | box b off => obtain ⟨blk, h1, h2⟩ := hc; exact ⟨blk, h.rho _ _ h1, h2⟩
  | elt r y off =>
    obtain ⟨ad, h1, h2⟩ := hc
    refine ⟨ad, h1, fun j hj => ?_⟩
    obtain ⟨ho, u, hu, hr⟩ := h2 j hj
    have hb : ad.block < w.heap.size := by have := World.block_lt_of_cell? w _ hu; rwa [add_block] at this
    obtain ⟨g1, g2⟩ := h.stays _ _ ho hb
    exact ⟨g1, u, (g2 _ (add_block _ _) (add_off _ _)).trans hu, hr.mono h.stays⟩
  | clo f caps =>
    obtain ⟨us, h1, h2⟩ := hc
    exact ⟨us, h1, h2.mono h.rho⟩

theorem RepCs.mono {E : Env} {G G' : Gh} {w w' : World} (h : Mono E G w G' w') : ∀ {cs : List Cell} {us : List Value}, RepCs E G w cs us → RepCs E G' w' cs us
  | [], _, hc => hc
  | _ :: _, _, ⟨u, us, h1, h2, h3⟩ => ⟨u, us, h1, ⟨h2.1.mono h, h2.2⟩, RepCs.mono h h3⟩

theorem RepB.mono {E : Env} {G G' : Gh} {w w' : World} (h : Mono E G w G' w') {p : Bool × List Cell} {x : Value} (hc : RepB E G w p x) : RepB E G' w' p x := by
  obtain ⟨b, cs⟩ := p
  cases b with
  | true => obtain ⟨us, h1, h2⟩ := hc; exact ⟨us, h1, h2.mono h⟩
  | false => obtain ⟨c, h1, h2⟩ := hc; exact ⟨c, h1, h2.mono h⟩

theorem RepT.mono {E : Env} {G G' : Gh} {w w' : World} (h : Mono E G w G' w') : ∀ {ps : List (Bool × List Cell)} {us : List Value}, RepT E G w ps us → RepT E G' w' ps us
  | [], _, hc => hc
  | _ :: _, _, ⟨u, us, h1, h2, h3⟩ => ⟨u, us, h1, h2.mono h, RepT.mono h h3⟩

theorem RepP.mono {E : Env} {G G' : Gh} {w w' : World} (h : Mono E G w G' w') {p : PV} {x : Value} (hp : RepP E G w p x) : RepP E G' w' p x := by
  cases p with
  | one c => exact RepC.mono h hp
  | agg cs => obtain ⟨us, h1, h2⟩ := hp; exact ⟨us, h1, h2.mono h⟩
  | tup ps => obtain ⟨us, h1, h2⟩ := hp; exact ⟨us, h1, h2.mono h⟩
  | no => exact hp

theorem RepCs.length {E : Env} {G : Gh} {w : World} : ∀ {cs : List Cell} {us : List Value}, RepCs E G w cs us → us.length = cs.length
  | [], _, hc => by rw [show _ = _ from hc]; rfl
  | _ :: _, _, ⟨u, us, h1, _, h3⟩ => by rw [h1]; simp [RepCs.length h3]

theorem RepCs.get {E : Env} {G : Gh} {w : World} : ∀ {cs : List Cell} {us : List Value}, RepCs E G w cs us → ∀ (i : Nat) (c : Cell), cs[i]? = some c → ∃ u, us[i]? = some u ∧ RepC E G w c u ∧ u.oneCell' = true
  | [], _, _, i, c, h => by simp at h
  | d :: cs, _, ⟨u, us, h1, h2, h3⟩, i, c, h => by
    subst h1
    cases i with
    | zero => simp at h; subst h; exact ⟨u, by simp, h2⟩
    | succ i => simp at h; simpa using h3.get i c h

theorem RepCs.of {E : Env} {G : Gh} {w : World} : ∀ {cs : List Cell} {us : List Value}, us.length = cs.length → (∀ (i : Nat) (c : Cell), cs[i]? = some c → ∃ u, us[i]? = some u ∧ RepC E G w c u ∧ u.oneCell' = true) → RepCs E G w cs us
  | [], us, h, _ => by have h' : us = [] := by simpa using h
                       exact h'
  | d :: cs, [], h, _ => by simp at h
  | d :: cs, u :: us, h, hc => by
    refine ⟨u, us, rfl, ?_, RepCs.of (by simpa using h) fun i c hi => ?_⟩
    · obtain ⟨u', h1, h2⟩ := hc 0 d rfl; simp at h1; subst h1; exact h2
    · simpa using hc (i + 1) c (by simpa using hi)

end Go.PM
