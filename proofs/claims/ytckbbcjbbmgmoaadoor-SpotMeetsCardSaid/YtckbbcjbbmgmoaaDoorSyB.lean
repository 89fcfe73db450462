/- The symbolic executor: what an abstract value says of a value, a state of a frame and a world. -/
import Derived.Test.YtckbbcjbbmgmoaaDoorSyA
import Derived.Laws.CopyRow
import Derived.Laws.AppendOwn
import Derived.Laws.OwnMore
import Derived.Laws.StructEq
import Derived.MapKept
namespace Go.Proofs.YtckbbcjbbmgmoaaDoor
namespace Sy
open Go Go.RowKit
set_option linter.unusedSimpArgs false
set_option linter.unusedVariables false

/-- Where a block of the call's own lies: its number, its cells, its elements. -/
abbrev Mu := Nat → Option (Option (Nat × Nat × Nat))
abbrev noMu : Mu := fun _ => none
def hcell (h : Array Obj) (b o : Nat) : Option Value := match h[b]? with
  | some (.cells c _ _) => c[o]?
  | _ => none
theorem cell_h (w : World) (b o : Nat) : w.cell? ⟨b, o, none⟩ = hcell w.heap b o := by
  unfold World.cell? hcell
  cases h : w.heap[b]? with
  | none => rfl
  | some x => cases x <;> rfl
theorem hcell_eq {h h' : Array Obj} {b : Nat} (e : h'[b]? = h[b]?) (o : Nat) : hcell h' b o = hcell h b o := by unfold hcell; rw [e]
theorem hcell_of {h : Array Obj} {b : Nat} {c : Array Value} {t : TypeId} {fr : Nat × Nat} (e : h[b]? = some (.cells c t fr)) (o : Nat) : hcell h b o = c[o]? := by unfold hcell; rw [e]
abbrev one (v : Value) : Prop := v.oneCell' = true

/-- A key of a map, of a kind. -/
def KyIs (kk : KK) (v : Value) (k : Ky) : Prop := match kk with
  | .i ik => ∃ n, v = .int ik n ∧ k = .i n
  | .s => ∃ s : ByteArray, v = .string s ∧ k = .s s.data.toList
  | .a ks => ∃ l : List Int, l.length = ks.length ∧ v = .agg ((ks.zip l).map fun x => Value.int x.1 x.2).toArray ∧ k = .a l
  | .no => False
/-- A map's entries: each has a key, no two have the same. -/
structure KeysOk (kk : KK) (has : Ky → Bool) (es : Array MapEntry) (clock : Nat) (kf : Nat → Ky) : Prop where
  key : ∀ (i : Nat) e, es[i]? = some e → KyIs kk e.key (kf i) ∧ has (kf i) = true
  all : ∀ k, has k = true → ∃ i, i < es.size ∧ kf i = k
  st : MapKept.Stamped es clock

inductive R (h : Array Obj) (D : Nat → Prop) : Mu → AV → Value → Prop
  | dead {μ : Mu} (v : Value) : R h D μ .dead v
  | bool {μ : Mu} (b : Bool) : R h D μ (.bool b) (.bool b)
  | int {μ : Mu} (k : IntKind) (n : Int) : R h D μ (.int k n) (.int k n)
  | str {μ : Mu} (l : List UInt8) (s : ByteArray) (e : s.data.toList = l) : R h D μ (.str l) (.string s)
  | nilp {μ : Mu} : R h D μ .nilp (.pointer none)
  | nilm {μ : Mu} : R h D μ .nilm (.map none)
  | nilf {μ : Mu} : R h D μ .nilf .nilFunc
  | nils {μ : Mu} : R h D μ .nils (.slice none 0 0)
  | nili {μ : Mu} : R h D μ .nili .nilIface
  | ifn {μ : Mu} : R h D μ (.ifb true) .nilIface
  | ifs {μ : Mu} (t : TypeId) (p : Value) : R h D μ (.ifb false) (.iface t p)
  | emp {μ : Mu} (a : Addr) (cap : Nat) : R h D μ .emp (.slice (some a) 0 cap)
  | emz {μ : Mu} (a : Addr) : R h D μ .emz (.slice (some a) 0 0)
  | lst0 {μ : Mu} (sz : Nat) (get : Nat → Nat → AV) (a : Option Addr) (cap : Nat) (hn : a = none → cap = 0) : R h D μ (.lst sz 0 get) (.slice a 0 cap)
  | lst {μ : Mu} (sz n : Nat) (get : Nat → Nat → AV) (b o cap : Nat) (vs : Nat → Nat → Value) (hD : D b) (hc : n ≤ cap)
      (hv : ∀ i j, i < n → j < sz → hcell h b (o + i * sz + j) = some (vs i j)) (h1 : ∀ i j, i < n → j < sz → one (vs i j))
      (hr : ∀ i j, i < n → j < sz → R h D noMu (get i j) (vs i j)) : R h D μ (.lst sz n get) (.slice (some ⟨b, o, none⟩) n cap)
  | iptr {μ : Mu} (n : Nat) (get : Nat → AV) (b o : Nat) (vs : Nat → Value) (hD : D b) (hv : ∀ j, j < n → hcell h b (o + j) = some (vs j))
      (h1 : ∀ j, j < n → one (vs j)) (hr : ∀ j, j < n → R h D noMu (get j) (vs j)) : R h D μ (.iptr n get) (.pointer (some ⟨b, o, none⟩))
  | ref {μ : Mu} (id off b z m : Nat) (hm : μ id = some (some (b, z, m))) : R h D μ (.ref id off) (.pointer (some ⟨b, off, none⟩))
  | eref {μ : Mu} (id sz i off b z m : Nat) (hm : μ id = some (some (b, z, m))) (hi : i < m) : R h D μ (.eref id sz i off) (.pointer (some ⟨b, i * sz + off, none⟩))
  | slv {μ : Mu} (id sz : Nat) (a : Option Addr) (hm : μ id = some none) : R h D μ (.sl id sz 0 0) (.slice a 0 0)
  | sl0 {μ : Mu} (id sz off b z m o : Nat) (hm : μ id = some (some (b, z, m))) (ho : off ≤ m) : R h D μ (.sl id sz off 0) (.slice (some ⟨b, o, none⟩) 0 0)
  | sl {μ : Mu} (id sz off n b z m cap : Nat) (hm : μ id = some (some (b, z, m))) (hn : n ≤ cap) (hz : (off + cap) * sz ≤ z) (ho : off + n ≤ m) : R h D μ (.sl id sz off n) (.slice (some ⟨b, off * sz, none⟩) n cap)
  | fn {μ : Mu} (f : FuncId) (xs ys : List AV) (vs us : Array Value) (e1 : xs.length = vs.size) (e2 : ys.length = us.size)
      (h1 : ∀ (i : Nat) x v, xs[i]? = some x → vs[i]? = some v → R h D μ x v) (h2 : ∀ (i : Nat) x v, ys[i]? = some x → us[i]? = some v → R h D μ x v) : R h D μ (.fn f xs ys) (.func (.func f) vs us)
  | agg {μ : Mu} (cs : List AV) (vs : Array Value) (e : cs.length = vs.size) (h1 : ∀ (i : Nat) v, vs[i]? = some v → one v)
      (hr : ∀ (i : Nat) x v, cs[i]? = some x → vs[i]? = some v → R h D μ x v) : R h D μ (.agg cs) (.agg vs)
  | arr {μ : Mu} (n : Nat) (get : Nat → AV) (vs : Array Value) (e : n = vs.size) (h1 : ∀ (i : Nat) v, vs[i]? = some v → one v)
      (hr : ∀ (i : Nat) v, vs[i]? = some v → R h D noMu (get i) v) : R h D μ (.arr n get) (.agg vs)
  | tup {μ : Mu} (cs : List AV) (vs : Array Value) (e : cs.length = vs.size) (hr : ∀ (i : Nat) x v, cs[i]? = some x → vs[i]? = some v → R h D μ x v) : R h D μ (.tup cs) (.tuple vs)
  | bidx {μ : Mu} (id off n i b z m : Nat) (hm : μ id = some (some (b, z, m))) (hi : i < n) : R h D μ (.bidx id off n i) (.pointer (some ⟨b, off + i, none⟩))
  | mp {μ : Mu} (id b z m : Nat) (hm : μ id = some (some (b, z, m))) : R h D μ (.mp id) (.map (some b))
  | mpi {μ : Mu} (kk : KK) (n : Nat) (has : Ky → Bool) (val : Ky → AV) (b : Nat) (es : Array MapEntry) (clock : Nat) (kf : Nat → Ky) (hD : D b)
      (hb : h[b]? = some (.map es clock)) (hn : es.size = n) (hk : KeysOk kk has es clock kf)
      (hr : ∀ (i : Nat) e, es[i]? = some e → R h D noMu (val (kf i)) e.val) : R h D μ (.mpi kk n has val) (.map (some b))

theorem R.mono' {h h' : Array Obj} {D D' : Nat → Prop} (hb : ∀ b, D b → h'[b]? = h[b]?) (hD : ∀ b, D b → D' b) {μ : Mu} {x : AV} {v : Value}
    (r : R h D μ x v) : ∀ μ' : Mu, (∀ id x, μ id = some x → μ' id = some x) → R h' D' μ' x v := by
  induction r with
  | dead v => exact fun _ _ => .dead v
  | bool b => exact fun _ _ => .bool b
  | int k n => exact fun _ _ => .int k n
  | str l s e => exact fun _ _ => .str l s e
  | nilp => exact fun _ _ => .nilp
  | nilm => exact fun _ _ => .nilm
  | nilf => exact fun _ _ => .nilf
  | nils => exact fun _ _ => .nils
  | nili => exact fun _ _ => .nili
  | ifn => exact fun _ _ => .ifn
  | ifs t p => exact fun _ _ => .ifs t p
  | emp a cap => exact fun _ _ => .emp a cap
  | emz a => exact fun _ _ => .emz a
  | lst0 sz get a cap hn => exact fun _ _ => .lst0 sz get a cap hn
  | lst sz n get b o cap vs hD0 hc hv h1 hr ih => exact fun _ _ => .lst sz n get b o cap vs (hD b hD0) hc (fun i j hi hj => by rw [hcell_eq (hb b hD0)]; exact hv i j hi hj) h1 (fun i j hi hj => ih i j hi hj noMu (fun _ _ h => h))
  | iptr n get b o vs hD0 hv h1 hr ih => exact fun _ _ => .iptr n get b o vs (hD b hD0) (fun j hj => by rw [hcell_eq (hb b hD0)]; exact hv j hj) h1 (fun j hj => ih j hj noMu (fun _ _ h => h))
  | ref id off b z m hm0 => exact fun _ hm => .ref id off b z m (hm _ _ hm0)
  | eref id sz i off b z m hm0 hi => exact fun _ hm => .eref id sz i off b z m (hm _ _ hm0) hi
  | slv id sz a hm0 => exact fun _ hm => .slv id sz a (hm _ _ hm0)
  | sl0 id sz off b z m o hm0 ho => exact fun _ hm => .sl0 id sz off b z m o (hm _ _ hm0) ho
  | sl id sz off n b z m cap hm0 hn hz ho => exact fun _ hm => .sl id sz off n b z m cap (hm _ _ hm0) hn hz ho
  | fn f xs ys vs us e1 e2 h1 h2 ih1 ih2 => exact fun μ' hm => .fn f xs ys vs us e1 e2 (fun i x v h1 h2 => ih1 i x v h1 h2 μ' hm) (fun i x v h1 h2 => ih2 i x v h1 h2 μ' hm)
  | agg cs vs e h1 hr ih => exact fun μ' hm => .agg cs vs e h1 (fun i x v h1 h2 => ih i x v h1 h2 μ' hm)
  | arr n get vs e h1 hr ih => exact fun _ _ => .arr n get vs e h1 (fun i v hv => ih i v hv noMu (fun _ _ h => h))
  | tup cs vs e hr ih => exact fun μ' hm => .tup cs vs e (fun i x v h1 h2 => ih i x v h1 h2 μ' hm)
  | bidx id off n i b z m hm0 hi => exact fun _ hm => .bidx id off n i b z m (hm _ _ hm0) hi
  | mp id b z m hm0 => exact fun _ hm => .mp id b z m (hm _ _ hm0)
  | mpi kk n has val b es clock kf hD0 hb0 hn hk hr ih => exact fun _ _ => .mpi kk n has val b es clock kf (hD b hD0) ((hb b hD0).trans hb0) hn hk (fun i e he => ih i e he noMu (fun _ _ h => h))
theorem R.mono {h h' : Array Obj} {D D' : Nat → Prop} {μ μ' : Mu} (hb : ∀ b, D b → h'[b]? = h[b]?) (hD : ∀ b, D b → D' b) (hm : ∀ id x, μ id = some x → μ' id = some x) {x : AV} {v : Value}
    (r : R h D μ x v) : R h' D' μ' x v := r.mono' hb hD μ' hm
theorem R.free {h : Array Obj} {D : Nat → Prop} {μ : Mu} {x : AV} {v : Value} (r : R h D noMu x v) : R h D μ x v := r.mono (fun _ _ => rfl) (fun _ h => h) (fun _ _ h => by cases h)

/-- The same of lists of values. -/
def RL (h : Array Obj) (D : Nat → Prop) (μ : Mu) (xs : List AV) (vs : Array Value) : Prop := xs.length = vs.size ∧ ∀ (i : Nat) x v, xs[i]? = some x → vs[i]? = some v → R h D μ x v
def ones (vs : Array Value) : Prop := ∀ (i : Nat) v, vs[i]? = some v → one v
def noFr (n : Nat) (fr : Nat × Nat) : Prop := ∀ o, o < n → ¬ (fr.1 ≤ o ∧ o < fr.2)

/-- What a block of the call's own holds. -/
def ObOk (h : Array Obj) (D : Nat → Prop) (μ : Mu) : Ob → Option (Nat × Nat × Nat) → Prop
  | .box ty cs, some (b, z, _) => ∃ c t fr, h[b]? = some (.cells c t fr) ∧ c.size = z ∧ (noFr z fr ∧ t = ty) ∧ ones c ∧ RL h D μ cs c
  | .row ty sz n get, some (b, z, m) => n = m ∧ ∃ c t fr, h[b]? = some (.cells c t fr) ∧ c.size = z ∧ (noFr z fr ∧ t = ty) ∧ n * sz ≤ z ∧
      ∀ i j, i < n → j < sz → ∃ v, c[i * sz + j]? = some v ∧ one v ∧ R h D noMu (get i j) v
  | .spr ty cs, some (b, z, _) => ∃ c t fr, h[b]? = some (.cells c t fr) ∧ c.size = z ∧ (noFr z fr ∧ t = ty) ∧ cs.length ≤ z ∧
      ∀ (i : Nat) x, cs[i]? = some x → ∃ v, c[i]? = some v ∧ one v ∧ R h D μ x v
  | .map kk n has val, some (b, _) => ∃ es clock kf, h[b]? = some (.map es clock) ∧ es.size = n ∧ KeysOk kk has es clock kf ∧ ∀ (i : Nat) e, es[i]? = some e → R h D noMu (val (kf i)) e.val
  | .map _ _ _ _, none => False
  | .row _ _ n _, none => n = 0
  | .spr _ cs, none => cs = []
  | .gone, _ => True
  | .box _ _, none => False

/-- Of the blocks that were there: which the call may write, which it may look at. -/
structure Two where
  wr : Nat → Prop
  imm : Nat → Prop
  pin : Nat → Option (Nat × Nat × Nat)      -- where the blocks lie that the call was given by name
/-- What the variables hold, which nothing turns. -/
def GIn (base : Nat) (M : Two) (W : World) : Prop := GOk W ∧ gN ≤ base ∧ ∀ b, M.wr b → gN ≤ b
structure Sim (base : Nat) (M : Two) (W : World) (nt : Nat) (f : Nat → Option AV) (g : Nat → Option Ob) (c : Nat → Bool) (a : Act) (w : World) (D : Nat → Prop) (μ : Mu) : Prop where
  os : w.os = W.os
  tape : w.tape = W.tape
  output : w.output = W.output
  size : W.heap.size ≤ w.heap.size
  bs : base ≤ w.heap.size
  old : ∀ b, b < base → ¬ M.wr b → w.heap[b]? = W.heap[b]?
  defers : a.defers = []
  tmps : a.tmps.size = nt
  slots : ∀ t v, f t = some v → R w.heap D μ v (a.tmps.getD t undef)
  dlt : ∀ b, D b → b < w.heap.size
  low : ∀ b, D b → b < base → M.imm b ∨ M.wr b
  dom : ∀ id, μ id = none ↔ g id = none
  obs : ∀ id o x, g id = some o → μ id = some x → ObOk w.heap D μ o x
  inj : ∀ id id' b z z' o o', μ id = some (some (b, z)) → μ id' = some (some (b, z')) → g id = some o → g id' = some o' → o ≠ .gone → o' ≠ .gone → id = id'
  own : ∀ id b z, μ id = some (some (b, z)) → b < w.heap.size ∧ (base ≤ b ∨ M.wr b)
  kd : ∀ id b z o, μ id = some (some (b, z)) → g id = some o → o ≠ .gone → (c id = true → D b) ∧ (c id = false → ¬ D b)
  icy : ∀ id, c id = true → g id ≠ none
  ntb : nt ≤ 500000
  pin : ∀ id y, isPin id = true → μ id = some y → y = M.pin id
  gl : GIn base M W

def fput (f : Nat → Option AV) (dst : Option Nat) (v : AV) : Nat → Option AV := match dst with
  | some d => fun t => if t = d then some v else f t
  | none => f
def gput (g : Nat → Option Ob) (os : List (Nat × Ob)) : Nat → Option Ob := fun id => match aget os id with
  | some o => some o
  | none => g id
def cput (c : Nat → Bool) (ice : List Nat) : Nat → Bool := fun id => lhas ice id || c id
theorem beq_no {a b : Nat} (h : a ≠ b) : nbeq a b = false := by simp [nbeq, h]
theorem beq_same (a : Nat) : nbeq a a = true := by simp [nbeq]
theorem beq_eq {a b : Nat} (h : nbeq a b = true) : a = b := of_decide_eq_true h
theorem nblt_eq {a b : Nat} : (nblt a b = true) = (a < b) := by simp [nblt]
theorem nble_eq {a b : Nat} : (nble a b = true) = (a ≤ b) := by simp [nble]
theorem gput_nil (g : Nat → Option Ob) : gput g [] = g := rfl
theorem cput_nil (c : Nat → Bool) : cput c [] = c := by funext id; rfl

section
variable {base : Nat} {M : Two} {W : World} {nt : Nat} {f : Nat → Option AV} {g : Nat → Option Ob} {c : Nat → Bool} {a : Act} {w : World} {D : Nat → Prop} {μ : Mu}

theorem Sim.gok (h : Sim base M W nt f g c a w D μ) : GOk w := GOk_same h.gl.1 h.size fun b hb => h.old b (Nat.lt_of_lt_of_le hb h.gl.2.1) fun hw => absurd hb (Nat.not_lt_of_le (h.gl.2.2 b hw))
theorem Sim.gown (h : Sim base M W nt f g c a w D μ) {id b : Nat} {z : Nat × Nat} (hm : μ id = some (some (b, z))) : gN ≤ b := by
  rcases (h.own id b z hm).2 with h1 | h1
  · exact Nat.le_trans h.gl.2.1 h1
  · exact h.gl.2.2 b h1
theorem getD_put (a : Act) (d : Tmp) (v : Value) (t : Tmp) (hd : d < a.tmps.size) : (a.put (some d) v).tmps.getD t undef = if t = d then v else a.tmps.getD t undef := by
  simp only [Act.put, Array.getD_eq_getD_getElem?, Array.getElem?_setIfInBounds]
  by_cases h : d = t
  · subst h; simp [hd]
  · rw [if_neg h, if_neg (fun e => h e.symm)]

theorem Sim.put (h : Sim base M W nt f g c a w D μ) {dst : Option Nat} (hd : ∀ d, dst = some d → d < nt) {v : AV} {u : Value} (r : R w.heap D μ v u) :
    Sim base M W nt (fput f dst v) g c (a.put dst u) w D μ := by
  cases dst with
  | none => exact h
  | some d =>
    refine { h with defers := h.defers, tmps := by simpa [Act.put] using h.tmps, slots := fun t x hx => ?_ }
    have hlt : d < a.tmps.size := by rw [h.tmps]; exact hd d rfl
    rw [getD_put _ _ _ _ hlt]
    simp only [fput] at hx
    split at hx
    · rename_i e; subst e; rw [if_pos rfl]; cases hx; exact r
    · rename_i e; rw [if_neg e]; exact h.slots t x hx

theorem ObOk.mono {h h' : Array Obj} {D D' : Nat → Prop} {μ μ' : Mu} (hb : ∀ b, D b → h'[b]? = h[b]?) (hD : ∀ b, D b → D' b) (hm : ∀ id x, μ id = some x → μ' id = some x) {o : Ob} {x : Option (Nat × Nat × Nat)}
    (hx : ∀ b z, x = some (b, z) → o ≠ .gone → h'[b]? = h[b]?) (r : ObOk h D μ o x) : ObOk h' D' μ' o x := by
  match o, x, r with
  | .box ty cs, some (b, z, m), ⟨c, t, fr, e, r1, r2, r3, r4, r5⟩ => exact ⟨c, t, fr, (hx b _ rfl (by simp)).trans e, r1, r2, r3, r4, fun i x v h1 h2 => (r5 i x v h1 h2).mono hb hD hm⟩
  | .row ty sz n get, some (b, z, m), ⟨r0, c, t, fr, e, r1, r2, r3, r4⟩ => exact ⟨r0, c, t, fr, (hx b _ rfl (by simp)).trans e, r1, r2, r3, fun i j hi hj => by
      obtain ⟨v, h1, h2, h3⟩ := r4 i j hi hj
      exact ⟨v, h1, h2, h3.mono hb hD (fun _ _ h => by cases h)⟩⟩
  | .spr ty cs, some (b, z, m), ⟨c, t, fr, e, r1, r2, r3, r4⟩ => exact ⟨c, t, fr, (hx b _ rfl (by simp)).trans e, r1, r2, r3, fun i x hi => by
      obtain ⟨v, h1, h2, h3⟩ := r4 i x hi
      exact ⟨v, h1, h2, h3.mono hb hD hm⟩⟩
  | .map kk n has val, some (b, z), ⟨es, clock, kf, e, r1, r2, r3⟩ => exact ⟨es, clock, kf, (hx b _ rfl (by simp)).trans e, r1, r2, fun i x hi => (r3 i x hi).mono hb hD (fun _ _ h => by cases h)⟩
  | .row _ _ n _, none, r => exact r
  | .spr _ _, none, r => exact r
  | .gone, _, _ => exact trivial

/-- The world goes on: no block of what is known turns. -/
theorem Sim.world (h : Sim base M W nt f g c a w D μ) {w' : World} (hos : w'.os = w.os) (htape : w'.tape = w.tape) (hout : w'.output = w.output) (hsz : w.heap.size ≤ w'.heap.size)
    (hb : ∀ b, b < w.heap.size → w'.heap[b]? = w.heap[b]?) {D' : Nat → Prop} (hD : ∀ b, D b → D' b) (hD' : ∀ b, D' b → D b ∨ (w.heap.size ≤ b ∧ b < w'.heap.size)) :
    Sim base M W nt f g c a w' D' μ where
  os := hos.trans h.os
  tape := htape.trans h.tape
  output := hout.trans h.output
  size := Nat.le_trans h.size hsz
  bs := Nat.le_trans h.bs hsz
  old := fun b h1 h2 => (hb b (by have := h.bs; omega)).trans (h.old b h1 h2)
  defers := h.defers
  tmps := h.tmps
  slots := fun t v hv => (h.slots t v hv).mono (fun b hb' => hb b (h.dlt b hb')) hD (fun _ _ h => h)
  dlt := fun b hb' => by
    rcases hD' b hb' with h1 | h1
    · exact Nat.lt_of_lt_of_le (h.dlt b h1) hsz
    · exact h1.2
  low := fun b hb' hlt => by
    rcases hD' b hb' with h1 | h1
    · exact h.low b h1 hlt
    · have := h.bs; omega
  dom := h.dom
  obs := fun id o x h1 h2 => (h.obs id o x h1 h2).mono (fun b hb' => hb b (h.dlt b hb')) hD (fun _ _ h => h) (fun b z e hne => hb b (h.own id b z (by rw [h2, e])).1)
  inj := h.inj
  own := fun id b z hm => ⟨Nat.lt_of_lt_of_le (h.own id b z hm).1 hsz, (h.own id b z hm).2⟩
  icy := h.icy
  ntb := h.ntb
  pin := h.pin
  gl := h.gl
  kd := fun id b z o hm ho hne => ⟨fun hc => hD b ((h.kd id b z o hm ho hne).1 hc), fun hc hd => by
    rcases hD' b hd with h1 | h1
    · exact (h.kd id b z o hm ho hne).2 hc h1
    · have := (h.own id b z hm).1; omega⟩

theorem Sim.drew (h : Sim base M W nt f g c a w D μ) : Sim base M W nt f g c a w.drew D μ :=
  h.world (w' := w.drew) rfl rfl rfl (Nat.le_refl _) (fun _ _ => rfl) (fun _ h => h) (fun _ h => .inl h)

theorem noPin {d nt : Nat} (h : d < nt) (hn : nt ≤ 500000) : isPin d = false := by
  unfold isPin
  split
  · rename_i h2; have := of_decide_eq_true h2; omega
  · rfl
/-- A new block of the call's own. -/
theorem Sim.newO (h : Sim base M W nt f g c a w D μ) {d : Nat} (hlt : d < nt) (hd : g d = none) (o : Ob) (X : Obj) (z m : Nat) (hne : o ≠ .gone)
    (hok : ObOk (w.alloc X).heap D μ o (some (w.heap.size, z, m))) :
    Sim base M W nt f (gput g [(d, o)]) c a (w.alloc X) D (fun id => if id = d then some (some (w.heap.size, z, m)) else μ id) := by
  have hmd : μ d = none := (h.dom d).2 hd
  have hc : c d = false := by
    cases e : c d with
    | false => rfl
    | true => exact absurd hd (h.icy d e)
  have hmm : ∀ id x, μ id = some x → (if id = d then some (some (w.heap.size, z, m)) else μ id) = some x := by
    intro id x hx
    have : id ≠ d := by rintro rfl; rw [hmd] at hx; cases hx
    rw [if_neg this, hx]
  have hg : ∀ id, gput g [(d, o)] id = if id = d then some o else g id := by
    intro id
    by_cases e : id = d
    · subst e; simp [gput, aget, beq_same]
    · have : nbeq d id = false := beq_no fun h => e h.symm
      simp [gput, aget, this, e]
  have h' := h.world (w' := w.alloc X) rfl rfl rfl (by simp) (fun b hb => Below.heap_alloc _ _ _ hb) (D' := D) (fun _ h => h) (fun _ h => .inl h)
  refine { h' with slots := fun t v hv => (h'.slots t v hv).mono (fun _ _ => rfl) (fun _ h => h) hmm, dom := fun id => ?_, obs := fun id o' x h1 h2 => ?_, inj := ?_, own := ?_, kd := ?_, icy := ?_, pin := fun id y hp hy => ?_ }
  rotate_right
  · by_cases e : id = d
    · rw [e, noPin hlt h.ntb] at hp; cases hp
    · rw [if_neg e] at hy; exact h.pin id y hp hy
  · rw [hg]
    by_cases e : id = d
    · simp [e]
    · simp only [if_neg e]; exact h.dom id
  · rw [hg] at h1
    by_cases e : id = d
    · rw [if_pos e] at h1 h2; cases h1; cases h2
      exact hok.mono (fun _ _ => rfl) (fun _ h => h) hmm (fun _ _ _ _ => rfl)
    · rw [if_neg e] at h1 h2
      exact (h'.obs id o' x h1 h2).mono (fun _ _ => rfl) (fun _ h => h) hmm (fun _ _ _ _ => rfl)
  · intro id id' b z z' o1 o2 h1 h2 h3 h4 h5 h6
    rw [hg] at h3 h4
    by_cases e : id = d <;> by_cases e' : id' = d
    · rw [e, e']
    · rw [if_pos e] at h1; rw [if_neg e'] at h2
      cases h1
      have := (h.own id' _ _ h2).1
      omega
    · rw [if_neg e] at h1; rw [if_pos e'] at h2
      cases h2
      have := (h.own id _ _ h1).1
      omega
    · rw [if_neg e] at h1 h3; rw [if_neg e'] at h2 h4
      exact h.inj id id' b z z' o1 o2 h1 h2 h3 h4 h5 h6
  · intro id b z h1
    by_cases e : id = d
    · rw [if_pos e] at h1; cases h1
      exact ⟨by simp, .inl h.bs⟩
    · rw [if_neg e] at h1; exact h'.own id b z h1
  · intro id b z o' h1 h2 h3
    rw [hg] at h2
    by_cases e : id = d
    · rw [if_pos e] at h1; cases h1
      subst e
      refine ⟨fun hx => (by rw [hc] at hx; cases hx), fun _ hD => ?_⟩
      have := h.dlt _ hD
      omega
    · rw [if_neg e] at h1 h2; exact h'.kd id b z o' h1 h2 h3
  · intro id h1
    rw [hg]
    by_cases e : id = d
    · rw [if_pos e]; simp
    · rw [if_neg e]; exact h.icy id h1
theorem Sim.new (h : Sim base M W nt f g c a w D μ) {d : Nat} {fr : Nat × Nat} (hlt : d < nt) (hd : g d = none) (o : Ob) (cs : Array Value) (t : TypeId) (m : Nat) (hne : o ≠ .gone)
    (hok : ObOk (w.alloc (.cells cs t fr)).heap D μ o (some (w.heap.size, cs.size, m))) :
    Sim base M W nt f (gput g [(d, o)]) c a (w.alloc (.cells cs t fr)) D (fun id => if id = d then some (some (w.heap.size, cs.size, m)) else μ id) :=
  h.newO hlt hd o (.cells cs t fr) cs.size m hne hok

theorem lhas_mem : ∀ {l : List Nat} {n : Nat}, lhas l n = true ↔ n ∈ l
  | [], n => by simp [lhas]
  | x :: xs, n => by
    unfold lhas
    cases e : nbeq x n with
    | true => simp [beq_eq e]
    | false =>
      have : x ≠ n := by rintro rfl; rw [beq_same] at e; cases e
      simp [lhas_mem (l := xs)]
      exact fun h => absurd h.symm this
theorem Sim.freeze (h : Sim base M W nt f g c a w D μ) (ids : List Nat) (hids : ∀ id, id ∈ ids → ∃ o, g id = some o ∧ o ≠ .gone) :
    Sim base M W nt f g (cput c ids) a w (fun b => D b ∨ ∃ id z m, id ∈ ids ∧ μ id = some (some (b, z, m))) μ := by
  have hD : ∀ b, D b → (D b ∨ ∃ id z m, id ∈ ids ∧ μ id = some (some (b, z, m))) := fun b h => .inl h
  refine { h with slots := fun t v hv => (h.slots t v hv).mono (fun _ _ => rfl) hD (fun _ _ h => h), dlt := ?_, low := ?_, obs := fun id o x h1 h2 => (h.obs id o x h1 h2).mono (fun _ _ => rfl) hD (fun _ _ h => h) (fun _ _ _ _ => rfl), kd := ?_, icy := ?_ }
  · rintro b (hb | ⟨id, z, m, _, hm⟩)
    · exact h.dlt b hb
    · exact (h.own id b _ hm).1
  · rintro b (hb | ⟨id, z, m, _, hm⟩) hlt
    · exact h.low b hb hlt
    · rcases (h.own id b _ hm).2 with h1 | h1
      · omega
      · exact .inr h1
  · intro id b z o h1 h2 h3
    refine ⟨fun hc => ?_, fun hc => ?_⟩
    · simp only [cput, Bool.or_eq_true] at hc
      rcases hc with hc | hc
      · exact .inr ⟨id, z.1, z.2, lhas_mem.1 hc, h1⟩
      · exact .inl ((h.kd id b z o h1 h2 h3).1 hc)
    · simp only [cput, Bool.or_eq_false_iff] at hc
      rintro (hb | ⟨id', z', m', hi, hm⟩)
      · exact (h.kd id b z o h1 h2 h3).2 hc.2 hb
      · obtain ⟨o', ho', hne'⟩ := hids id' hi
        have := h.inj id id' b z (z', m') o o' h1 hm h2 ho' h3 hne'
        subst this
        have := lhas_mem.2 hi
        rw [hc.1] at this
        cases this
  · intro id hc
    simp only [cput, Bool.or_eq_true] at hc
    rcases hc with hc | hc
    · obtain ⟨o, ho, _⟩ := hids id (lhas_mem.1 hc)
      rw [ho]; simp
    · exact h.icy id hc
end

end Sy
end Go.Proofs.YtckbbcjbbmgmoaaDoor
