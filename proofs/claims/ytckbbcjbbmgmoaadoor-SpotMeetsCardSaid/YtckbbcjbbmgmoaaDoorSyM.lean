/- The symbolic executor: append; calls; any operation. -/
import Derived.Test.YtckbbcjbbmgmoaaDoorSyL
namespace Go.Proofs.YtckbbcjbbmgmoaaDoor
namespace Sy
open Go Go.RowKit
set_option linter.unusedSimpArgs false
set_option linter.unusedVariables false

section
variable {P : Program}
/-- The second argument of append is no number. -/
def NoInt (P : Program) (t : Nat) : Prop := (∃ e, P.underlying t = some (.slice e)) ∨ P.underlying t = some .string
theorem run_append_new (w : World) (t t' ty e : TypeId) (i : TypeInfo) (z : Value) (ht : P.underlying t = some (.slice e)) (ht' : NoInt P t') (hi : P.info? e = some i) (hz : i.zero = some z)
    (base : Option Addr) (sLen sCap : Nat) (x : Value) (m : Nat) (olds news : List Value) (ho : ∀ w', w'.heap = w.heap → (Builtin.firstCells i.size sLen (.slice base sLen sCap)).run P w' = .ok olds.toArray w')
    (hn : ∀ w', w'.heap = w.heap → (Builtin.firstCells i.size m x).run P w' = .ok news.toArray w') (hlx : (Builtin.lenOf x).run P w = .ok m w)
    (hg : sCap < sLen + m) (h63 : sLen + m ≤ 9223372036854775807) (hfit : Builtin.nextslicecap (sLen + m) sCap * i.bytes ≤ 281474976710656) :
    (Builtin.append_ #[t, t'] ty #[.slice base sLen sCap, x]).run P w =
      .ok (.slice (some ⟨w.heap.size, 0, none⟩) (sLen + m) (grownCap w (sLen + m) sCap e)) (w.drew.alloc (.cells (olds.toArray ++ news.toArray ++ Builtin.zeroCells z.cells (grownCap w (sLen + m) sCap e - (sLen + m))) e)) := by
  have hgt : ¬ (sLen + m ≤ sCap) := by omega
  have h63' : ¬ (9223372036854775807 < ((sLen : Int) + (m : Int))) := by omega
  have h48' : ¬ (281474976710656 < Builtin.nextslicecap (sLen + m) sCap * i.bytes) := by omega
  have hf := hn w.drew rfl
  have hfo := ho w.drew rfl
  rcases ht' with ⟨e', hd'⟩ | hd' <;> simp [Builtin.append_, run_underlying ht, run_underlying hd', sizeOf, typeInfo, zeroValue, hi, hz, hlx, hgt, h63', h48', Question.forced, hf, hfo, newRow, grownCap] <;> (congr 2; apply Array.ext'; simp [List.append_assoc])
theorem run_append_in (w : World) (t t' ty e : TypeId) (i : TypeInfo) (ht : P.underlying t = some (.slice e)) (ht' : NoInt P t') (hi : P.info? e = some i)
    (base : Option Addr) (sLen sCap : Nat) (x : Value) (m : Nat) (news : List Value) (hn : ∀ w', w'.heap = w.heap → (Builtin.firstCells i.size m x).run P w' = .ok news.toArray w') (hlx : (Builtin.lenOf x).run P w = .ok m w)
    (hg : sLen + m ≤ sCap) {w' : World} (hst : ∀ ad, base = some ad → (storeCells (ad.add (sLen * i.size)) news).run P w = .ok () w') (hb : base = none → w' = w) :
    (Builtin.append_ #[t, t'] ty #[.slice base sLen sCap, x]).run P w = .ok (.slice base (sLen + m) sCap) w' := by
  have hf := hn w rfl
  cases base with
  | some ad =>
    have hs := hst ad rfl
    rcases ht' with ⟨e', hd'⟩ | hd' <;> simp [Builtin.append_, run_underlying ht, run_underlying hd', sizeOf, typeInfo, hi, hlx, hg, hf, hs]
  | none =>
    obtain rfl := hb rfl
    rcases ht' with ⟨e', hd'⟩ | hd' <;> simp [Builtin.append_, run_underlying ht, run_underlying hd', sizeOf, typeInfo, hi, hlx, hg, hf]

variable {T : TT} {base : Nat} {M : Two} {W : World} {nt : Nat} {f : Nat → Option AV} {g : Nat → Option Ob} {c : Nat → Bool} {a : Act} {w : World} {D : Nat → Prop} {μ : Mu} {o : Oper}
theorem notInt_ok (hT : TsOk P T) {t : Nat} (h : notInt T t = true) : NoInt P t := by
  unfold notInt at h
  split at h
  · rename_i i hi
    have ok := (hT t i hi).k
    split at h
    · rename_i hk; rw [hk] at ok; exact .inl ⟨_, ok.1⟩
    · rename_i hk; rw [hk] at ok; exact .inr ok
    · cases h
  · cases h
/-- The cells of a slice that are known one by one. -/
theorem cells_run (esz m b o' cap : Nat) (vs : Nat → Nat → Value) (hv : ∀ i j, i < m → j < esz → hcell w.heap b (o' + i * esz + j) = some (vs i j)) :
    ∃ news : List Value, news.length = m * esz ∧ (∀ w', w'.heap = w.heap → (Builtin.firstCells esz m (.slice (some ⟨b, o', none⟩) m cap)).run P w' = .ok news.toArray w') ∧ (∀ i j, i < m → j < esz → news[i * esz + j]? = some (vs i j)) := by
  refine ⟨(List.range (m * esz)).map (fun q => vs (q / esz) (q % esz)), by simp, fun w' hw => ?_, fun i j hi hj => ?_⟩
  · have h1 := run_loadCells (P := P) w' ⟨b, o', none⟩ (m * esz) (fun q => vs (q / esz) (q % esz)) (fun q hq => by
      have h0 : 0 < esz := by
        rcases Nat.eq_zero_or_pos esz with h0 | h0
        · rw [h0] at hq; omega
        · exact h0
      rw [add_none, cell_h, hw]
      have := hv (q / esz) (q % esz) (Nat.div_lt_of_lt_mul (by rw [Nat.mul_comm]; exact hq)) (Nat.mod_lt _ h0)
      rw [Nat.add_assoc, show q / esz * esz + q % esz = q by rw [Nat.mul_comm]; exact Nat.div_add_mod q esz] at this
      exact this)
    simp [Builtin.firstCells, h1]
  · have hq : i * esz + j < m * esz := by
      have h1 : (i + 1) * esz ≤ m * esz := Nat.mul_le_mul_right _ hi
      rw [Nat.add_mul] at h1
      omega
    have e1 : (i * esz + j) / esz = i := by
      rw [Nat.mul_comm, Nat.mul_add_div (by omega), Nat.div_eq_of_lt hj]; omega
    have e2 : (i * esz + j) % esz = j := by rw [Nat.mul_comm, Nat.mul_add_mod, Nat.mod_eq_of_lt hj]
    simp [hq, e1, e2]
theorem src_run (h : Sim base M W nt f g c a w D μ) {esz m : Nat} {ob : Nat → Option Ob} (hob : ∀ id z, ob id = some z → g id = some z) {x : AV} {src : Nat → Nat → AV} {u : Value} (e : srcOf std esz ob x = some (m, src)) (r : R w.heap D μ x u) :
    ∃ news : List Value, news.length = m * esz ∧ (∀ w', w'.heap = w.heap → (Builtin.firstCells esz m u).run P w' = .ok news.toArray w') ∧ (Builtin.lenOf u).run P w = .ok m w ∧
      ∀ i j, i < m → j < esz → ∃ v, news[i * esz + j]? = some v ∧ one v ∧ R w.heap D noMu (src i j) v := by
  have empty : ∀ ad cap, m = 0 → u = .slice ad 0 cap → ∃ news : List Value, news.length = m * esz ∧ (∀ w', w'.heap = w.heap → (Builtin.firstCells esz m u).run P w' = .ok news.toArray w') ∧ (Builtin.lenOf u).run P w = .ok m w ∧
      ∀ i j, i < m → j < esz → ∃ v, news[i * esz + j]? = some v ∧ one v ∧ R w.heap D noMu (src i j) v := by
    rintro ad cap rfl rfl
    refine ⟨[], by simp, fun w' hw => ?_, rfl, fun i j hi => by omega⟩
    cases ad with
    | none => simp [Builtin.firstCells]
    | some ad => simp [Builtin.firstCells, loadCells, loadCellsFrom]
  cases x with
  | lst sz n get =>
    simp only [srcOf] at e
    split at e
    · rename_i hsz
      obtain rfl := beq_eq hsz
      cases e
      cases r with
      | lst0 _ _ ad cap hn => exact empty _ _ rfl rfl
      | lst _ _ _ b o' cap vs hD hc hv h1 hr =>
        obtain ⟨news, n1, n2, n3⟩ := cells_run (P := P) (w := w) sz m b o' cap vs hv
        exact ⟨news, n1, n2, rfl, fun i j hi hj => ⟨_, n3 i j hi hj, h1 i j hi hj, hr i j hi hj⟩⟩
    · cases e
  | nils =>
    simp only [srcOf] at e
    cases e
    cases r with
    | nils => exact empty _ _ rfl rfl
  | emp =>
    simp only [srcOf] at e
    cases e
    cases r with
    | emp ad cap => exact empty _ _ rfl rfl
  | emz =>
    simp only [srcOf] at e
    cases e
    cases r with
    | emz ad => exact empty _ _ rfl rfl
  | sl id sz off n =>
    simp only [srcOf] at e
    split at e
    · rename_i hsz
      obtain rfl := beq_eq hsz
      split at e
      · rename_i sz' n' get hg
        have hg := hob _ _ hg
        split at e
        · rename_i hsz'
          obtain rfl := beq_eq hsz'
          cases e
          cases r with
          | slv => exact empty _ _ rfl rfl
          | sl0 => exact empty _ _ rfl rfl
          | sl _ _ _ _ b z q cap hμ hn hz ho =>
            obtain ⟨hm, C, t', fr, hh, hcs, _, hle, hrow⟩ := h.obs id _ _ hg hμ
            have key : ∀ i j, i < m → j < sz → ∃ y, C[off * sz + i * sz + j]? = some y ∧ one y ∧ R w.heap D noMu (get (off + i) j) y := by
              intro i j h1 h2
              obtain ⟨y, y1, y2, y3⟩ := hrow (off + i) j (by omega) h2
              rw [Nat.add_mul] at y1
              exact ⟨y, y1, y2, y3⟩
            obtain ⟨news, n1, n2, n3⟩ := cells_run (P := P) (w := w) sz m b (off * sz) cap (fun i j => C.getD (off * sz + i * sz + j) undef) (fun i j h1 h2 => by
              obtain ⟨y, y1, _⟩ := key i j h1 h2
              rw [hcell_of hh]; exact getD_some (Array.getElem?_eq_some_iff.1 y1).1)
            refine ⟨news, n1, n2, rfl, fun i j hi hj => ⟨_, n3 i j hi hj, ?_⟩⟩
            obtain ⟨y, y1, y2, y3⟩ := key i j hi hj
            rw [getD_some (Array.getElem?_eq_some_iff.1 y1).1] at y1
            cases y1
            exact ⟨y2, y3⟩
        · cases e
      · cases e
    · cases e
  | str l =>
    simp only [srcOf] at e
    split at e
    · cases e
      obtain ⟨s, rfl, rfl⟩ := r.inv_str
      refine ⟨s.data.toList.map (fun b => .int .u8 b.toNat), by simp [std], fun w' hw => ?_, by simp [Builtin.lenOf, std], fun i j hi hj => ?_⟩
      · have e1 : (std List.length s.data.toList : Nat) = s.size := by simp [std]
        rw [e1]
        have e2 : (s.extract 0 s.size) = s := by
          apply ByteArray.ext
          simp
        simp only [Builtin.firstCells, Sem.run_pure, e2]
        congr 1
        apply Array.ext'
        simp
      · obtain rfl : j = 0 := by omega
        have hi' : i < s.data.size := by simpa [std] using hi
        have hb : s.data[i]? = some (s.data[i]) := Array.getElem?_eq_getElem hi'
        refine ⟨.int .u8 (s.data[i]).toNat, by simp [hb], rfl, ?_⟩
        have : sidx s.data.toList (natI i) = ((s.data[i]).toNat : Int) := by
          simp [sidx, natI, List.getD, hb]
        show R w.heap D noMu (.int .u8 (sidx s.data.toList (natI i))) _
        rw [this]
        exact .int _ _
    · cases e
  | _ => simp [srcOf] at e

/-- The new elements behind the old ones. -/
theorem join_get {n m esz : Nat} {get src : Nat → Nat → AV} {h : Array Obj} {D : Nat → Prop} {C : Nat → Option Value} (h1 : ∀ i j, i < n → j < esz → ∃ v, C (i * esz + j) = some v ∧ one v ∧ R h D noMu (get i j) v)
    (h2 : ∀ i j, i < m → j < esz → ∃ v, C (n * esz + (i * esz + j)) = some v ∧ one v ∧ R h D noMu (src i j) v) :
    ∀ i j, i < n + m → j < esz → ∃ v, C (i * esz + j) = some v ∧ one v ∧ R h D noMu (sel1 std (L2 std nblt i n) (get i j) (src (L2 std Nat.sub i n) j)) v := by
  intro i j hi hj
  by_cases hin : i < n
  · obtain ⟨v, v1, v2, v3⟩ := h1 i j hin hj
    refine ⟨v, v1, v2, ?_⟩
    have : L2 std nblt i n = true := by show nblt i n = true; rw [nblt_eq]; exact hin
    rw [this]
    exact sel1_true v3 _
  · obtain ⟨v, v1, v2, v3⟩ := h2 (i - n) j (by omega) hj
    refine ⟨v, ?_, v2, ?_⟩
    · rw [← Nat.add_assoc, ← Nat.add_mul, show n + (i - n) = i by omega] at v1
      exact v1
    · have : L2 std nblt i n = false := by
        show nblt i n = false
        cases e : nblt i n with
        | false => rfl
        | true => exact absurd (blt_lt e) hin
      rw [this]
      exact sel1_false v3 _

/-- A slice that is nil yet is known under a name of its own. -/
theorem Sim.newNil (h : Sim base M W nt f g c a w D μ) {d : Nat} (hlt : d < nt) (hd : g d = none) (ty sz : Nat) (get : Nat → Nat → AV) :
    Sim base M W nt f (gput g [(d, .row ty sz 0 get)]) c a w D (fun id => if id = d then some none else μ id) := by
  have hmd : μ d = none := (h.dom d).2 hd
  have hmm : ∀ id x, μ id = some x → (if id = d then some none else μ id) = some x := by
    intro id x hx
    have : id ≠ d := by rintro rfl; rw [hmd] at hx; cases hx
    rw [if_neg this, hx]
  have hg : ∀ id, gput g [(d, .row ty sz 0 get)] id = if id = d then some (.row ty sz 0 get) else g id := by
    intro id
    by_cases e : id = d
    · subst e; simp [gput, aget, beq_same]
    · simp [gput, aget, beq_no (fun x => e x.symm : ¬ d = id), e]
  refine { h with slots := fun t v hv => (h.slots t v hv).mono (fun _ _ => rfl) (fun _ h => h) hmm, dom := fun id => ?_, obs := fun id o' x h1 h2 => ?_, inj := ?_, own := ?_, kd := ?_, icy := ?_, pin := fun i y hp hy => ?_ }
  rotate_right
  · by_cases e : i = d
    · rw [e, noPin hlt h.ntb] at hp; cases hp
    · rw [if_neg e] at hy; exact h.pin i y hp hy
  · rw [hg]
    by_cases e : id = d
    · simp [e]
    · simp only [if_neg e]; exact h.dom id
  · rw [hg] at h1
    by_cases e : id = d
    · rw [if_pos e] at h1 h2; cases h1; cases h2; rfl
    · rw [if_neg e] at h1 h2
      exact (h.obs id o' x h1 h2).mono (fun _ _ => rfl) (fun _ h => h) hmm (fun _ _ _ _ => rfl)
  · intro id id' b z z' o1 o2 h1 h2 h3 h4 h5 h6
    rw [hg] at h3 h4
    by_cases e : id = d
    · rw [if_pos e] at h1; cases h1
    · by_cases e' : id' = d
      · rw [if_pos e'] at h2; cases h2
      · rw [if_neg e] at h1 h3; rw [if_neg e'] at h2 h4
        exact h.inj id id' b z z' o1 o2 h1 h2 h3 h4 h5 h6
  · intro id b z h1
    by_cases e : id = d
    · rw [if_pos e] at h1; cases h1
    · rw [if_neg e] at h1; exact h.own id b z h1
  · intro id b z o' h1 h2 h3
    rw [hg] at h2
    by_cases e : id = d
    · rw [if_pos e] at h1; cases h1
    · rw [if_neg e] at h1 h2; exact h.kd id b z o' h1 h2 h3
  · intro id h1
    rw [hg]
    by_cases e : id = d
    · rw [if_pos e]; simp
    · rw [if_neg e]; exact h.icy id h1

/-- A block is gone, and known under another name. -/
theorem Sim.gone (h : Sim base M W nt f g c a w D μ) {id : Nat} {ob : Ob} (hg : g id = some ob) : Sim base M W nt f (gput g [(id, .gone)]) c a w D μ := by
  have hgp : ∀ i, gput g [(id, .gone)] i = if i = id then some .gone else g i := by
    intro i
    by_cases e : i = id
    · subst e; simp [gput, aget, beq_same]
    · simp [gput, aget, beq_no (fun x => e x.symm : ¬ id = i), e]
  refine { h with dom := fun i => ?_, obs := fun i o' x h1 h2 => ?_, inj := ?_, kd := ?_, icy := ?_ }
  · rw [hgp]
    by_cases e : i = id
    · subst e
      rw [if_pos rfl]
      have := h.dom i
      rw [hg] at this
      simpa using this
    · rw [if_neg e]; exact h.dom i
  · rw [hgp] at h1
    by_cases e : i = id
    · rw [if_pos e] at h1; cases h1
      cases x <;> exact trivial
    · rw [if_neg e] at h1; exact h.obs i o' x h1 h2
  · intro i i' b z z' o1 o2 h1 h2 h3 h4 h5 h6
    rw [hgp] at h3 h4
    by_cases e : i = id
    · rw [if_pos e] at h3; cases h3; exact absurd rfl h5
    · by_cases e' : i' = id
      · rw [if_pos e'] at h4; cases h4; exact absurd rfl h6
      · rw [if_neg e] at h3; rw [if_neg e'] at h4
        exact h.inj i i' b z z' o1 o2 h1 h2 h3 h4 h5 h6
  · intro i b z o1 h1 h2 h3
    rw [hgp] at h2
    by_cases e : i = id
    · rw [if_pos e] at h2; cases h2; exact absurd rfl h3
    · rw [if_neg e] at h2; exact h.kd i b z o1 h1 h2 h3
  · intro i hi
    rw [hgp]
    by_cases e : i = id
    · rw [if_pos e]; simp
    · rw [if_neg e]; exact h.icy i hi

/-- A block of the call's own, which no name holds any more, is written and named. -/
theorem Sim.adopt (h : Sim base M W nt f g c a w D μ) {d : Nat} (hlt : d < nt) (hd : g d = none) {b z m : Nat} (hb : b < w.heap.size) (hbase : base ≤ b ∨ M.wr b) (hnD : ¬ D b) (hfree : ∀ i o z', μ i = some (some (b, z')) → g i = some o → o = .gone)
    {ob : Ob} (hne : ob ≠ .gone) (C' : Array Value) (hok : (∀ k, D k → (w.setRow b C').heap[k]? = w.heap[k]?) → ObOk (w.setRow b C').heap D μ ob (some (b, z, m))) :
    Sim base M W nt f (gput g [(d, ob)]) c a (w.setRow b C') D (fun id => if id = d then some (some (b, z, m)) else μ id) := by
  have hother : ∀ k, k ≠ b → (w.setRow b C').heap[k]? = w.heap[k]? := fun k hk => setRow_other w b k C' hk
  have hDk : ∀ k, D k → (w.setRow b C').heap[k]? = w.heap[k]? := fun k hk => hother k (by rintro rfl; exact hnD hk)
  have hmd : μ d = none := (h.dom d).2 hd
  have hcd : c d = false := by
    cases e : c d with
    | false => rfl
    | true => exact absurd hd (h.icy d e)
  have hmm : ∀ id x, μ id = some x → (if id = d then some (some (b, z, m)) else μ id) = some x := by
    intro id x hx
    have : id ≠ d := by rintro rfl; rw [hmd] at hx; cases hx
    rw [if_neg this, hx]
  have hgp : ∀ i, gput g [(d, ob)] i = if i = d then some ob else g i := by
    intro i
    by_cases e : i = d
    · subst e; simp [gput, aget, beq_same]
    · simp [gput, aget, beq_no (fun x => e x.symm : ¬ d = i), e]
  exact {
    os := h.os, tape := h.tape, output := h.output
    size := by rw [setRow_size]; exact h.size
    bs := by rw [setRow_size]; exact h.bs
    old := fun k h1 h2 => by
      rw [hother k (by
        rintro rfl
        rcases hbase with h3 | h3
        · omega
        · exact h2 h3)]
      exact h.old k h1 h2
    defers := h.defers, tmps := h.tmps
    slots := fun s v hv => (h.slots s v hv).mono hDk (fun _ h => h) hmm
    dlt := fun k hk => by rw [setRow_size]; exact h.dlt k hk
    low := h.low
    dom := fun i => by
      rw [hgp]
      by_cases e : i = d
      · simp [e]
      · simp only [if_neg e]; exact h.dom i
    obs := fun i o' x h1 h2 => by
      rw [hgp] at h1
      by_cases e : i = d
      · rw [if_pos e] at h1 h2; cases h1; cases h2
        exact (hok hDk).mono (fun _ _ => rfl) (fun _ h => h) hmm (fun _ _ _ _ => rfl)
      · rw [if_neg e] at h1 h2
        refine (h.obs i o' x h1 h2).mono hDk (fun _ h => h) hmm (fun b' z' hx hne2 => hother b' ?_)
        rintro rfl
        subst hx
        exact hne2 (hfree i o' z' h2 h1)
    inj := fun i i' b1 z1 z2 o1 o2 h1 h2 h3 h4 h5 h6 => by
      rw [hgp] at h3 h4
      by_cases e : i = d
      · by_cases e' : i' = d
        · rw [e, e']
        · rw [if_pos e] at h1; rw [if_neg e'] at h2 h4
          cases h1
          exact absurd (hfree i' o2 z2 h2 h4) h6
      · by_cases e' : i' = d
        · rw [if_pos e'] at h2; rw [if_neg e] at h1 h3
          cases h2
          exact absurd (hfree i o1 z1 h1 h3) h5
        · rw [if_neg e] at h1 h3; rw [if_neg e'] at h2 h4
          exact h.inj i i' b1 z1 z2 o1 o2 h1 h2 h3 h4 h5 h6
    own := fun i b1 z1 h1 => by
      rw [setRow_size]
      by_cases e : i = d
      · rw [if_pos e] at h1; cases h1; exact ⟨hb, hbase⟩
      · rw [if_neg e] at h1; exact h.own i b1 z1 h1
    kd := fun i b1 z1 o1 h1 h2 h3 => by
      rw [hgp] at h2
      by_cases e : i = d
      · rw [if_pos e] at h1; cases h1
        subst e
        exact ⟨fun hx => (by rw [hcd] at hx; cases hx), fun _ => hnD⟩
      · rw [if_neg e] at h1 h2; exact h.kd i b1 z1 o1 h1 h2 h3
    ntb := h.ntb
    gl := h.gl
    pin := fun i y hp hy => by
      by_cases e : i = d
      · rw [e, noPin hlt h.ntb] at hp; cases hp
      · rw [if_neg e] at hy; exact h.pin i y hp hy
    icy := fun i hi => by
      rw [hgp]
      by_cases e : i = d
      · rw [if_pos e]; simp
      · rw [if_neg e]; exact h.icy i hi }

variable (h : Sim base M W nt f g c a w D μ) (hd : ∀ d, o.dst = some d → d < nt)
include h hd

omit h hd in
theorem src0_eq {esz m : Nat} {ob : Nat → Option Ob} {src : Nat → Nat → AV} {v : AV} (e : srcOf std esz ob v = some (m, src)) : src0 ob src v = src := by
  unfold src0
  split
  · rename_i id sz n
    split
    · rename_i ty sz' n' get hg
      simp only [srcOf, hg] at e
      split at e
      · split at e
        · cases e
          funext i j
          simp [L2, std]
        · cases e
      · cases e
    · rfl
  · rfl
theorem says_append (hT : TsOk P T) {x y : Operand} {ts : Array TypeId} {t t' : Nat} (hts : ts.toList = [t, t']) (e : o.op = .call { callee := .builtin .append, args := #[x, y], argTypes := ts }) {vals : List AV}
    (hv : Ops w.heap D μ a [x, y] vals) {ob : Nat → Option Ob} (hob : ∀ id z, ob id = some z → g id = some z) {ice : Nat → Bool} (hice : ∀ id, ice id = false → c id = false) :
    Says P base M W nt f g c o a w (cAppend T std o.dst t t' ob ice (newOf g o.op o.dst) vals) := by
  obtain rfl : ts = #[t, t'] := by apply Array.ext'; simpa using hts
  match vals, hv with
  | [s, v], ⟨hs, hv, _⟩ =>
    unfold cAppend
    simp only
    split
    · rename_i d hc
      obtain ⟨hn, hdst⟩ := cond_some hc
      have hnew : g d = none := by
        simp only [newOf, e, creates, hdst] at hn
        cases hg : g d with
        | none => rfl
        | some _ => rw [hg] at hn; cases hn
      split
      · rename_i sz ag ze e' esz eb eqf p1 p2 p3 hi
        obtain ⟨ok1, ok2⟩ := (hT t _ hi).k
        obtain ⟨ei', hei', hes⟩ := Option.map_eq_some_iff.1 ok2
        simp only [Prod.mk.injEq] at hes
        obtain ⟨hes1, hes2⟩ := hes
        subst hes1; subst hes2
        split
        · rename_i m src hsrc
          have c1 : notInt T t' = true := by cases hx : notInt T t' <;> simp_all
          have c2 : nble 1 ei'.size = true := by cases hx : nble 1 ei'.size <;> simp_all
          have c3 : (T.find e').isSome = true := by cases hx : (T.find e').isSome <;> simp_all
          rw [c1, c2, c3] at hsrc
          simp only [cond_true] at hsrc
          have hsrc0 := src0_eq hsrc
          have hni := notInt_ok hT c1
          have hsp := ble_le c2
          obtain ⟨eti, heti⟩ := Option.isSome_iff_exists.1 c3
          obtain ⟨ii, z, i1, i2, i3, i4, i5, i6⟩ := (hT e' eti heti).info
          rw [hei'] at i1
          cases i1
          have hzs : z.cells.size = ei'.size := by rw [i5, ← i2]
          obtain ⟨news, n1, n2, n3, n4⟩ := src_run (P := P) h hob hsrc hv
          have run : ∀ u w', (Builtin.append_ #[t, t'] o.type #[a.eval x, a.eval y]).run P w = .ok u w' → (execOp a.eval o).run P w = .ok (.value u) w' := by
            intro u w' hu
            unfold execOp
            rw [e]
            simp [resolve, invoke, builtin, hu]
          -- a slice without room
          have fresh : ∀ (ad : Option Addr), a.eval x = .slice ad 0 0 → (0 + m) * ei'.bytes ≤ 140737488355328 → 0 + m ≤ 9223372036854775807 →
              ∀ get' : Nat → Nat → AV, (∀ i j v, i < m → j < ei'.size → R w.heap D noMu (src i j) v → R w.heap D noMu (get' i j) v) →
              ∀ K Q, (∀ a' w', SimE base M W nt (fput f o.dst (.sl d ei'.size 0 m)) (gput g [(d, .row e' ei'.size m get')]) c a' w' → K a' w') → o.wp P a w K Q := by
            intro ad hx hb1 hb2 get' hget K Q hK
            unfold Oper.wp
            have hfc : ∀ w', (Builtin.firstCells ei'.size 0 (.slice ad 0 0)).run P w' = .ok #[] w' := by
              intro w'
              cases ad <;> simp [Builtin.firstCells, loadCells, loadCellsFrom]
            rw [hx] at run
            by_cases hm0 : m = 0
            · subst hm0
              have hnil : news = [] := by apply List.eq_nil_of_length_eq_zero; rw [n1]; simp
              subst hnil
              have hr := run_append_in (P := P) w t t' o.type e' ei' ok1 hni hei' ad 0 0 (a.eval y) 0 [] n2 n3 (by omega) (w' := w) (fun ad _ => rfl) (fun _ => rfl)
              rw [run _ _ hr]
              exact hK _ _ ⟨_, _, (h.newNil (hd _ hdst) hnew e' ei'.size get').put hd (.slv _ _ _ (by simp))⟩
            · have hg0 : 0 < 0 + m := by omega
              have hr := run_append_new (P := P) w t t' o.type e' ei' z ok1 hni hei' i3 ad 0 0 (a.eval y) m [] news (fun w' _ => hfc w') n2 n3 hg0 hb2 (growslice_fits hg0 hb1)
              rw [run _ _ hr]
              have hw : Sim base M W nt f g c a w.drew D μ := h.drew
              obtain ⟨C, hC⟩ : ∃ C, C = ([] : List Value).toArray ++ news.toArray ++ Builtin.zeroCells z.cells (grownCap w (0 + m) 0 e' - (0 + m)) := ⟨_, rfl⟩
              have hge := grownCap_ge w (0 + m) 0 e'
              have hCs : C.size = grownCap w (0 + m) 0 e' * ei'.size := by
                rw [hC]
                simp only [Array.size_append, size_zeroCells, List.size_toArray, List.length_nil, n1, hzs]
                rw [Nat.zero_add, ← Nat.add_mul]
                congr 1
                omega
              rw [← hC]
              have hle : m * ei'.size ≤ C.size := by rw [hCs]; exact Nat.mul_le_mul_right _ (by omega)
              have hnew' := hw.new (hd _ hdst) hnew (.row e' ei'.size m get') C e' m (by simp) (row_ok hw hle (fun i j hi hj => by
                obtain ⟨v, v1, v2, v3⟩ := n4 i j hi hj
                have hlt := (List.getElem?_eq_some_iff.1 v1).1
                refine ⟨v, ?_, v2, hget i j v hi hj v3⟩
                rw [hC]
                simp [Array.getElem?_append, hlt]
                exact (List.getElem?_eq_some_iff.1 v1).2))
              refine hK _ _ ⟨_, _, hnew'.put hd ?_⟩
              have := R.sl (h := (w.drew.alloc (.cells C e')).heap) (D := D) (μ := fun id => if id = d then some (some (w.drew.heap.size, C.size, m)) else μ id) d ei'.size 0 m w.heap.size C.size m (grownCap w (0 + m) 0 e') (by simp) (by omega) (by rw [hCs]; simp) (by omega)
              simpa using this
          split
          · -- a nil slice
            intro hb
            have hb' : (0 + m) * ei'.bytes ≤ 140737488355328 ∧ 0 + m ≤ 9223372036854775807 := by simpa [L3, std, roomOk] using hb
            generalize hu : a.eval x = u at hs
            cases hs with
            | nils =>
              intro K Q hK
              refine fresh none hu hb'.1 hb'.2 src (fun i j v _ _ r => r) K Q (fun a' w' hsim => hK a' w' ?_)
              rw [cput_nil]
              exact hsim
          · -- an empty slice without room
            intro hb
            have hb' : (0 + m) * ei'.bytes ≤ 140737488355328 ∧ 0 + m ≤ 9223372036854775807 := by simpa [L3, std, roomOk] using hb
            generalize hu : a.eval x = u at hs
            cases hs with
            | emz ad =>
              intro K Q hK
              refine fresh (some ad) hu hb'.1 hb'.2 src (fun i j v _ _ r => r) K Q (fun a' w' hsim => hK a' w' ?_)
              rw [cput_nil]
              exact hsim
          · rename_i id sz' off n
            split
            · rename_i ty sz'' n' get hsz hic hg
              have hic := hice _ hic
              have hg := hob _ _ hg
              obtain rfl := beq_eq hsz
              split
              · trivial
              · rename_i hsz'
                obtain rfl := beq_eq hsz'
                split
                · trivial
                rename_i hty
                obtain rfl : e' = ty := (beq_eq hty).symm
                intro hb
                have hb' : (n + m) * ei'.bytes ≤ 140737488355328 ∧ n + m ≤ 9223372036854775807 := by simpa [L3, std, roomOk] using hb
                obtain ⟨hb1, hb2⟩ := hb'
                have hdid : d ≠ id := by rintro rfl; rw [hnew] at hg; cases hg
                obtain ⟨jg, hjg⟩ : ∃ jg, jg = fun i j => sel1 std (L2 std nblt i n) (get i j) (src (L2 std Nat.sub i n) j) := ⟨_, rfl⟩
                -- the old name is gone
                have finish : ∀ a' w', SimE base M W nt (fput f o.dst (.sl d ei'.size 0 (n + m))) (gput g [(d, .row e' ei'.size (n + m) jg)]) c a' w' → SimE base M W nt (fput f o.dst (.sl d ei'.size 0 (n + m))) (gput g [(d, .row e' ei'.size (n + m) jg), (id, .gone)]) (cput c []) a' w' := by
                  rintro a' w' ⟨D', μ', hsim⟩
                  have hid : gput g [(d, .row e' ei'.size (n + m) jg)] id = some (.row e' ei'.size n' get) := by
                    simp [gput, aget, beq_no hdid, hg]
                  have := hsim.gone hid
                  refine ⟨D', μ', ?_⟩
                  rw [cput_nil]
                  have e2 : gput (gput g [(d, .row e' ei'.size (n + m) jg)]) [(id, .gone)] = gput g [(d, .row e' ei'.size (n + m) jg), (id, .gone)] := by
                    funext k
                    simp only [gput, aget]
                    by_cases k1 : d = k
                    · subst k1
                      simp [beq_same, beq_no (fun x => hdid x.symm : ¬ id = d)]
                    · by_cases k2 : id = k
                      · subst k2; simp [beq_same, beq_no hdid]
                      · simp [beq_no k1, beq_no k2]
                  rw [← e2]
                  exact this
                have none0 : ∀ ad, n = 0 → a.eval x = .slice ad 0 0 → Adv P base M W nt f g c o a w (.sl d ei'.size 0 (L2 std Nat.add n m)) [(d, .row e' ei'.size (L2 std Nat.add n m) jg), (id, .gone)] [] := by
                  intro ad hn0 hu K Q hK
                  have e3 : L2 std Nat.add n m = m := by show n + m = m; omega
                  rw [e3] at hK
                  have e4 : n + m = m := by omega
                  rw [e4] at finish
                  refine fresh ad hu (by rw [Nat.zero_add]; rw [e4] at hb1; exact hb1) (by omega) jg (fun i j v hi hj r => ?_) K Q (fun a' w' hsim => hK a' w' (finish a' w' hsim))
                  rw [hjg]
                  have e5 : L2 std nblt i n = false := by
                    show nblt i n = false
                    cases e6 : nblt i n with
                    | false => rfl
                    | true => have := blt_lt e6; omega
                  have e6 : L2 std Nat.sub i n = i := by show i - n = i; omega
                  simp only [e5, e6]
                  exact sel1_false r _
                have main : Adv P base M W nt f g c o a w (.sl d ei'.size 0 (L2 std Nat.add n m)) [(d, .row e' ei'.size (L2 std Nat.add n m) jg), (id, .gone)] [] := by
                  generalize hu : a.eval x = u at hs
                  cases hs with
                  | slv _ _ ad hμ => exact none0 ad rfl hu
                  | sl0 _ _ _ b z m' o' hμ ho => exact none0 _ rfl hu
                  | sl _ _ _ _ b z1 m' cap hμ hnc hz ho =>
                    intro K Q hK
                    unfold Oper.wp
                    rw [hu] at run
                    rw [Nat.zero_mul] at run
                    rw [Nat.zero_add] at hz ho
                    obtain ⟨hm', C, tt, fr, hh, hcs, hf, hle, hrow⟩ := h.obs id _ _ hg hμ
                    subst hm'
                    obtain ⟨hblt, hbb⟩ := h.own id b _ hμ
                    have hnD := (h.kd id b _ _ hμ hg (by simp)).2 hic
                    by_cases hroom : n + m ≤ cap
                    · -- in place
                      have hfit : n * ei'.size + news.length ≤ C.size := by
                        rw [n1, ← Nat.add_mul, hcs]
                        exact Nat.le_trans (Nat.mul_le_mul_right _ hroom) hz
                      have h1news : ∀ u ∈ news, one u := by
                        intro u hu'
                        obtain ⟨q, hq⟩ := List.getElem?_of_mem hu'
                        have hql : q < m * ei'.size := by rw [← n1]; exact (List.getElem?_eq_some_iff.1 hq).1
                        obtain ⟨v, v1, v2, _⟩ := n4 (q / ei'.size) (q % ei'.size) (Nat.div_lt_of_lt_mul (by rw [Nat.mul_comm]; exact hql)) (Nat.mod_lt _ (by omega))
                        rw [show q / ei'.size * ei'.size + q % ei'.size = q by rw [Nat.mul_comm]; exact Nat.div_add_mod q _] at v1
                        rw [hq] at v1; cases v1; exact v2
                      have hst := stores_run P b (n * ei'.size) tt fr news 0 C w hh (by rw [hcs]; exact hf.1) (by omega) h1news
                      rw [Nat.add_zero] at hst
                      have hr := run_append_in (P := P) w t t' o.type e' ei' ok1 hni hei' (some ⟨b, 0, none⟩) n cap (a.eval y) m news n2 n3 hroom (w' := w.setRow b (seqset C (n * ei'.size) news)) (fun ad had => by
                        cases had
                        rw [add_none, Nat.zero_add]
                        exact hst) (fun hx => by cases hx)
                      rw [run _ _ hr]
                      have hfree : ∀ i o2 z2, μ i = some (some (b, z2)) → gput g [(id, .gone)] i = some o2 → o2 = .gone := by
                        intro i o2 z2 k1 k2
                        by_cases k3 : id = i
                        · subst k3
                          simp [gput, aget, beq_same] at k2
                          exact k2.symm
                        · simp [gput, aget, beq_no k3] at k2
                          by_cases k4 : o2 = .gone
                          · exact k4
                          · exact absurd (h.inj id i b _ z2 _ o2 hμ k1 hg k2 (by simp) k4) k3
                      have hgone := h.gone hg
                      have hd2 : gput g [(id, .gone)] d = none := by simp [gput, aget, beq_no (fun x => hdid x.symm : ¬ id = d), hnew]
                      have had := hgone.adopt (d := d) (hd _ hdst) hd2 (b := b) (z := z1) (m := n + m) hblt hbb hnD hfree (ob := .row e' ei'.size (n + m) jg) (by simp) (seqset C (n * ei'.size) news) (fun hD => by
                        refine ⟨rfl, _, tt, fr, setRow_heap w b C _ tt fr hh, by rw [seqset_size, hcs], hf, Nat.le_trans (Nat.mul_le_mul_right _ hroom) hz, ?_⟩
                        rw [hjg]
                        refine join_get (C := fun k => (seqset C (n * ei'.size) news)[k]?) (fun i j hi hj => ?_) (fun i j hi hj => ?_)
                        · obtain ⟨v, v1, v2, v3⟩ := hrow i j (by omega) hj
                          have hlt := (Array.getElem?_eq_some_iff.1 v1).1
                          refine ⟨v, ?_, v2, v3.mono hD (fun _ h => h) (fun _ _ h => h)⟩
                          rw [seqset_get _ _ _ _ hlt, if_neg]
                          · exact v1
                          · have h3 : (i + 1) * ei'.size ≤ n * ei'.size := Nat.mul_le_mul_right _ hi
                            rw [Nat.add_mul] at h3
                            omega
                        · obtain ⟨v, v1, v2, v3⟩ := n4 i j hi hj
                          have hlt := (List.getElem?_eq_some_iff.1 v1).1
                          refine ⟨v, ?_, v2, v3.mono hD (fun _ h => h) (fun _ _ h => h)⟩
                          rw [seqset_get _ _ _ _ (by omega), if_pos ⟨by omega, by omega⟩, Nat.add_sub_cancel_left]
                          exact v1)
                      have hput := had.put hd (u := .slice (some ⟨b, 0, none⟩) (n + m) cap) (v := .sl d ei'.size 0 (n + m)) (by
                        have := R.sl (h := (w.setRow b (seqset C (n * ei'.size) news)).heap) (D := D) (μ := fun i => if i = d then some (some (b, z1, n + m)) else μ i) d ei'.size 0 (n + m) b z1 (n + m) cap (by simp) hroom (by simpa using hz) (by omega)
                        simpa using this)
                      have e2 : gput (gput g [(id, .gone)]) [(d, .row e' ei'.size (n + m) jg)] = gput g [(d, .row e' ei'.size (n + m) jg), (id, .gone)] := by
                        funext k
                        simp only [gput, aget]
                        by_cases k1 : d = k
                        · subst k1; simp [beq_same]
                        · by_cases k2 : id = k
                          · subst k2; simp [beq_same, beq_no hdid]
                          · simp [beq_no k1, beq_no k2]
                      rw [e2] at hput
                      exact hK _ _ ⟨D, (fun i => if i = d then some (some (b, z1, n + m)) else μ i), by rw [cput_nil]; exact hput⟩
                    · -- a new block
                      have hg0 : cap < n + m := by omega
                      obtain ⟨olds, o1, o2, o3⟩ := cells_run (P := P) (w := w) ei'.size n b 0 cap (fun i j => C.getD (i * ei'.size + j) undef) (fun i j hi hj => by
                        obtain ⟨v, v1, _⟩ := hrow i j (by omega) hj
                        rw [hcell_of hh, Nat.zero_add]; exact getD_some (Array.getElem?_eq_some_iff.1 v1).1)
                      have hr := run_append_new (P := P) w t t' o.type e' ei' z ok1 hni hei' i3 (some ⟨b, 0, none⟩) n cap (a.eval y) m olds news o2 n2 n3 hg0 hb2 (growslice_fits hg0 hb1)
                      rw [run _ _ hr]
                      have hw : Sim base M W nt f g c a w.drew D μ := h.drew
                      obtain ⟨C2, hC2⟩ : ∃ C2, C2 = olds.toArray ++ news.toArray ++ Builtin.zeroCells z.cells (grownCap w (n + m) cap e' - (n + m)) := ⟨_, rfl⟩
                      have hge := grownCap_ge w (n + m) cap e'
                      have hCs : C2.size = grownCap w (n + m) cap e' * ei'.size := by
                        rw [hC2]
                        simp only [Array.size_append, size_zeroCells, List.size_toArray, n1, o1, hzs]
                        rw [← Nat.add_mul, ← Nat.add_mul]
                        congr 1
                        omega
                      rw [← hC2]
                      have hle2 : (n + m) * ei'.size ≤ C2.size := by rw [hCs]; exact Nat.mul_le_mul_right _ hge
                      have hnew' := hw.new (hd _ hdst) hnew (.row e' ei'.size (n + m) jg) C2 e' (n + m) (by simp) (row_ok hw hle2 (by
                        rw [hjg]
                        refine join_get (C := fun k => C2[k]?) (fun i j hi hj => ?_) (fun i j hi hj => ?_)
                        · obtain ⟨v, v1, v2, v3⟩ := hrow i j (by omega) hj
                          have hv1 := getD_some (Array.getElem?_eq_some_iff.1 v1).1
                          rw [hv1] at v1; cases v1
                          have h4 := o3 i j hi hj
                          have hlt := (List.getElem?_eq_some_iff.1 h4).1
                          refine ⟨_, ?_, v2, v3⟩
                          rw [hC2, Array.append_assoc]
                          rw [Array.getElem?_append_left (by simpa using hlt)]
                          simpa using h4
                        · obtain ⟨v, v1, v2, v3⟩ := n4 i j hi hj
                          have hlt := (List.getElem?_eq_some_iff.1 v1).1
                          refine ⟨v, ?_, v2, v3⟩
                          rw [hC2, Array.append_assoc]
                          rw [Array.getElem?_append_right (by simp [o1]), Array.getElem?_append_left (by simp [o1]; omega)]
                          simp [o1, v1]))
                      refine hK _ _ (finish _ _ ⟨_, _, hnew'.put hd ?_⟩)
                      have := R.sl (h := (w.drew.alloc (.cells C2 e')).heap) (D := D) (μ := fun id => if id = d then some (some (w.drew.heap.size, C2.size, n + m)) else μ id) d ei'.size 0 (n + m) w.heap.size C2.size (n + m) (grownCap w (n + m) cap e') (by simp) hge (by rw [hCs]; simp) (by omega)
                      simpa using this
                rw [hjg] at main
                exact main
            · rename_i ty cs hsz hic hg
              have hic := hice _ hic
              have hg := hob _ _ hg
              obtain rfl := beq_eq hsz
              split
              rotate_left
              · trivial
              rename_i k1 k2 k3
              have k1 := ble_le k1
              have k3 := blt_lt k3
              rw [llen_eq] at k1
              obtain rfl : e' = ty := (beq_eq k2).symm
              intro hb
              have hb' : (n + m) * ei'.bytes ≤ 140737488355328 ∧ n + m ≤ 9223372036854775807 := by simpa [L3, std, roomOk] using hb
              obtain ⟨hb1, hb2⟩ := hb'
              rw [hsrc0]
              have hdid : d ≠ id := by rintro rfl; rw [hnew] at hg; cases hg
              obtain ⟨ncs, hncs⟩ : ∃ ncs, ncs = lapp (ltake cs (n * ei'.size)) (ltab (flat src ei'.size) 0 (m * ei'.size)) := ⟨_, rfl⟩
              have hnl : ncs.length = (n + m) * ei'.size := by
                rw [hncs, lapp_eq, ltake_eq, List.length_append, List.length_take, ltab_len, Nat.add_mul]
                omega
              have hleft : ∀ q, q < n * ei'.size → ncs[q]? = cs[q]? := by
                intro q hq
                rw [hncs, lapp_eq, ltake_eq, List.getElem?_append_left (by rw [List.length_take]; omega), List.getElem?_take, if_pos hq]
              have hright : ∀ q x, n * ei'.size ≤ q → ncs[q]? = some x → q - n * ei'.size < m * ei'.size ∧ x = src ((q - n * ei'.size) / ei'.size) ((q - n * ei'.size) % ei'.size) := by
                intro q x hq hx
                have hlt := (List.getElem?_eq_some_iff.1 hx).1
                rw [hnl, Nat.add_mul] at hlt
                rw [hncs, lapp_eq, ltake_eq, List.getElem?_append_right (by rw [List.length_take]; omega), List.length_take, Nat.min_eq_left k1, ltab_get, if_pos (by omega), flat1 _ _ _ (by omega), Nat.zero_add] at hx
                cases hx
                exact ⟨by omega, rfl⟩
              have hnews : ∀ q, q < m * ei'.size → ∃ v, news[q]? = some v ∧ one v ∧ R w.heap D noMu (src (q / ei'.size) (q % ei'.size)) v := by
                intro q hq
                obtain ⟨v, v1, v2, v3⟩ := n4 (q / ei'.size) (q % ei'.size) (Nat.div_lt_of_lt_mul (by rw [Nat.mul_comm]; exact hq)) (Nat.mod_lt _ (by omega))
                rw [show q / ei'.size * ei'.size + q % ei'.size = q by rw [Nat.mul_comm]; exact Nat.div_add_mod q _] at v1
                exact ⟨v, v1, v2, v3⟩
              -- the old name is gone
              have finish : ∀ a' w', SimE base M W nt (fput f o.dst (.sl d ei'.size 0 (n + m))) (gput g [(d, .spr e' ncs)]) c a' w' → SimE base M W nt (fput f o.dst (.sl d ei'.size 0 (n + m))) (gput g [(d, .spr e' ncs), (id, .gone)]) (cput c []) a' w' := by
                rintro a' w' ⟨D', μ', hsim⟩
                have hid : gput g [(d, .spr e' ncs)] id = some (.spr e' cs) := by
                  simp [gput, aget, beq_no hdid, hg]
                have := hsim.gone hid
                refine ⟨D', μ', ?_⟩
                rw [cput_nil]
                have e2 : gput (gput g [(d, .spr e' ncs)]) [(id, .gone)] = gput g [(d, .spr e' ncs), (id, .gone)] := by
                  funext k
                  simp only [gput, aget]
                  by_cases k1 : d = k
                  · subst k1
                    simp [beq_same, beq_no (fun x => hdid x.symm : ¬ id = d)]
                  · by_cases k2 : id = k
                    · subst k2; simp [beq_same, beq_no hdid]
                    · simp [beq_no k1, beq_no k2]
                rw [← e2]
                exact this
              have main : Adv P base M W nt f g c o a w (.sl d ei'.size 0 (n + m)) [(d, .spr e' ncs), (id, .gone)] [] := by
                generalize hu : a.eval x = u at hs
                cases hs with
                | slv _ _ ad hμ => exact absurd k3 (Nat.lt_irrefl _)
                | sl0 _ _ _ b z m' o' hμ ho => exact absurd k3 (Nat.lt_irrefl _)
                | sl _ _ _ _ b z1 m' cap hμ hnc hz ho =>
                  intro K Q hK
                  unfold Oper.wp
                  rw [hu] at run
                  rw [Nat.zero_mul] at run
                  rw [Nat.zero_add] at hz ho
                  obtain ⟨C, tt, fr, hh, hcs, hf, hlz, hrow⟩ := h.obs id _ _ hg hμ
                  obtain ⟨hblt, hbb⟩ := h.own id b _ hμ
                  have hnD := (h.kd id b _ _ hμ hg (by simp)).2 hic
                  by_cases hroom : n + m ≤ cap
                  · -- in place
                    have hfit : n * ei'.size + news.length ≤ C.size := by
                      rw [n1, ← Nat.add_mul, hcs]
                      exact Nat.le_trans (Nat.mul_le_mul_right _ hroom) hz
                    have h1news : ∀ u ∈ news, one u := by
                      intro u hu'
                      obtain ⟨q, hq⟩ := List.getElem?_of_mem hu'
                      have hql : q < m * ei'.size := by rw [← n1]; exact (List.getElem?_eq_some_iff.1 hq).1
                      obtain ⟨v, v1, v2, _⟩ := hnews q hql
                      rw [hq] at v1; cases v1; exact v2
                    have hst := stores_run P b (n * ei'.size) tt fr news 0 C w hh (by rw [hcs]; exact hf.1) (by omega) h1news
                    rw [Nat.add_zero] at hst
                    have hr := run_append_in (P := P) w t t' o.type e' ei' ok1 hni hei' (some ⟨b, 0, none⟩) n cap (a.eval y) m news n2 n3 hroom (w' := w.setRow b (seqset C (n * ei'.size) news)) (fun ad had => by
                      cases had
                      rw [add_none, Nat.zero_add]
                      exact hst) (fun hx => by cases hx)
                    rw [run _ _ hr]
                    have hfree : ∀ i o2 z2, μ i = some (some (b, z2)) → gput g [(id, .gone)] i = some o2 → o2 = .gone := by
                      intro i o2 z2 k1 k2
                      by_cases k3 : id = i
                      · subst k3
                        simp [gput, aget, beq_same] at k2
                        exact k2.symm
                      · simp [gput, aget, beq_no k3] at k2
                        by_cases k4 : o2 = .gone
                        · exact k4
                        · exact absurd (h.inj id i b _ z2 _ o2 hμ k1 hg k2 (by simp) k4) k3
                    have hgone := h.gone hg
                    have hd2 : gput g [(id, .gone)] d = none := by simp [gput, aget, beq_no (fun x => hdid x.symm : ¬ id = d), hnew]
                    have had := hgone.adopt (d := d) (hd _ hdst) hd2 (b := b) (z := z1) (m := n + m) hblt hbb hnD hfree (ob := .spr e' ncs) (by simp) (seqset C (n * ei'.size) news) (fun hD => by
                      refine ⟨_, tt, fr, setRow_heap w b C _ tt fr hh, by rw [seqset_size, hcs], hf, by rw [hnl]; exact Nat.le_trans (Nat.mul_le_mul_right _ hroom) hz, fun q x hx => ?_⟩
                      by_cases hq : q < n * ei'.size
                      · rw [hleft q hq] at hx
                        obtain ⟨v, v1, v2, v3⟩ := hrow q x hx
                        have hlt := (Array.getElem?_eq_some_iff.1 v1).1
                        refine ⟨v, ?_, v2, v3.mono hD (fun _ h => h) (fun _ _ h => h)⟩
                        rw [seqset_get _ _ _ _ hlt, if_neg (by omega)]
                        exact v1
                      · obtain ⟨q1, rfl⟩ := hright q x (by omega) hx
                        obtain ⟨v, v1, v2, v3⟩ := hnews _ q1
                        refine ⟨v, ?_, v2, v3.mono hD (fun _ h => h) (fun _ _ h => by cases h)⟩
                        rw [seqset_get _ _ _ _ (by rw [n1] at hfit; omega), if_pos ⟨by omega, by rw [n1]; omega⟩]
                        exact v1)
                    have hput := had.put hd (u := .slice (some ⟨b, 0, none⟩) (n + m) cap) (v := .sl d ei'.size 0 (n + m)) (by
                      have := R.sl (h := (w.setRow b (seqset C (n * ei'.size) news)).heap) (D := D) (μ := fun i => if i = d then some (some (b, z1, n + m)) else μ i) d ei'.size 0 (n + m) b z1 (n + m) cap (by simp) hroom (by simpa using hz) (by omega)
                      simpa using this)
                    have e2 : gput (gput g [(id, .gone)]) [(d, .spr e' ncs)] = gput g [(d, .spr e' ncs), (id, .gone)] := by
                      funext k
                      simp only [gput, aget]
                      by_cases k1 : d = k
                      · subst k1; simp [beq_same]
                      · by_cases k2 : id = k
                        · subst k2; simp [beq_same, beq_no hdid]
                        · simp [beq_no k1, beq_no k2]
                    rw [e2] at hput
                    exact hK _ _ ⟨D, (fun i => if i = d then some (some (b, z1, n + m)) else μ i), by rw [cput_nil]; exact hput⟩
                  · -- a new block
                    have hg0 : cap < n + m := by omega
                    have hone : ∀ i j, i < n → j < ei'.size → i * ei'.size + j < n * ei'.size := by
                      intro i j hi hj
                      have h3 : (i + 1) * ei'.size ≤ n * ei'.size := Nat.mul_le_mul_right _ hi
                      rw [Nat.add_mul] at h3
                      omega
                    obtain ⟨olds, o1, o2, o3⟩ := cells_run (P := P) (w := w) ei'.size n b 0 cap (fun i j => C.getD (i * ei'.size + j) undef) (fun i j hi hj => by
                      have hq := hone i j hi hj
                      obtain ⟨v, v1, _⟩ := hrow (i * ei'.size + j) _ (List.getElem?_eq_getElem (show i * ei'.size + j < cs.length by omega))
                      rw [hcell_of hh, Nat.zero_add]; exact getD_some (Array.getElem?_eq_some_iff.1 v1).1)
                    have hr := run_append_new (P := P) w t t' o.type e' ei' z ok1 hni hei' i3 (some ⟨b, 0, none⟩) n cap (a.eval y) m olds news o2 n2 n3 hg0 hb2 (growslice_fits hg0 hb1)
                    rw [run _ _ hr]
                    have hw : Sim base M W nt f g c a w.drew D μ := h.drew
                    obtain ⟨C2, hC2⟩ : ∃ C2, C2 = olds.toArray ++ news.toArray ++ Builtin.zeroCells z.cells (grownCap w (n + m) cap e' - (n + m)) := ⟨_, rfl⟩
                    have hge := grownCap_ge w (n + m) cap e'
                    have hCs : C2.size = grownCap w (n + m) cap e' * ei'.size := by
                      rw [hC2]
                      simp only [Array.size_append, size_zeroCells, List.size_toArray, n1, o1, hzs]
                      rw [← Nat.add_mul, ← Nat.add_mul]
                      congr 1
                      omega
                    rw [← hC2]
                    have hle2 : (n + m) * ei'.size ≤ C2.size := by rw [hCs]; exact Nat.mul_le_mul_right _ hge
                    have hDal : ∀ k, D k → (w.drew.alloc (.cells C2 e')).heap[k]? = w.heap[k]? := fun k hk => Below.heap_alloc _ _ _ (h.dlt k hk)
                    have hnew' := hw.new (hd _ hdst) hnew (.spr e' ncs) C2 e' (n + m) (by simp) (by
                      refine ⟨C2, e', _, heap_alloc_new _ _, rfl, ⟨noFr_zero _, rfl⟩, by rw [hnl]; exact hle2, fun q x hx => ?_⟩
                      by_cases hq : q < n * ei'.size
                      · rw [hleft q hq] at hx
                        obtain ⟨v, v1, v2, v3⟩ := hrow q x hx
                        have hv1 := getD_some (Array.getElem?_eq_some_iff.1 v1).1
                        rw [hv1] at v1; cases v1
                        have h4 := o3 (q / ei'.size) (q % ei'.size) (Nat.div_lt_of_lt_mul (by rw [Nat.mul_comm]; exact hq)) (Nat.mod_lt _ (by omega))
                        rw [show q / ei'.size * ei'.size + q % ei'.size = q by rw [Nat.mul_comm]; exact Nat.div_add_mod q _] at h4
                        have hlt := (List.getElem?_eq_some_iff.1 h4).1
                        refine ⟨_, ?_, v2, v3.mono hDal (fun _ h => h) (fun _ _ h => h)⟩
                        rw [hC2, Array.append_assoc]
                        rw [Array.getElem?_append_left (by simpa using hlt)]
                        simpa using h4
                      · obtain ⟨q1, rfl⟩ := hright q x (by omega) hx
                        obtain ⟨v, v1, v2, v3⟩ := hnews _ q1
                        have hlt := (List.getElem?_eq_some_iff.1 v1).1
                        refine ⟨v, ?_, v2, v3.mono hDal (fun _ h => h) (fun _ _ h => by cases h)⟩
                        rw [hC2, Array.append_assoc]
                        rw [Array.getElem?_append_right (by simp [o1]; omega), Array.getElem?_append_left (by simp [o1]; omega)]
                        simp [o1, v1])
                    refine hK _ _ (finish _ _ ⟨_, _, hnew'.put hd ?_⟩)
                    have := R.sl (h := (w.drew.alloc (.cells C2 e')).heap) (D := D) (μ := fun id => if id = d then some (some (w.drew.heap.size, C2.size, n + m)) else μ id) d ei'.size 0 (n + m) w.heap.size C2.size (n + m) (grownCap w (n + m) cap e') (by simp) hge (by rw [hCs]; simp) (by omega)
                    simpa using this
              rw [hncs] at main
              exact main
            · trivial
          · trivial
        · trivial
      · trivial
    · trivial
end

end Sy
end Go.Proofs.YtckbbcjbbmgmoaaDoor
