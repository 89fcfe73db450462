/- The symbolic executor: regions, in the order of the text and in any. -/
import Derived.Test.YtckbbcjbbmgmoaaDoorSyO
namespace Go.Proofs.YtckbbcjbbmgmoaaDoor
namespace Sy
open Go Go.RowKit
set_option linter.unusedSimpArgs false
set_option linter.unusedVariables false
set_option linter.unusedSectionVars false

/-! ### the static look -/
def tmpsL : List Operand → List Nat
  | [] => []
  | .tmp t :: r => t :: tmpsL r
  | _ :: r => tmpsL r
def opOk (nt : Nat) (o : Oper) : Bool :=
  (match o.dst with | some d => nblt d nt | none => true) && (opnds o.op).all fun x => match x with | .const v => plainC v | _ => true
def pairOk (i : Nat) (o : Oper) (ts : List Nat) : Nat → List Oper → Bool
  | _, [] => true
  | j, o' :: r => (match o'.dst with
    | none => true
    | some d => (nbeq j i || (match o.dst with | some d' => !nbeq d' d | none => true)) &&
      (!lhas ts d || (nblt j i && direct1 o.after.toList j) || (nblt i j && direct1 o'.after.toList i))) && pairOk i o ts (j + 1) r
def drawOk (ops : List Oper) : Nat → List Oper → Bool
  | _, [] => true
  | i, o :: r => (o.after.toList.all fun e => !Region.binds .any e || nblt e.on i) && (match o.guard with | none => true | some (g, _) => direct1 o.after.toList g) &&
    pairOk i o (tmpsL (opnds o.op)) 0 ops && drawOk ops (i + 1) r

structure OpOk (nt : Nat) (o : Oper) : Prop where
  dst : ∀ d, o.dst = some d → d < nt
  pl : ∀ x ∈ opnds o.op, ∀ v, x = .const v → plainC v = true
theorem opOk_of {nt : Nat} {o : Oper} (h : opOk nt o = true) : OpOk nt o := by
  unfold opOk at h
  simp only [Bool.and_eq_true] at h
  refine ⟨fun d hd => ?_, fun x hx v hv => ?_⟩
  · have h1 := h.1
    rw [hd] at h1
    exact blt_lt h1
  · have h2 := List.all_eq_true.1 h.2 x hx
    rw [hv] at h2
    exact h2
theorem mem_tmpsL {l : List Operand} {t : Nat} (h : Operand.tmp t ∈ l) : t ∈ tmpsL l := by
  induction l with
  | nil => cases h
  | cons x l ih =>
    rcases List.mem_cons.1 h with rfl | h'
    · simp [tmpsL]
    · cases x <;> simp [tmpsL, ih h']
structure DrawOk (ops : List Oper) : Prop where
  back : ∀ (i : Nat) (o : Oper) (e : Edge), ops[i]? = some o → e ∈ o.after → Region.binds .any e = true → e.on < i
  guard : ∀ (i : Nat) (o : Oper) g b, ops[i]? = some o → o.guard = some (g, b) → direct1 o.after.toList g = true
  once : ∀ (i j : Nat) (o o' : Oper) d, ops[i]? = some o → ops[j]? = some o' → o.dst = some d → o'.dst = some d → i = j
  reads : ∀ (i j : Nat) (o o' : Oper) d, ops[i]? = some o → ops[j]? = some o' → o'.dst = some d → Operand.tmp d ∈ opnds o.op →
    (j < i ∧ direct1 o.after.toList j = true) ∨ (i < j ∧ direct1 o'.after.toList i = true)
theorem pairOk_at {i : Nat} {o : Oper} {ts : List Nat} : ∀ (l : List Oper) (j : Nat), pairOk i o ts j l = true → ∀ (k : Nat) (o' : Oper), l[k]? = some o' → ∀ d, o'.dst = some d →
    (nbeq (j + k) i || (match o.dst with | some d' => !nbeq d' d | none => true)) = true ∧ (!lhas ts d || (nblt (j + k) i && direct1 o.after.toList (j + k)) || (nblt i (j + k) && direct1 o'.after.toList i)) = true
  | [], _, _, k, o', hk, _, _ => by simp at hk
  | x :: l, j, h, k, o', hk, d, hd => by
    unfold pairOk at h
    rw [Bool.and_eq_true] at h
    cases k with
    | zero =>
      simp only [List.getElem?_cons_zero, Option.some.injEq] at hk
      subst hk
      have h1 := h.1
      rw [hd] at h1
      simp only [Bool.and_eq_true] at h1
      exact h1
    | succ k =>
      have := pairOk_at l (j + 1) h.2 k o' (by simpa using hk) d hd
      rw [show j + 1 + k = j + (k + 1) by omega] at this
      exact this
theorem drawOk_at {ops : List Oper} : ∀ (l : List Oper) (i : Nat), drawOk ops i l = true → ∀ (k : Nat) (o : Oper), l[k]? = some o →
    ((o.after.toList.all fun e => !Region.binds .any e || nblt e.on (i + k)) && (match o.guard with | none => true | some (g, _) => direct1 o.after.toList g)) = true ∧ pairOk (i + k) o (tmpsL (opnds o.op)) 0 ops = true
  | [], _, _, k, o, hk => by simp at hk
  | x :: l, i, h, k, o, hk => by
    unfold drawOk at h
    rw [Bool.and_eq_true, Bool.and_eq_true] at h
    cases k with
    | zero =>
      simp only [List.getElem?_cons_zero, Option.some.injEq] at hk
      subst hk
      exact ⟨h.1.1, h.1.2⟩
    | succ k =>
      have := drawOk_at l (i + 1) h.2 k o (by simpa using hk)
      rw [show i + 1 + k = i + (k + 1) by omega] at this
      exact this
theorem drawOk_of {ops : List Oper} (h : drawOk ops 0 ops = true) : DrawOk ops := by
  have H := drawOk_at ops 0 h
  simp only [Nat.zero_add] at H
  refine ⟨fun i o e ho he hb => ?_, fun i o g b ho hg => ?_, fun i j o o' d ho ho' hd hd' => ?_, fun i j o o' d ho ho' hd hr => ?_⟩
  · have h1 := (H i o ho).1
    rw [Bool.and_eq_true, List.all_eq_true] at h1
    have h2 := h1.1 e (Array.mem_toList_iff.2 he)
    rw [hb] at h2
    exact blt_lt (by simpa using h2)
  · have h1 := (H i o ho).1
    rw [Bool.and_eq_true] at h1
    have h2 := h1.2
    rw [hg] at h2
    exact h2
  · have h1 := (pairOk_at ops 0 (H i o ho).2 j o' ho' d hd').1
    rw [hd, Nat.zero_add] at h1
    simp only [beq_same, Bool.not_true, Bool.or_false] at h1
    exact (beq_eq h1).symm
  · have h1 := (pairOk_at ops 0 (H i o ho).2 j o' ho' d hd).2
    rw [Nat.zero_add, lhas_mem.2 (mem_tmpsL hr)] at h1
    simp only [Bool.not_true, Bool.false_or, Bool.or_eq_true, Bool.and_eq_true] at h1
    rcases h1 with h1 | h1
    · exact .inl ⟨blt_lt h1.1, h1.2⟩
    · exact .inr ⟨blt_lt h1.1, h1.2⟩

/-! ### one operation, in any state -/
section
variable {P : Program} {T : TT} {base : Nat} {M : Two} {W : World} {nt : Nat} {ops : List Oper}

theorem wanted_of {f : Nat → Option AV} {g : Nat → Option Ob} {c : Nat → Bool} {a : Act} {w : World} {o : Oper} {e : Ev} (hs : SimE base M W nt f g c a w) (hops : ∀ o ∈ ops, OpOk nt o)
    (hg : match guardOf ops o with
      | none => e.want = true
      | some (some t, w) => (∃ b, f t = some (.bool b) ∧ e.want = (b == w)) ∨ (f t = some (.tup []) ∧ e.want = false)
      | some (none, _) => False) : Region.wanted o (yielded ops.toArray a.tmps) = e.want := by
  obtain ⟨D, μ, h⟩ := hs
  unfold Region.wanted
  unfold guardOf at hg
  cases e1 : o.guard with
  | none => rw [e1] at hg; simp only at hg ⊢; exact hg.symm
  | some x =>
    obtain ⟨j, wt⟩ := x
    rw [e1] at hg
    simp only at hg ⊢
    cases e2 : ops[j]? with
    | none => rw [e2] at hg; exact hg.elim
    | some o' =>
      rw [e2] at hg
      simp only at hg
      cases e3 : o'.dst with
      | none => rw [e3] at hg; exact hg.elim
      | some t =>
        rw [e3] at hg
        simp only at hg
        rcases hg with ⟨b, hb, hw⟩ | ⟨hb, hw⟩
        rotate_left
        · have ht : t < a.tmps.size := by rw [h.tmps]; exact (hops o' (List.mem_of_getElem? e2)).dst t e3
          obtain ⟨us, hu, l1, _⟩ := (h.slots t _ hb).inv_tup
          have hus : us = #[] := Array.eq_empty_of_size_eq_zero (by simpa using l1.symm)
          have hx : a.tmps[t]? = some (.tuple #[]) := by
            rw [hus] at hu
            rw [← hu]; simp [ht]
          unfold yielded
          simp only [List.getElem?_toArray, e2, Option.bind_some, e3, hx]
          rw [hw]; cases wt <;> rfl
        have ht : t < a.tmps.size := by rw [h.tmps]; exact (hops o' (List.mem_of_getElem? e2)).dst t e3
        have hr := (h.slots t _ hb).inv_bool
        have hx : a.tmps[t]? = some (.bool b) := by rw [← hr]; simp [ht]
        unfold yielded
        simp only [List.getElem?_toArray, e2, Option.bind_some, e3, hx]
        rw [hw]
        cases b <;> cases wt <;> rfl

theorem op_go {f : Nat → Option AV} {g : Nat → Option Ob} {c : Nat → Bool} {a : Act} {w : World} {o : Oper} {e : Ev} {i : Nat} {Q : Exit → Act → World → Prop} {K : Act → World → Prop} (hT : TsOk P T)
    (hs : SimE base M W nt f g c a w) (hops : ∀ o ∈ ops, OpOk nt o) (ho : ops[i]? = some o) (he : EvOk P T ops f g c o e)
    (hK : ∀ a' w', SimE base M W nt (fput f o.dst e.v) (gput g e.os) (cput c e.ice) a' w' → K a' w') : wpOp P ops.toArray Q i K a w := by
  have hw := wanted_of hs hops he.guard
  have hok := hops o (List.mem_of_getElem? ho)
  obtain ⟨D, μ, h⟩ := hs
  unfold wpOp
  rw [List.getElem?_toArray, ho]
  simp only
  rw [hw]
  cases e1 : e.want with
  | true =>
    rw [if_pos rfl]
    rcases he.yes e1 with h1 | ⟨h1, h2⟩
    · exact .inl (adv_of h1 (says h hok.dst hT hok.pl (fun t b ht => by simp [aget] at ht)) K Q hK)
    · rw [h2] at hK
      exact .inl (adv_M h hok.dst hok.pl h1 K Q hK)
  | false =>
    rw [if_neg (by simp)]
    obtain ⟨h1, h2, h3, _⟩ := he.no e1
    rw [h1, h2, h3] at hK
    exact hK _ _ ⟨D, μ, h.put hok.dst (.tup [] #[] rfl (fun i x v hx => by simp at hx))⟩

/-! ### in the order of the text -/
theorem text_go (hT : TsOk P T) (hops : ∀ o ∈ ops, OpOk nt o) {Q : Exit → Act → World → Prop} {draw : Bool} : ∀ (r : List Oper) (i : Nat) (f : Nat → Option AV) (g : Nat → Option Ob) (c : Nat → Bool) (acc : List (Nat × Ent)) (es : List Ev) (f' : Nat → Option AV) (g' : Nat → Option Ob) (c' : Nat → Bool) (a : Act) (w : World),
    (∀ k, r[k]? = ops[i + k]?) → Walk P T draw ops r i f g c acc es f' g' c' → SimE base M W nt f g c a w → (∀ a' w', SimE base M W nt f' g' c' a' w' → Q .normal a' w') →
    wpOps P ops.toArray Q (List.range' i r.length) a w
  | [], i, f, g, c, acc, es, f', g', c', a, w, hr, hW, hs, hQ => by
    cases es with
    | nil => obtain ⟨rfl, rfl, rfl⟩ := hW; exact hQ a w hs
    | cons _ _ => exact hW.elim
  | o :: r, i, f, g, c, acc, [], f', g', c', a, w, hr, hW, hs, hQ => hW.elim
  | o :: r, i, f, g, c, acc, e :: es, f', g', c', a, w, hr, hW, hs, hQ => by
    have ho : ops[i]? = some o := by have := hr 0; simpa using this.symm
    rw [List.length_cons, List.range'_succ, wpOps_cons]
    exact op_go hT hs hops ho hW.1 fun a' w' hs' => text_go hT hops r (i + 1) _ _ _ _ es f' g' c' a' w' (fun k => by have := hr (k + 1); rw [List.getElem?_cons_succ] at this; rw [this]; congr 1; omega) hW.2.2 hs' hQ

/-! ### in any order -/
def fhit (ops : List Oper) (E : Nat → Ev) (t : Nat) (j : Nat) : Option AV := match ops[j]? with
  | some o => if o.dst = some t then some (E j).v else none
  | none => none
theorem fput_hit (f : Nat → Option AV) (o : Oper) (v : AV) (t : Nat) : fput f o.dst v t = match (if o.dst = some t then some v else none) with | some x => some x | none => f t := by
  unfold fput
  cases e : o.dst with
  | none => simp
  | some d =>
    by_cases h : t = d
    · subst h; simp
    · simp [h]; rw [if_neg (fun h' => h h'.symm)]
section
variable (ops : List Oper) (E : Nat → Ev) (f0 : Nat → Option AV) (g0 : Nat → Option Ob) (c0 : Nat → Bool)
def fL (L : Nat → Bool) (n : Nat) : Nat → Option AV := fun t => last L (fhit ops E t) (f0 t) n
def gL (L : Nat → Bool) (n : Nat) : Nat → Option Ob := fun id => last L (fun j => aget (E j).os id) (g0 id) n
def cL (L : Nat → Bool) (n : Nat) : Nat → Bool := fun id => anyL L (fun j => lhas (E j).ice id) (c0 id) n
end
abbrev allL : Nat → Bool := fun _ => true

variable {E : Nat → Ev} {f0 : Nat → Option AV} {g0 : Nat → Option Ob} {c0 : Nat → Bool}
theorem fL_succ {i : Nat} {o : Oper} (ho : ops[i]? = some o) : fL ops E f0 allL (i + 1) = fput (fL ops E f0 allL i) o.dst (E i).v := by
  funext t
  rw [fput_hit]
  show last allL (fhit ops E t) (f0 t) (i + 1) = _
  rw [last_succ, if_pos rfl]
  have : fhit ops E t i = if o.dst = some t then some (E i).v else none := by unfold fhit; rw [ho]
  rw [this]
  cases (if o.dst = some t then some (E i).v else none) <;> rfl
theorem gL_succ {i : Nat} : gL E g0 allL (i + 1) = gput (gL E g0 allL i) (E i).os := by
  funext id
  show last allL _ (g0 id) (i + 1) = _
  rw [last_succ, if_pos rfl]
  unfold gput
  cases aget (E i).os id <;> rfl
theorem cL_succ {i : Nat} : cL E c0 allL (i + 1) = cput (cL E c0 allL i) (E i).ice := by
  funext id
  show anyL allL _ (c0 id) (i + 1) = _
  rw [anyL_succ]
  rfl

def noted (E : Nat → Ev) (acc : List (Nat × Ent)) (i : Nat) : Prop := ∀ k, k < i → (E k).ent = ⟨[], []⟩ ∨ (k, (E k).ent) ∈ acc
theorem noted_step {acc : List (Nat × Ent)} {i : Nat} (h : noted E acc i) (hno : (E i).want = false → (E i).ent = ⟨[], []⟩) : noted E (note2 acc i (E i)) (i + 1) := by
  intro k hk
  unfold note2
  by_cases hi : k = i
  · subst hi
    cases hw : (E k).want with
    | false => exact .inl (hno hw)
    | true =>
      rw [if_pos rfl]
      unfold noteOf
      generalize (E k).ent = x
      obtain ⟨a, b⟩ := x
      cases a with
      | nil => cases b with
        | nil => exact .inl rfl
        | cons _ _ => exact .inr (by simp)
      | cons _ _ => exact .inr (by simp)
  · rcases h k (by omega) with h | h
    · exact .inl h
    · refine .inr ?_
      split
      · unfold noteOf
        split
        · split
          · exact h
          · exact List.mem_cons_of_mem _ h
        · exact List.mem_cons_of_mem _ h
      · exact h

/-- What the walk says of each operation, in the states of the text. -/
structure At (P : Program) (T : TT) (ops : List Oper) (E : Nat → Ev) (f0 : Nat → Option AV) (g0 : Nat → Option Ob) (c0 : Nat → Bool) (j : Nat) (o : Oper) : Prop where
  ev : EvOk P T ops (fL ops E f0 allL j) (gL E g0 allL j) (cL E c0 allL j) o (E j)
  ent : EntOk (fL ops E f0 allL j) o (E j)
  ord : ∃ acc, noted E acc j ∧ OrdOk ops o (E j) acc

theorem walk_at : ∀ (r : List Oper) (i : Nat) (f : Nat → Option AV) (g : Nat → Option Ob) (c : Nat → Bool) (acc : List (Nat × Ent)) (es : List Ev) (f' : Nat → Option AV) (g' : Nat → Option Ob) (c' : Nat → Bool),
    (∀ k, r[k]? = ops[i + k]?) → (∀ k e, es[k]? = some e → E (i + k) = e) → f = fL ops E f0 allL i → g = gL E g0 allL i → c = cL E c0 allL i → noted E acc i → Walk P T true ops r i f g c acc es f' g' c' →
    (∀ j o, i ≤ j → ops[j]? = some o → At P T ops E f0 g0 c0 j o) ∧ f' = fL ops E f0 allL (i + r.length) ∧ g' = gL E g0 allL (i + r.length) ∧ c' = cL E c0 allL (i + r.length)
  | [], i, f, g, c, acc, es, f', g', c', hr, hE, ef, eg, ec, hn, hW => by
    cases es with
    | nil =>
      obtain ⟨rfl, rfl, rfl⟩ := hW
      refine ⟨fun j o hj ho => ?_, ef, eg, ec⟩
      have := hr (j - i)
      rw [show i + (j - i) = j by omega, ho] at this
      simp at this
    | cons _ _ => exact hW.elim
  | o :: r, i, f, g, c, acc, [], f', g', c', hr, hE, ef, eg, ec, hn, hW => hW.elim
  | o :: r, i, f, g, c, acc, e :: es, f', g', c', hr, hE, ef, eg, ec, hn, hW => by
    have ho : ops[i]? = some o := by have := hr 0; simpa using this.symm
    obtain ⟨h1, h2, h3⟩ := hW
    obtain ⟨h2, h2'⟩ := h2 rfl
    have hEi : E i = e := hE 0 e rfl
    rw [if_pos rfl] at h3
    have ih := walk_at r (i + 1) _ _ _ _ es f' g' c' (fun k => by have := hr (k + 1); rw [List.getElem?_cons_succ] at this; rw [this]; congr 1; omega) (fun k x hx => by rw [show i + 1 + k = i + (k + 1) by omega]; exact hE (k + 1) x (by simpa using hx))
      (by rw [fL_succ ho, hEi, ef]) (by rw [gL_succ, hEi, eg]) (by rw [cL_succ, hEi, ec]) (by rw [← hEi]; exact noted_step hn (by rw [hEi]; exact fun hw => (h1.no hw).2.2.2)) h3
    obtain ⟨i1, i2, i3, i4⟩ := ih
    rw [show i + 1 + r.length = i + (o :: r).length by simp; omega] at i2 i3 i4
    refine ⟨fun j o' hj ho' => ?_, i2, i3, i4⟩
    by_cases e1 : j = i
    · subst e1
      rw [ho] at ho'
      cases ho'
      subst hEi; subst ef; subst eg; subst ec
      exact ⟨h1, h2, acc, hn, h2'⟩
    · exact i1 j o' (by omega) ho'

theorem meets_mem {xs ys : List Nat} {id : Nat} (h1 : id ∈ xs) (h2 : id ∈ ys) : meets xs ys = true := by
  induction xs with
  | nil => cases h1
  | cons x xs ih =>
    unfold meets
    rcases List.mem_cons.1 h1 with rfl | h1
    · rw [lhas_mem.2 h2]
    · split
      · rfl
      · exact ih h1
theorem clash_1 {a b : Ent} {id : Nat} (h1 : id ∈ a.wr) (h2 : id ∈ b.ids ∨ id ∈ b.wr) : clash a b = true := by
  unfold clash
  rw [meets_mem h1 (by rw [lapp_eq, List.mem_append]; exact h2)]
theorem clash_2 {a b : Ent} {id : Nat} (h1 : id ∈ b.wr) (h2 : id ∈ a.ids) : clash a b = true := by
  unfold clash
  split
  · rfl
  · exact meets_mem h1 h2
theorem orderly_mem {es : List Edge} {x : Ent} {acc : List (Nat × Ent)} (h : orderly ops es x acc = true) {k : Nat} {y : Ent} (hm : (k, y) ∈ acc) (hc : clash x y = true) : ahead ops 4 es k = true := by
  induction acc with
  | nil => cases hm
  | cons z acc ih =>
    obtain ⟨j, z⟩ := z
    unfold orderly at h
    rcases List.mem_cons.1 hm with e | hm
    · cases e
      rw [hc] at h
      simp only at h
      split at h
      · assumption
      · cases h
    · refine ih ?_ hm
      split at h
      · split at h
        · exact h
        · cases h
      · exact h

/-- The operations that are through: none before those it waits for. -/
def Closed (ops : List Oper) (L : Nat → Bool) : Prop := ∀ (k : Nat) (o : Oper) (e : Edge), ops[k]? = some o → L k = true → e ∈ o.after → Region.binds .any e = true → L e.on = true
theorem direct_in {L : Nat → Bool} {es : List Edge} {j : Nat} (h : ∀ e ∈ es, Region.binds .any e = true → L e.on = true) (hd : direct1 es j = true) : L j = true := by
  induction es with
  | nil => simp [direct1] at hd
  | cons e es ih =>
    have ih := ih fun x hx => h x (by simp [hx])
    unfold direct1 at hd
    split at hd
    · rename_i hb
      split at hd
      · rename_i he
        rw [← beq_eq he]; exact h e (by simp) hb
      · exact ih hd
    · exact ih hd
theorem ahead_in {L : Nat → Bool} (hc : Closed ops L) {j : Nat} : ∀ (n : Nat) (es : List Edge), (∀ e ∈ es, Region.binds .any e = true → L e.on = true) → ahead ops n es j = true → L j = true
  | 0, es, h, hd => direct_in h hd
  | n + 1, es, h, hd => by
    unfold ahead at hd
    split at hd
    · rename_i h'; exact direct_in h h'
    · rw [List.any_eq_true] at hd
      obtain ⟨e, he, hd⟩ := hd
      split at hd
      · rename_i hb
        split at hd
        · cases hd
        · split at hd
          · rename_i o ho
            exact ahead_in hc n o.after.toList (fun x hx hxb => hc e.on o x ho (h e he hb) (Array.mem_toList_iff.1 hx) hxb) hd
          · cases hd
      · cases hd

structure Ready (ops : List Oper) (L : Nat → Bool) (i : Nat) (o : Oper) : Prop where
  at_ : ops[i]? = some o
  not : L i = false
  go : ∀ e ∈ o.after.toList, Region.binds .any e = true → L e.on = true

variable {L : Nat → Bool} {i : Nat} {o : Oper}
theorem ent_no (h : At P T ops E f0 g0 c0 i o) {id : Nat} (hid : id ∈ (E i).ent.ids ∨ id ∈ (E i).ent.wr) : (E i).want = true := by
  cases hw : (E i).want with
  | true => rfl
  | false =>
    have := (h.ev.no hw).2.2.2
    rw [this] at hid
    simp at hid
/-- Of two that clash the later waits for the earlier. -/
theorem order_of (hA : ∀ j o, ops[j]? = some o → At P T ops E f0 g0 c0 j o) {j k : Nat} {o : Oper} (ho : ops[k]? = some o) (hjk : j < k) {id : Nat} (h : (id ∈ (E k).ent.wr ∧ (id ∈ (E j).ent.ids ∨ id ∈ (E j).ent.wr)) ∨ (id ∈ (E j).ent.wr ∧ id ∈ (E k).ent.ids)) : ahead ops 4 o.after.toList j = true := by
  have A := hA k o ho
  have hw : (E k).want = true := ent_no A (id := id) (by rcases h with h | h; exact .inr h.1; exact .inl h.2)
  obtain ⟨acc, hn, ho'⟩ := A.ord
  have hor := ho' hw
  have hcl : clash (E k).ent (E j).ent = true := by
    rcases h with h | h
    · exact clash_1 h.1 h.2
    · exact clash_2 h.1 h.2
  rcases hn j hjk with h0 | h0
  · rw [h0] at h; simp at h
  · exact orderly_mem hor h0 hcl
theorem side (hA : ∀ j o, ops[j]? = some o → At P T ops E f0 g0 c0 j o) (hC : Closed ops L) (hR : Ready ops L i o) {j : Nat} (hj : j < ops.length) {id : Nat}
    (h : (id ∈ (E j).ent.wr ∧ (id ∈ (E i).ent.ids ∨ id ∈ (E i).ent.wr)) ∨ (id ∈ (E i).ent.wr ∧ id ∈ (E j).ent.ids)) : L j = decide (j < i) := by
  obtain ⟨oj, hoj⟩ : ∃ oj, ops[j]? = some oj := ⟨_, List.getElem?_eq_getElem hj⟩
  rcases Nat.lt_trichotomy j i with hlt | heq | hgt
  · have := order_of hA hR.at_ hlt (id := id) (by
      rcases h with ⟨h1, h2 | h2⟩ | ⟨h1, h2⟩
      · exact .inr ⟨h1, h2⟩
      · exact .inl ⟨h2, .inr h1⟩
      · exact .inl ⟨h1, .inl h2⟩)
    rw [ahead_in hC 4 _ hR.go this]; simp [hlt]
  · subst heq
    rw [hR.not]; simp
  · have := order_of hA hoj hgt (id := id) (by
      rcases h with ⟨h1, h2 | h2⟩ | ⟨h1, h2⟩
      · exact .inl ⟨h1, .inl h2⟩
      · exact .inl ⟨h1, .inr h2⟩
      · exact .inr ⟨h1, h2⟩)
    have hn : L j = false := by
      cases hL : L j with
      | false => rfl
      | true =>
        have h2 := ahead_in hC 4 _ (fun e he hb => hC j oj e hoj hL (Array.mem_toList_iff.1 he) hb) this
        rw [hR.not] at h2; cases h2
    rw [hn]; simp; omega
theorem f_same (hD : DrawOk ops) (hC : Closed ops L) (hR : Ready ops L i o) {t : Nat} (ht : Operand.tmp t ∈ opnds o.op ∨ ∃ g b og, o.guard = some (g, b) ∧ ops[g]? = some og ∧ og.dst = some t) : fL ops E f0 L ops.length t = fL ops E f0 allL i t := by
  have hi : i < ops.length := (List.getElem?_eq_some_iff.1 hR.at_).1
  show last L (fhit ops E t) (f0 t) ops.length = last allL (fhit ops E t) (f0 t) i
  rw [← last_full i ops.length (by omega)]
  refine last_agree _ fun j hj hh => ?_
  obtain ⟨oj, hoj⟩ : ∃ oj, ops[j]? = some oj := ⟨_, List.getElem?_eq_getElem hj⟩
  have hdj : oj.dst = some t := by
    unfold fhit at hh
    rw [hoj] at hh
    simp only at hh
    split at hh
    · assumption
    · exact absurd rfl hh
  rcases ht with ht | ⟨g, b, og, h1, h2, h3⟩
  · rcases hD.reads i j o oj t hR.at_ hoj hdj ht with h | h
    · rw [direct_in hR.go h.2]; simp [h.1]
    · have hn : L j = false := by
        cases hL : L j with
        | false => rfl
        | true =>
          have h2 := direct_in (fun e he hb => hC j oj e hoj hL (Array.mem_toList_iff.1 he) hb) h.2
          rw [hR.not] at h2; cases h2
      rw [hn]; simp; omega
  · have := hD.once j g oj og t hoj h2 hdj h3
    subst this
    have hd := hD.guard i o j b hR.at_ h1
    rw [direct_in hR.go hd]
    have : j < i := by
      have key : ∀ es : List Edge, (∀ e ∈ es, Region.binds .any e = true → e.on < i) → direct1 es j = true → j < i := by
        intro es
        induction es with
        | nil => intro _ h; simp [direct1] at h
        | cons e es ih =>
          intro h hd
          have ih := ih fun x hx => h x (by simp [hx])
          unfold direct1 at hd
          split at hd
          · rename_i hb
            split at hd
            · rename_i he; rw [← beq_eq he]; exact h e (by simp) hb
            · exact ih hd
          · exact ih hd
      exact key _ (fun e he hb => hD.back i o e hR.at_ (Array.mem_toList_iff.1 he) hb) hd
    simp [this]

theorem keys_mem {α : Type} {l : List (Nat × α)} {id : Nat} (h : aget l id ≠ none) : id ∈ keys l := by
  induction l with
  | nil => simp [aget] at h
  | cons x l ih =>
    obtain ⟨k, v⟩ := x
    unfold aget at h
    unfold keys
    cases e : nbeq k id with
    | true => simp [beq_eq e]
    | false => rw [e] at h; simp [ih h]
theorem os_wr (h : At P T ops E f0 g0 c0 i o) {id : Nat} (hh : aget (E i).os id ≠ none) : id ∈ (E i).ent.wr := by
  cases hw : (E i).want with
  | true => exact (h.ent hw).2.2.2.1 id (keys_mem hh)
  | false => rw [(h.ev.no hw).2.1] at hh; simp [aget] at hh
theorem ice_ids (h : At P T ops E f0 g0 c0 i o) {id : Nat} (hh : lhas (E i).ice id = true) : id ∈ (E i).ent.ids := by
  cases hw : (E i).want with
  | true => exact (h.ent hw).2.2.1 id (lhas_mem.1 hh)
  | false => rw [(h.ev.no hw).2.2.1] at hh; simp [lhas] at hh

/-- The operation finds what it found in the text's order. -/
theorem ev_any (hD : DrawOk ops) (hA : ∀ j o, ops[j]? = some o → At P T ops E f0 g0 c0 j o) (hC : Closed ops L) (hR : Ready ops L i o) :
    EvOk P T ops (fL ops E f0 L ops.length) (gL E g0 L ops.length) (cL E c0 L ops.length) o (E i) := by
  have A := hA i o hR.at_
  have hi : i < ops.length := (List.getElem?_eq_some_iff.1 hR.at_).1
  refine ⟨?_, A.ev.no, fun hw => ?_⟩
  · have hg := A.ev.guard
    unfold guardOf at hg ⊢
    cases e1 : o.guard with
    | none => rw [e1] at hg; exact hg
    | some x =>
      obtain ⟨j, b⟩ := x
      rw [e1] at hg
      simp only at hg ⊢
      cases e2 : ops[j]? with
      | none => rw [e2] at hg; exact hg
      | some o' =>
        rw [e2] at hg
        simp only at hg ⊢
        cases e3 : o'.dst with
        | none => rw [e3] at hg; exact hg
        | some t =>
          rw [e3] at hg
          simp only at hg ⊢
          rw [f_same hD hC hR (.inr ⟨j, b, o', e1, e2, e3⟩)]
          exact hg
  · have h1 := A.ev.yes hw
    obtain ⟨n1, n2, n3, n4, n5⟩ := A.ent hw
    have hv : lmap (evf (fL ops E f0 L ops.length) []) (opnds o.op) = lmap (evf (fL ops E f0 allL i) []) (opnds o.op) := by
      refine lmap_congr fun x hx => ?_
      cases x with
      | tmp t => simp only [evf, aget]; rw [f_same hD hC hR (.inl hx)]
      | _ => rfl
    have hg : ∀ id, id ∈ (E i).ent.ids → gL E g0 L ops.length id = gL E g0 allL i id := by
      intro id hid
      show last L _ (g0 id) ops.length = last allL _ (g0 id) i
      rw [← last_full i ops.length (by omega)]
      refine last_agree _ fun j hj hh => ?_
      obtain ⟨oj, hoj⟩ : ∃ oj, ops[j]? = some oj := ⟨_, List.getElem?_eq_getElem hj⟩
      exact side hA hC hR hj (id := id) (.inl ⟨os_wr (hA j oj hoj) hh, .inl hid⟩)
    have hgw : ∀ id, id ∈ (E i).ent.wr → gL E g0 L ops.length id = gL E g0 allL i id := by
      intro id hid
      show last L _ (g0 id) ops.length = last allL _ (g0 id) i
      rw [← last_full i ops.length (by omega)]
      refine last_agree _ fun j hj hh => ?_
      obtain ⟨oj, hoj⟩ : ∃ oj, ops[j]? = some oj := ⟨_, List.getElem?_eq_getElem hj⟩
      exact side hA hC hR hj (id := id) (.inl ⟨os_wr (hA j oj hoj) hh, .inr hid⟩)
    have hc : ∀ id, id ∈ (E i).ent.wr → cL E c0 L ops.length id = cL E c0 allL i id := by
      intro id hid
      show anyL L _ (c0 id) ops.length = anyL allL _ (c0 id) i
      rw [← anyL_full i ops.length (by omega)]
      refine anyL_agree _ fun j hj hh => ?_
      obtain ⟨oj, hoj⟩ : ∃ oj, ops[j]? = some oj := ⟨_, List.getElem?_eq_getElem hj⟩
      exact side hA hC hR hj (id := id) (.inr ⟨hid, ice_ids (hA j oj hoj) hh⟩)
    rcases h1 with h1 | ⟨h1, h2⟩
    · left
      rw [stepV_congr (f' := fL ops E f0 allL i) (g' := gL E g0 allL i) (c' := cL E c0 allL i) (kn' := []) hv (fun id hid => hg id (n1 id hid)) (fun hcr d hd => hg d (n2 hcr d hd)) (fun hwr id hid => hc id (n5 hwr id hid))]
      exact h1
    · right
      refine ⟨?_, h2⟩
      obtain ⟨fo, xs, ts, k, first, caps, zs, F, fr, T', e, hvals, hM, hm, q1, q2⟩ := h1
      refine ⟨fo, xs, ts, k, first, caps, zs, F, fr, T', e, by rw [hv]; exact hvals, hM, hm.congr (fun id hid => hgw id (n4 id (by rw [q2]; exact hid))) (fun id hid => hc id (n4 id (by rw [q2]; exact hid))), q1, q2⟩

/-- Its effect comes on top. -/
theorem add_any (hD : DrawOk ops) (hA : ∀ j o, ops[j]? = some o → At P T ops E f0 g0 c0 j o) (hC : Closed ops L) (hR : Ready ops L i o) {L' : Nat → Bool} (h1 : L' i = true) (hne : ∀ j, j ≠ i → L' j = L j) :
    fput (fL ops E f0 L ops.length) o.dst (E i).v = fL ops E f0 L' ops.length ∧ gput (gL E g0 L ops.length) (E i).os = gL E g0 L' ops.length ∧ cput (cL E c0 L ops.length) (E i).ice = cL E c0 L' ops.length := by
  have A := hA i o hR.at_
  have hi : i < ops.length := (List.getElem?_eq_some_iff.1 hR.at_).1
  refine ⟨?_, ?_, ?_⟩
  · funext t
    rw [fput_hit]
    have hf : fhit ops E t i = if o.dst = some t then some (E i).v else none := by unfold fhit; rw [hR.at_]
    have := last_add (hit := fhit ops E t) (s := f0 t) h1 hR.not hne ops.length hi (fun hh j hij hj hLj => by
      rw [hf] at hh
      have hd : o.dst = some t := by
        split at hh
        · assumption
        · exact absurd rfl hh
      obtain ⟨oj, hoj⟩ : ∃ oj, ops[j]? = some oj := ⟨_, List.getElem?_eq_getElem hj⟩
      unfold fhit
      rw [hoj]
      simp only
      rw [if_neg]
      intro hdj
      have := hD.once i j o oj t hR.at_ hoj hd hdj
      omega)
    rw [hf] at this
    show _ = last L' (fhit ops E t) (f0 t) ops.length
    rw [this]
    cases (if o.dst = some t then some (E i).v else none) <;> rfl
  · funext id
    have := last_add (hit := fun j => aget (E j).os id) (s := g0 id) h1 hR.not hne ops.length hi (fun hh j hij hj hLj => by
      refine Decidable.byContradiction fun hjn => ?_
      obtain ⟨oj, hoj⟩ : ∃ oj, ops[j]? = some oj := ⟨_, List.getElem?_eq_getElem hj⟩
      have := side hA hC hR hj (id := id) (.inl ⟨os_wr (hA j oj hoj) (by intro e; rw [e] at hjn; exact hjn rfl), .inr (os_wr A hh)⟩)
      rw [hLj] at this
      simp at this
      omega)
    show _ = last L' (fun j => aget (E j).os id) (g0 id) ops.length
    rw [this]
    unfold gput
    cases aget (E i).os id <;> rfl
  · funext id
    have := anyL_add (p := fun j => lhas (E j).ice id) (s := c0 id) h1 hR.not hne ops.length hi
    show _ = anyL L' _ (c0 id) ops.length
    rw [this]
    rfl

def left (L : Array Bool) : Nat := L.toList.count false
theorem left_set {L : Array Bool} {i : Nat} (h : L.getD i true = false) (hi : i < L.size) : left (L.setIfInBounds i true) + 1 = left L := by
  have hget : L[i] = false := by simpa [hi] using h
  unfold left
  have hc : 0 < List.count false L.toList := List.count_pos_iff.2 (by rw [← hget]; simp)
  have h2 := List.count_set (a := true) (b := false) (l := L.toList) (i := i) (by simpa using hi)
  rw [Array.toList_setIfInBounds, h2]
  have e1 : (L.toList[i]'(by simpa using hi)) = false := by simpa using hget
  rw [e1]
  have e2 : ((false == false) = true) := rfl
  have e3 : ¬ ((true == false) = true) := by decide
  rw [if_pos e2, if_neg e3]
  omega
theorem getD_lt {L : Array Bool} {i : Nat} (h : i < L.size) (d d' : Bool) : L.getD i d = L.getD i d' := by simp [h]
theorem all_ready (hD : DrawOk ops) {L : Array Bool} (hs : L.size = ops.length) (hn : Region.ready .any ops.toArray L = []) : ∀ j, j < ops.length → L.getD j true = true := by
  intro j
  induction j using Nat.strongRecOn with
  | _ j ih =>
    intro hj
    refine Decidable.byContradiction fun h => ?_
    have hm : j ∈ Region.ready .any ops.toArray L := by
      rw [mem_ready]
      refine ⟨by simpa using h, ops[j], by simp [hj], fun e he hb => ?_⟩
      have hlt := hD.back j ops[j] e (List.getElem?_eq_getElem hj) he hb
      rw [getD_lt (by omega) false true]
      exact ih e.on hlt (by omega)
    rw [hn] at hm; cases hm

structure InvA (base : Nat) (M : Two) (W : World) (nt : Nat) (ops : List Oper) (E : Nat → Ev) (f0 : Nat → Option AV) (g0 : Nat → Option Ob) (c0 : Nat → Bool) (L : Array Bool) (a : Act) (w : World) : Prop where
  size : L.size = ops.length
  closed : Closed ops (fun i => L.getD i false)
  sim : SimE base M W nt (fL ops E f0 (fun i => L.getD i false) ops.length) (gL E g0 (fun i => L.getD i false) ops.length) (cL E c0 (fun i => L.getD i false) ops.length) a w

theorem full_same {L : Array Bool} (hs : L.size = ops.length) (h : ∀ j, j < ops.length → L.getD j true = true) :
    fL ops E f0 (fun i => L.getD i false) ops.length = fL ops E f0 allL ops.length ∧ gL E g0 (fun i => L.getD i false) ops.length = gL E g0 allL ops.length ∧ cL E c0 (fun i => L.getD i false) ops.length = cL E c0 allL ops.length := by
  have hj : ∀ j, j < ops.length → L.getD j false = allL j := fun j hj => by rw [getD_lt (by omega) false true]; exact h j hj
  exact ⟨funext fun t => last_agree _ fun j h _ => hj j h, funext fun t => last_agree _ fun j h _ => hj j h, funext fun t => anyL_agree _ fun j h _ => hj j h⟩

theorem any_go (hT : TsOk P T) (hops : ∀ o ∈ ops, OpOk nt o) (hD : DrawOk ops) (hA : ∀ j o, ops[j]? = some o → At P T ops E f0 g0 c0 j o) {Q : Exit → Act → World → Prop}
    (hQ : ∀ a w, SimE base M W nt (fL ops E f0 allL ops.length) (gL E g0 allL ops.length) (cL E c0 allL ops.length) a w → Q .normal a w) :
    ∀ (fuel : Nat) (L : Array Bool) (a : Act) (w : World), left L ≤ fuel → InvA base M W nt ops E f0 g0 c0 L a w → wpAny P .any ops.toArray Q fuel L a w
  | 0, L, a, w, hf, I => by
    have hall : ∀ j, j < ops.length → L.getD j true = true := fun j hj => by
      refine Decidable.byContradiction fun h => ?_
      have hm : false ∈ L.toList := by
        have hjL : j < L.size := by rw [I.size]; exact hj
        have : L[j] = false := by simpa [hjL] using h
        rw [← this]; simp
      have := List.count_pos_iff.2 hm
      unfold left at hf; omega
    obtain ⟨e1, e2, e3⟩ := full_same (E := E) (f0 := f0) (g0 := g0) (c0 := c0) I.size hall
    refine ⟨?_, hQ a w (by have := I.sim; rwa [e1, e2, e3] at this)⟩
    refine List.eq_nil_iff_forall_not_mem.2 fun j hj => ?_
    rw [mem_ready] at hj
    obtain ⟨h1, o, ho, _⟩ := hj
    have hj : j < ops.length := by
      rw [List.getElem?_toArray] at ho
      exact (List.getElem?_eq_some_iff.1 ho).1
    rw [hall j hj] at h1; cases h1
  | fuel + 1, L, a, w, hf, I => by
    refine ⟨fun hn => ?_, fun i hi => ?_⟩
    · obtain ⟨e1, e2, e3⟩ := full_same (E := E) (f0 := f0) (g0 := g0) (c0 := c0) I.size (all_ready hD I.size hn)
      exact hQ a w (by have := I.sim; rwa [e1, e2, e3] at this)
    · rw [mem_ready] at hi
      obtain ⟨hun, o, ho, hed⟩ := hi
      rw [List.getElem?_toArray] at ho
      have hil : i < ops.length := (List.getElem?_eq_some_iff.1 ho).1
      have hiL : i < L.size := by rw [I.size]; exact hil
      have hR : Ready ops (fun i => L.getD i false) i o := ⟨ho, by rw [getD_lt hiL false true]; exact hun, fun e he hb => hed e (Array.mem_toList_iff.1 he) hb⟩
      have hleft := left_set hun hiL
      have h1 : (fun j => (L.setIfInBounds i true).getD j false) i = true := by simp [hiL]
      have hne : ∀ j, j ≠ i → (fun j => (L.setIfInBounds i true).getD j false) j = (fun j => L.getD j false) j := fun j hj => by
        simp only [Array.getD_eq_getD_getElem?, Array.getElem?_setIfInBounds_ne (fun e => hj e.symm)]
      obtain ⟨q1, q2, q3⟩ := add_any hD hA I.closed hR h1 hne
      refine op_go hT I.sim hops ho (ev_any hD hA I.closed hR) fun a' w' hs => any_go hT hops hD hA hQ fuel _ a' w' (by omega) ⟨by simpa using I.size, ?_, ?_⟩
      · intro k ok e hk hL he hb
        by_cases hki : k = i
        · subst hki
          rw [ho] at hk; cases hk
          have := hR.go e (Array.mem_toList_iff.2 he) hb
          by_cases hei : e.on = k
          · rw [hei]; exact h1
          · have := hne e.on hei; simp only at this ⊢; rw [this]; exact hR.go e (Array.mem_toList_iff.2 he) hb
        · have h2 := hne k hki
          simp only at h2 hL
          rw [h2] at hL
          have := I.closed k ok e hk hL he hb
          by_cases hei : e.on = i
          · rw [hei]; exact h1
          · have h3 := hne e.on hei; simp only at h3 ⊢; rw [h3]; exact this
      · rw [q1, q2, q3] at hs
        exact hs

/-! ### a region that chooses -/
theorem evOk_ops {f : Nat → Option AV} {g : Nat → Option Ob} {c : Nat → Bool} {o : Oper} {e : Ev} {ops' : List Oper} (hn : o.guard = none) (h : EvOk P T ops f g c o e) : EvOk P T ops' f g c o e := by
  refine ⟨?_, h.no, h.yes⟩
  have := h.guard
  unfold guardOf at this ⊢
  rw [hn] at this ⊢
  exact this
theorem ready_in {L : Array Bool} {i : Nat} (h : i ∈ Region.ready .any ops.toArray L) : ∃ o, ops[i]? = some o ∧ L.getD i true = false ∧ ∀ j, direct1 o.after.toList j = true → L.getD j false = true := by
  rw [mem_ready] at h
  obtain ⟨h1, o, ho, h2⟩ := h
  rw [List.getElem?_toArray] at ho
  refine ⟨o, ho, h1, fun j hj => ?_⟩
  have : ∀ es : List Edge, direct1 es j = true → ∃ e, e ∈ es ∧ Region.binds .any e = true ∧ e.on = j := by
    intro es
    induction es with
    | nil => intro h; cases h
    | cons x es ih =>
      intro h
      unfold direct1 at h
      split at h
      · rename_i hb
        split at h
        · rename_i he; exact ⟨x, by simp, hb, beq_eq he⟩
        · obtain ⟨e, e1, e2, e3⟩ := ih h; exact ⟨e, by simp [e1], e2, e3⟩
      · obtain ⟨e, e1, e2, e3⟩ := ih h; exact ⟨e, by simp [e1], e2, e3⟩
  obtain ⟨e, e1, e2, e3⟩ := this _ hj
  rw [← e3]
  exact h2 e (Array.mem_toList_iff.1 e1) e2
theorem choice_go {o0 o1 o2 o3 : Oper} (hT : TsOk P T) (hops : ∀ o ∈ [o0, o1, o2, o3], OpOk nt o) (hD : DrawOk [o0, o1, o2, o3])
    (d1 : direct1 o1.after.toList 0 = true) (d2 : direct1 o2.after.toList 0 = true) (d3 : direct1 o3.after.toList 1 = true) (d4 : direct1 o3.after.toList 2 = true) {Q : Exit → Act → World → Prop}
    {f f1 f2 f3 f4 f2' f3' f4' : Nat → Option AV} {g g1 g2 g3 g4 g2' g3' g4' : Nat → Option Ob} {c c1 c2 c3 c4 c2' c3' c4' : Nat → Bool}
    (h0 : ∀ a w K, SimE base M W nt f g c a w → (∀ a w, SimE base M W nt f1 g1 c1 a w → K a w) → wpOp P [o0, o1, o2, o3].toArray Q 0 K a w)
    (h1 : ∀ a w K, SimE base M W nt f1 g1 c1 a w → (∀ a w, SimE base M W nt f2 g2 c2 a w → K a w) → wpOp P [o0, o1, o2, o3].toArray Q 1 K a w)
    (h2 : ∀ a w K, SimE base M W nt f2 g2 c2 a w → (∀ a w, SimE base M W nt f3 g3 c3 a w → K a w) → wpOp P [o0, o1, o2, o3].toArray Q 2 K a w)
    (h3 : ∀ a w K, SimE base M W nt f3 g3 c3 a w → (∀ a w, SimE base M W nt f4 g4 c4 a w → K a w) → wpOp P [o0, o1, o2, o3].toArray Q 3 K a w)
    (h1' : ∀ a w K, SimE base M W nt f1 g1 c1 a w → (∀ a w, SimE base M W nt f2' g2' c2' a w → K a w) → wpOp P [o0, o1, o2, o3].toArray Q 2 K a w)
    (h2' : ∀ a w K, SimE base M W nt f2' g2' c2' a w → (∀ a w, SimE base M W nt f3' g3' c3' a w → K a w) → wpOp P [o0, o1, o2, o3].toArray Q 1 K a w)
    (h3' : ∀ a w K, SimE base M W nt f3' g3' c3' a w → (∀ a w, SimE base M W nt f4' g4' c4' a w → K a w) → wpOp P [o0, o1, o2, o3].toArray Q 3 K a w)
    (hQ : ∀ a w, SimE base M W nt f4 g4 c4 a w → Q .normal a w) (hQ' : ∀ a w, SimE base M W nt f4' g4' c4' a w → Q .normal a w)
    {a : Act} {w : World} (hs : SimE base M W nt f g c a w) : wpAny P .any [o0, o1, o2, o3].toArray Q 4 #[false, false, false, false] a w := by
  have nd : ∀ (L : Array Bool), L.size = 4 → (∃ j, j < 4 ∧ L.getD j true = false) → Region.ready .any [o0, o1, o2, o3].toArray L = [] → False := by
    intro L hL hj hn
    obtain ⟨j, hj1, hj2⟩ := hj
    have := all_ready hD (L := L) hL hn j hj1
    rw [this] at hj2; cases hj2
  have four : ∀ {i : Nat} {o : Oper}, [o0, o1, o2, o3][i]? = some o → (i = 0 ∧ o = o0) ∨ (i = 1 ∧ o = o1) ∨ (i = 2 ∧ o = o2) ∨ (i = 3 ∧ o = o3) := by
    intro i o h
    match i, h with
    | 0, h => cases h; simp
    | 1, h => cases h; simp
    | 2, h => cases h; simp
    | 3, h => cases h; simp
    | i + 4, h => simp at h
  refine ⟨fun hn => (nd _ rfl ⟨0, by omega, rfl⟩ hn).elim, fun i hi => ?_⟩
  obtain ⟨o, ho, hL, hd⟩ := ready_in hi
  rcases four ho with ⟨rfl, rfl⟩ | ⟨rfl, rfl⟩ | ⟨rfl, rfl⟩ | ⟨rfl, rfl⟩
  rotate_left
  · cases hd 0 d1
  · cases hd 0 d2
  · cases hd 1 d3
  refine h0 a w _ hs fun a w hs => ?_
  refine ⟨fun hn => (nd _ rfl ⟨1, by omega, rfl⟩ hn).elim, fun i hi => ?_⟩
  obtain ⟨o, ho, hL, hd⟩ := ready_in hi
  rcases four ho with ⟨rfl, rfl⟩ | ⟨rfl, rfl⟩ | ⟨rfl, rfl⟩ | ⟨rfl, rfl⟩
  · cases hL
  · refine h1 a w _ hs fun a w hs => ?_
    refine ⟨fun hn => (nd _ rfl ⟨2, by omega, rfl⟩ hn).elim, fun i hi => ?_⟩
    obtain ⟨o, ho, hL, hd⟩ := ready_in hi
    rcases four ho with ⟨rfl, rfl⟩ | ⟨rfl, rfl⟩ | ⟨rfl, rfl⟩ | ⟨rfl, rfl⟩
    · cases hL
    · cases hL
    · refine h2 a w _ hs fun a w hs => ?_
      refine ⟨fun hn => (nd _ rfl ⟨3, by omega, rfl⟩ hn).elim, fun i hi => ?_⟩
      obtain ⟨o, ho, hL, hd⟩ := ready_in hi
      rcases four ho with ⟨rfl, rfl⟩ | ⟨rfl, rfl⟩ | ⟨rfl, rfl⟩ | ⟨rfl, rfl⟩
      · cases hL
      · cases hL
      · cases hL
      · refine h3 a w _ hs fun a w hs => ?_
        refine ⟨?_, hQ a w hs⟩
        refine List.eq_nil_iff_forall_not_mem.2 fun i hi => ?_
        obtain ⟨o, ho, hL, hd⟩ := ready_in hi
        rcases four ho with ⟨rfl, rfl⟩ | ⟨rfl, rfl⟩ | ⟨rfl, rfl⟩ | ⟨rfl, rfl⟩ <;> cases hL
    · cases hd 2 d4
  · refine h1' a w _ hs fun a w hs => ?_
    refine ⟨fun hn => (nd _ rfl ⟨1, by omega, rfl⟩ hn).elim, fun i hi => ?_⟩
    obtain ⟨o, ho, hL, hd⟩ := ready_in hi
    rcases four ho with ⟨rfl, rfl⟩ | ⟨rfl, rfl⟩ | ⟨rfl, rfl⟩ | ⟨rfl, rfl⟩
    · cases hL
    · refine h2' a w _ hs fun a w hs => ?_
      refine ⟨fun hn => (nd _ rfl ⟨3, by omega, rfl⟩ hn).elim, fun i hi => ?_⟩
      obtain ⟨o, ho, hL, hd⟩ := ready_in hi
      rcases four ho with ⟨rfl, rfl⟩ | ⟨rfl, rfl⟩ | ⟨rfl, rfl⟩ | ⟨rfl, rfl⟩
      · cases hL
      · cases hL
      · cases hL
      · refine h3' a w _ hs fun a w hs => ?_
        refine ⟨?_, hQ' a w hs⟩
        refine List.eq_nil_iff_forall_not_mem.2 fun i hi => ?_
        obtain ⟨o, ho, hL, hd⟩ := ready_in hi
        rcases four ho with ⟨rfl, rfl⟩ | ⟨rfl, rfl⟩ | ⟨rfl, rfl⟩ | ⟨rfl, rfl⟩ <;> cases hL
    · cases hL
    · cases hd 1 d3
  · cases hd 1 d3

def regOk (nt : Nat) (draw : Bool) (ops : List Oper) : Bool := ops.all (opOk nt) && (!draw || drawOk ops 0 ops)

theorem knowK_path {Q1 : AV → Prop} {v : Nat} {k : St → Tree} {s : St} (hk : KnOk (aget s.slots) s.kn) (h : Sat P Q1 (knowK v k s)) : ∃ s' : St, s'.slots = s.slots ∧ s'.objs = s.objs ∧ s'.ice = s.ice ∧ KnOk (aget s'.slots) s'.kn ∧ Sat P Q1 (k s') := by
  unfold knowK at h
  split at h
  · rename_i b hb
    exact ⟨s.know v b, rfl, rfl, rfl, knOk_know hk hb, h⟩
  · cases h
theorem region_go1 {S : Sums} {Q1 : AV → Prop} (hT : TsOk P T) (hS : SumsOk P S) (hm : P.follows .mixedOrders = true) {draw : Bool} (hB : regOk nt draw ops = true) {id : Nat} {s : St} {a : Act} {w : World} (hs : SimS base M W nt s a w)
    {k : St → Tree} (h : Sat P Q1 (runOps T std S draw ops ops 0 s [] k)) {Q : Exit → Act → World → Prop} (hQ : ∀ s' a' w', SimS base M W nt s' a' w' → Sat P Q1 (k s') → Q .normal a' w') :
    (Code.region id ops.toArray draw).wp P Q a w := by
  unfold regOk at hB
  rw [Bool.and_eq_true, List.all_eq_true] at hB
  have hops : ∀ o ∈ ops, OpOk nt o := fun o ho => opOk_of (hB.1 o ho)
  obtain ⟨es, s', hW, hk', h'⟩ := walk_path hS ops 0 s [] hs.2 h
  cases draw with
  | false =>
    refine wp_region ?_
    have := text_go (base := base) (M := M) (W := W) hT hops (Q := Q) ops 0 _ _ _ _ es _ _ _ a w (fun k => by simp) hW hs.1 fun a' w' hs' => hQ s' a' w' ⟨hs', hk'⟩ h'
    rw [List.range_eq_range']
    simpa using this
  | true =>
    refine wp_region_any hm ?_
    have hD := drawOk_of (by simpa using hB.2 : drawOk ops 0 ops = true)
    obtain ⟨hA, e1, e2, e3⟩ := walk_at (ops := ops) (E := fun j => es.getD j nothing) (f0 := aget s.slots) (g0 := aget s.objs) (c0 := lhas s.ice) ops 0 _ _ _ _ es _ _ _ (fun k => by simp) (fun k e he => by simp [he]) rfl rfl rfl (fun k hk => by omega) hW
    rw [Nat.zero_add] at e1 e2 e3
    have hl : left (Array.replicate ops.length false) ≤ ops.toArray.size := by
      unfold left; simp
    have hsz : ops.toArray.size = ops.length := by simp
    rw [hsz] at hl ⊢
    refine any_go (E := fun j => es.getD j nothing) hT hops hD (fun j o ho => hA j o (by omega) ho) (fun a' w' hs' => hQ s' a' w' ⟨by rw [e1, e2, e3]; exact hs', hk'⟩ h') ops.length _ a _ hl ⟨by simp, ?_, ?_⟩
    · intro k o e hk hL _ _
      have hk : k < ops.length := (List.getElem?_eq_some_iff.1 hk).1
      simp [hk] at hL
    · have z : ∀ j, j < ops.length → (fun i => (Array.replicate ops.length false).getD i false) j = false := fun j hj => by simp [hj]
      have h1 : fL ops (fun j => es.getD j nothing) (aget s.slots) (fun i => (Array.replicate ops.length false).getD i false) ops.length = aget s.slots := by
        funext t
        exact last_none 0 ops.length (fun j _ hj hL => by have := z j hj; simp only at this; rw [this] at hL; cases hL) (by omega)
      have h2 : gL (fun j => es.getD j nothing) (aget s.objs) (fun i => (Array.replicate ops.length false).getD i false) ops.length = aget s.objs := by
        funext t
        exact last_none 0 ops.length (fun j _ hj hL => by have := z j hj; simp only at this; rw [this] at hL; cases hL) (by omega)
      have h3 : cL (fun j => es.getD j nothing) (lhas s.ice) (fun i => (Array.replicate ops.length false).getD i false) ops.length = lhas s.ice := by
        funext t
        exact anyL_none 0 ops.length (fun j _ hj => z j hj) (by omega)
      rw [h1, h2, h3]
      obtain ⟨D, μ, hs⟩ := hs.1
      exact ⟨D, μ, hs.drew⟩
/-- **A region**: what stands behind it is what the executor goes on with. -/
theorem region_go {S : Sums} {Q1 : AV → Prop} (hT : TsOk P T) (hS : SumsOk P S) (hm : P.follows .mixedOrders = true) {draw : Bool} (hB : regOk nt draw ops = true) {id : Nat} {s : St} {a : Act} {w : World} (hs : SimS base M W nt s a w)
    {k : St → Tree} (h : Sat P Q1 (regionT T std S draw ops s k)) {Q : Exit → Act → World → Prop} (hQ : ∀ s' a' w', SimS base M W nt s' a' w' → Sat P Q1 (k s') → Q .normal a' w') :
    (Code.region id ops.toArray draw).wp P Q a w := by
  unfold regionT at h
  split at h
  rotate_left
  · exact region_go1 hT hS hm hB hs h hQ
  rename_i v hch
  cases draw with
  | false => cases hch
  | true =>
    simp only [cond_true] at hch
    unfold choiceV at hch
    split at hch
    rotate_left
    · cases hch
    rename_i o0 o1 o2 o3
    split at hch
    rotate_left
    · cases hch
    split at hch
    rotate_left
    · cases hch
    rename_i d1 d2 d3 d4 hng
    unfold regOk at hB
    rw [Bool.and_eq_true, List.all_eq_true] at hB
    have hops : ∀ o ∈ [o0, o1, o2, o3], OpOk nt o := fun o ho => opOk_of (hB.1 o ho)
    have hD := drawOk_of (by simpa using hB.2 : drawOk [o0, o1, o2, o3] 0 [o0, o1, o2, o3] = true)
    obtain ⟨n0, n1, n2, n3⟩ : o0.guard = none ∧ o1.guard = none ∧ o2.guard = none ∧ o3.guard = none := by
      simp only [noGuard] at hng
      cases e0 : o0.guard <;> cases e1 : o1.guard <;> cases e2 : o2.guard <;> cases e3 : o3.guard <;> simp_all
    obtain ⟨es, s1, hW, hk1, h⟩ := walk_path hS [o0] 0 s [] hs.2 h
    cases h with
    | and hA hB2 =>
      obtain ⟨esA, sA, hWA, hkA, hA⟩ := walk_path hS [o1, o2, o3] 1 s1 [] hk1 hA
      obtain ⟨esB, sB, hWB, hkB, hB2⟩ := walk_path hS [o2, o1, o3] 1 s1 [] hk1 hB2
      obtain ⟨sA', q1, q2, q3, hkA', hA⟩ := knowK_path hkA hA
      obtain ⟨sB', p1, p2, p3, hkB', hB2⟩ := knowK_path hkB hB2
      match es, hW with
      | [e0], ⟨x0, _, w0, w0', w0''⟩ =>
        match esA, hWA with
        | [a1, a2, a3], ⟨xa1, _, xa2, _, xa3, _, wa, wa', wa''⟩ =>
          match esB, hWB with
          | [b1, b2, b3], ⟨xb1, _, xb2, _, xb3, _, wb, wb', wb''⟩ =>
            refine wp_region_any hm ?_
            obtain ⟨D, μ, hs0⟩ := hs.1
            rw [w0, w0', w0''] at xa1 xa2 xa3 xb1 xb2 xb3
            rw [w0] at wa wb
            rw [w0'] at wa' wb'
            rw [w0''] at wa'' wb''
            refine choice_go hT hops hD d1 d2 d3 d4
              (h0 := fun a w K hs hK => op_go hT hs hops rfl x0 hK)
              (h1 := fun a w K hs hK => op_go hT hs hops rfl xa1 hK)
              (h2 := fun a w K hs hK => op_go hT hs hops rfl xa2 hK)
              (h3 := fun a w K hs hK => op_go hT hs hops rfl xa3 hK)
              (h1' := fun a w K hs hK => op_go hT hs hops rfl xb1 hK)
              (h2' := fun a w K hs hK => op_go hT hs hops rfl xb2 hK)
              (h3' := fun a w K hs hK => op_go hT hs hops rfl xb3 hK)
              (hQ := fun a w hs => hQ sA' a w ⟨?_, hkA'⟩ hA) (hQ' := fun a w hs => hQ sB' a w ⟨?_, hkB'⟩ hB2) ⟨D, μ, hs0.drew⟩
            · rw [q1, q2, q3, wa, wa', wa'']; exact hs
            · rw [p1, p2, p3, wb, wb', wb'']; exact hs
end
end Sy
end Go.Proofs.YtckbbcjbbmgmoaaDoor
