/-The symbolic executor: regions, in the order of the text and in any. The symbolic executor: a state that is one of a template's. The symbolic executor: sequences, branches, loops, scopes. The symbolic executor: functions. The symbolic executor: what the leaf operations say, in plain Lean. The symbolic executor: functions that turn blocks of their caller's. The symbolic executor: at this seat's program. Small facts on worlds, strings as lists of bytes, rows of bytes: used by every walk of this seat; no statement of the seat is proved here. What the functions of package word, and the reference's, compute: one contract a function. What the functions of package sum, and the reference's, compute: one contract a function. Chapters 1 and 2: what their functions compute, as summaries for the executor. strings.Index, Count (of one byte), Compare, Join: the kit's contracts as summaries; Cut, Split; a text parted by a byte. strconv.FormatUint at base 10, out of the kit's contracts of its parts. Chapter 1 (word): numbers in decimal. Chapters 1 and 2: CRC of parts, and the examples that each law of these chapters asks first. Chapter 1 (word): Digits, Number, and the document's. Numbers in digits, and back: plain facts.-/
import Derived.Test.YtckbbcjbbmgmoaaGreatDoorM2
import Derived.Deep.LoopGhost
import Derived.IntWalk
import Derived.Test.YtckbbcjbbmgmoaaGreatDoorRows
import Derived.WalkKit
import Derived.WalkSpells
import Derived.WalkLawsBesides
import Derived.Deep.DeepCutAuto
import Derived.Deep.OwnRows
import Derived.Laws.IdiomStrings
import Derived.Lib.Hide
import Derived.Below
import Derived.ChangeSame
import Derived.ScopeJumps
import Derived.ProofKit
import Derived.OpenShut
import Derived.Carry
import Derived.Lib.SmallJoins
import Derived.RegionTactic
import Derived.BigRegion
import Derived.Test.YtckbbcjbbmgmoaaGreatDoorShelf
import Derived.Shelf.Strconv.Itoa3
import Derived.Lib.AppendIntMem
import Derived.Lib.Walk
import Derived.BigCall
import Derived.BigGuard
import Derived.Lib.AtoiErrMem
import Derived.Lib.ParseIntBCases
namespace Go.Proofs.YtckbbcjbbmgmoaaGreatDoor
namespace Sy
open Go Go.RowKit
set_option linter.unusedSimpArgs false
set_option linter.unusedVariables false
set_option linter.unusedSectionVars false

/-! ### the static look -/
def tmpsL : List Operand → List Nat
  | [] => []
  | .tmp t :: r => t :: tmpsL r
  | _ :: r => tmpsL r
def opOk (nt : Nat) (o : Oper) : Bool :=
  (match o.dst with | some d => nblt d nt | none => true) && (opnds o.op).all fun x => match x with | .const v => plainC v | _ => true
def pairOk (i : Nat) (o : Oper) (ts : List Nat) : Nat → List Oper → Bool
  | _, [] => true
  | j, o' :: r => (match o'.dst with
    | none => true
    | some d => (nbeq j i || (match o.dst with | some d' => !nbeq d' d | none => true)) &&
      (!lhas ts d || (nblt j i && direct1 o.after.toList j) || (nblt i j && direct1 o'.after.toList i))) && pairOk i o ts (j + 1) r
def drawOk (ops : List Oper) : Nat → List Oper → Bool
  | _, [] => true
  | i, o :: r => (o.after.toList.all fun e => !Region.binds .any e || nblt e.on i) && (match o.guard with | none => true | some (g, _) => direct1 o.after.toList g) &&
    pairOk i o (tmpsL (opnds o.op)) 0 ops && drawOk ops (i + 1) r

structure OpOk (nt : Nat) (o : Oper) : Prop where
  dst : ∀ d, o.dst = some d → d < nt
  pl : ∀ x ∈ opnds o.op, ∀ v, x = .const v → plainC v = true
theorem opOk_of {nt : Nat} {o : Oper} (h : opOk nt o = true) : OpOk nt o := by
  unfold opOk at h
  simp only [Bool.and_eq_true] at h
  refine ⟨fun d hd => ?_, fun x hx v hv => ?_⟩
  · have h1 := h.1
    rw [hd] at h1
    exact blt_lt h1
  · have h2 := List.all_eq_true.1 h.2 x hx
    rw [hv] at h2
    exact h2
theorem mem_tmpsL {l : List Operand} {t : Nat} (h : Operand.tmp t ∈ l) : t ∈ tmpsL l := by
  induction l with
  | nil => cases h
  | cons x l ih =>
    rcases List.mem_cons.1 h with rfl | h'
    · simp [tmpsL]
    · cases x <;> simp [tmpsL, ih h']
structure DrawOk (ops : List Oper) : Prop where
  back : ∀ (i : Nat) (o : Oper) (e : Edge), ops[i]? = some o → e ∈ o.after → Region.binds .any e = true → e.on < i
  guard : ∀ (i : Nat) (o : Oper) g b, ops[i]? = some o → o.guard = some (g, b) → direct1 o.after.toList g = true
  once : ∀ (i j : Nat) (o o' : Oper) d, ops[i]? = some o → ops[j]? = some o' → o.dst = some d → o'.dst = some d → i = j
  reads : ∀ (i j : Nat) (o o' : Oper) d, ops[i]? = some o → ops[j]? = some o' → o'.dst = some d → Operand.tmp d ∈ opnds o.op →
    (j < i ∧ direct1 o.after.toList j = true) ∨ (i < j ∧ direct1 o'.after.toList i = true)
theorem pairOk_at {i : Nat} {o : Oper} {ts : List Nat} : ∀ (l : List Oper) (j : Nat), pairOk i o ts j l = true → ∀ (k : Nat) (o' : Oper), l[k]? = some o' → ∀ d, o'.dst = some d →
    (nbeq (j + k) i || (match o.dst with | some d' => !nbeq d' d | none => true)) = true ∧ (!lhas ts d || (nblt (j + k) i && direct1 o.after.toList (j + k)) || (nblt i (j + k) && direct1 o'.after.toList i)) = true
  | [], _, _, k, o', hk, _, _ => by simp at hk
  | x :: l, j, h, k, o', hk, d, hd => by
    unfold pairOk at h
    rw [Bool.and_eq_true] at h
    cases k with
    | zero =>
      simp only [List.getElem?_cons_zero, Option.some.injEq] at hk
      subst hk
      have h1 := h.1
      rw [hd] at h1
      simp only [Bool.and_eq_true] at h1
      exact h1
    | succ k =>
      have := pairOk_at l (j + 1) h.2 k o' (by simpa using hk) d hd
      rw [show j + 1 + k = j + (k + 1) by omega] at this
      exact this
theorem drawOk_at {ops : List Oper} : ∀ (l : List Oper) (i : Nat), drawOk ops i l = true → ∀ (k : Nat) (o : Oper), l[k]? = some o →
    ((o.after.toList.all fun e => !Region.binds .any e || nblt e.on (i + k)) && (match o.guard with | none => true | some (g, _) => direct1 o.after.toList g)) = true ∧ pairOk (i + k) o (tmpsL (opnds o.op)) 0 ops = true
  | [], _, _, k, o, hk => by simp at hk
  | x :: l, i, h, k, o, hk => by
    unfold drawOk at h
    rw [Bool.and_eq_true, Bool.and_eq_true] at h
    cases k with
    | zero =>
      simp only [List.getElem?_cons_zero, Option.some.injEq] at hk
      subst hk
      exact ⟨h.1.1, h.1.2⟩
    | succ k =>
      have := drawOk_at l (i + 1) h.2 k o (by simpa using hk)
      rw [show i + 1 + k = i + (k + 1) by omega] at this
      exact this
theorem drawOk_of {ops : List Oper} (h : drawOk ops 0 ops = true) : DrawOk ops := by
  have H := drawOk_at ops 0 h
  simp only [Nat.zero_add] at H
  refine ⟨fun i o e ho he hb => ?_, fun i o g b ho hg => ?_, fun i j o o' d ho ho' hd hd' => ?_, fun i j o o' d ho ho' hd hr => ?_⟩
  · have h1 := (H i o ho).1
    rw [Bool.and_eq_true, List.all_eq_true] at h1
    have h2 := h1.1 e (Array.mem_toList_iff.2 he)
    rw [hb] at h2
    exact blt_lt (by simpa using h2)
  · have h1 := (H i o ho).1
    rw [Bool.and_eq_true] at h1
    have h2 := h1.2
    rw [hg] at h2
    exact h2
  · have h1 := (pairOk_at ops 0 (H i o ho).2 j o' ho' d hd').1
    rw [hd, Nat.zero_add] at h1
    simp only [beq_same, Bool.not_true, Bool.or_false] at h1
    exact (beq_eq h1).symm
  · have h1 := (pairOk_at ops 0 (H i o ho).2 j o' ho' d hd).2
    rw [Nat.zero_add, lhas_mem.2 (mem_tmpsL hr)] at h1
    simp only [Bool.not_true, Bool.false_or, Bool.or_eq_true, Bool.and_eq_true] at h1
    rcases h1 with h1 | h1
    · exact .inl ⟨blt_lt h1.1, h1.2⟩
    · exact .inr ⟨blt_lt h1.1, h1.2⟩

/-! ### one operation, in any state -/
section
variable {P : Program} {T : TT} {base : Nat} {M : Two} {W : World} {nt : Nat} {ops : List Oper}

theorem wanted_of {f : Nat → Option AV} {g : Nat → Option Ob} {c : Nat → Bool} {a : Act} {w : World} {o : Oper} {e : Ev} (hs : SimE base M W nt f g c a w) (hops : ∀ o ∈ ops, OpOk nt o)
    (hg : match guardOf ops o with
      | none => e.want = true
      | some (some t, w) => (∃ b, f t = some (.bool b) ∧ e.want = (b == w)) ∨ (f t = some (.tup []) ∧ e.want = false)
      | some (none, _) => False) : Region.wanted o (yielded ops.toArray a.tmps) = e.want := by
  obtain ⟨D, μ, h⟩ := hs
  unfold Region.wanted
  unfold guardOf at hg
  cases e1 : o.guard with
  | none => rw [e1] at hg; simp only at hg ⊢; exact hg.symm
  | some x =>
    obtain ⟨j, wt⟩ := x
    rw [e1] at hg
    simp only at hg ⊢
    cases e2 : ops[j]? with
    | none => rw [e2] at hg; exact hg.elim
    | some o' =>
      rw [e2] at hg
      simp only at hg
      cases e3 : o'.dst with
      | none => rw [e3] at hg; exact hg.elim
      | some t =>
        rw [e3] at hg
        simp only at hg
        rcases hg with ⟨b, hb, hw⟩ | ⟨hb, hw⟩
        rotate_left
        · have ht : t < a.tmps.size := by rw [h.tmps]; exact (hops o' (List.mem_of_getElem? e2)).dst t e3
          obtain ⟨us, hu, l1, _⟩ := (h.slots t _ hb).inv_tup
          have hus : us = #[] := Array.eq_empty_of_size_eq_zero (by simpa using l1.symm)
          have hx : a.tmps[t]? = some (.tuple #[]) := by
            rw [hus] at hu
            rw [← hu]; simp [ht]
          unfold yielded
          simp only [List.getElem?_toArray, e2, Option.bind_some, e3, hx]
          rw [hw]; cases wt <;> rfl
        have ht : t < a.tmps.size := by rw [h.tmps]; exact (hops o' (List.mem_of_getElem? e2)).dst t e3
        have hr := (h.slots t _ hb).inv_bool
        have hx : a.tmps[t]? = some (.bool b) := by rw [← hr]; simp [ht]
        unfold yielded
        simp only [List.getElem?_toArray, e2, Option.bind_some, e3, hx]
        rw [hw]
        cases b <;> cases wt <;> rfl

theorem op_go {f : Nat → Option AV} {g : Nat → Option Ob} {c : Nat → Bool} {a : Act} {w : World} {o : Oper} {e : Ev} {i : Nat} {Q : Exit → Act → World → Prop} {K : Act → World → Prop} (hT : TsOk P T)
    (hs : SimE base M W nt f g c a w) (hops : ∀ o ∈ ops, OpOk nt o) (ho : ops[i]? = some o) (he : EvOk P T ops f g c o e)
    (hK : ∀ a' w', SimE base M W nt (fput f o.dst e.v) (gput g e.os) (cput c e.ice) a' w' → K a' w') : wpOp P ops.toArray Q i K a w := by
  have hw := wanted_of hs hops he.guard
  have hok := hops o (List.mem_of_getElem? ho)
  obtain ⟨D, μ, h⟩ := hs
  unfold wpOp
  rw [List.getElem?_toArray, ho]
  simp only
  rw [hw]
  cases e1 : e.want with
  | true =>
    rw [if_pos rfl]
    rcases he.yes e1 with h1 | ⟨h1, h2⟩
    · exact .inl (adv_of h1 (says h hok.dst hT hok.pl (fun t b ht => by simp [aget] at ht)) K Q hK)
    · rw [h2] at hK
      exact .inl (adv_M h hok.dst hok.pl h1 K Q hK)
  | false =>
    rw [if_neg (by simp)]
    obtain ⟨h1, h2, h3, _⟩ := he.no e1
    rw [h1, h2, h3] at hK
    exact hK _ _ ⟨D, μ, h.put hok.dst (.tup [] #[] rfl (fun i x v hx => by simp at hx))⟩

/-! ### in the order of the text -/
theorem text_go (hT : TsOk P T) (hops : ∀ o ∈ ops, OpOk nt o) {Q : Exit → Act → World → Prop} {draw : Bool} : ∀ (r : List Oper) (i : Nat) (f : Nat → Option AV) (g : Nat → Option Ob) (c : Nat → Bool) (acc : List (Nat × Ent)) (es : List Ev) (f' : Nat → Option AV) (g' : Nat → Option Ob) (c' : Nat → Bool) (a : Act) (w : World),
    (∀ k, r[k]? = ops[i + k]?) → Walk P T draw ops r i f g c acc es f' g' c' → SimE base M W nt f g c a w → (∀ a' w', SimE base M W nt f' g' c' a' w' → Q .normal a' w') →
    wpOps P ops.toArray Q (List.range' i r.length) a w
  | [], i, f, g, c, acc, es, f', g', c', a, w, hr, hW, hs, hQ => by
    cases es with
    | nil => obtain ⟨rfl, rfl, rfl⟩ := hW; exact hQ a w hs
    | cons _ _ => exact hW.elim
  | o :: r, i, f, g, c, acc, [], f', g', c', a, w, hr, hW, hs, hQ => hW.elim
  | o :: r, i, f, g, c, acc, e :: es, f', g', c', a, w, hr, hW, hs, hQ => by
    have ho : ops[i]? = some o := by have := hr 0; simpa using this.symm
    rw [List.length_cons, List.range'_succ, wpOps_cons]
    exact op_go hT hs hops ho hW.1 fun a' w' hs' => text_go hT hops r (i + 1) _ _ _ _ es f' g' c' a' w' (fun k => by have := hr (k + 1); rw [List.getElem?_cons_succ] at this; rw [this]; congr 1; omega) hW.2.2 hs' hQ

/-! ### in any order -/
def fhit (ops : List Oper) (E : Nat → Ev) (t : Nat) (j : Nat) : Option AV := match ops[j]? with
  | some o => if o.dst = some t then some (E j).v else none
  | none => none
theorem fput_hit (f : Nat → Option AV) (o : Oper) (v : AV) (t : Nat) : fput f o.dst v t = match (if o.dst = some t then some v else none) with | some x => some x | none => f t := by
  unfold fput
  cases e : o.dst with
  | none => simp
  | some d =>
    by_cases h : t = d
    · subst h; simp
    · simp [h]; rw [if_neg (fun h' => h h'.symm)]
section
variable (ops : List Oper) (E : Nat → Ev) (f0 : Nat → Option AV) (g0 : Nat → Option Ob) (c0 : Nat → Bool)
def fL (L : Nat → Bool) (n : Nat) : Nat → Option AV := fun t => last L (fhit ops E t) (f0 t) n
def gL (L : Nat → Bool) (n : Nat) : Nat → Option Ob := fun id => last L (fun j => aget (E j).os id) (g0 id) n
def cL (L : Nat → Bool) (n : Nat) : Nat → Bool := fun id => anyL L (fun j => lhas (E j).ice id) (c0 id) n
end
abbrev allL : Nat → Bool := fun _ => true

variable {E : Nat → Ev} {f0 : Nat → Option AV} {g0 : Nat → Option Ob} {c0 : Nat → Bool}
theorem fL_succ {i : Nat} {o : Oper} (ho : ops[i]? = some o) : fL ops E f0 allL (i + 1) = fput (fL ops E f0 allL i) o.dst (E i).v := by
  funext t
  rw [fput_hit]
  show last allL (fhit ops E t) (f0 t) (i + 1) = _
  rw [last_succ, if_pos rfl]
  have : fhit ops E t i = if o.dst = some t then some (E i).v else none := by unfold fhit; rw [ho]
  rw [this]
  cases (if o.dst = some t then some (E i).v else none) <;> rfl
theorem gL_succ {i : Nat} : gL E g0 allL (i + 1) = gput (gL E g0 allL i) (E i).os := by
  funext id
  show last allL _ (g0 id) (i + 1) = _
  rw [last_succ, if_pos rfl]
  unfold gput
  cases aget (E i).os id <;> rfl
theorem cL_succ {i : Nat} : cL E c0 allL (i + 1) = cput (cL E c0 allL i) (E i).ice := by
  funext id
  show anyL allL _ (c0 id) (i + 1) = _
  rw [anyL_succ]
  rfl

def noted (E : Nat → Ev) (acc : List (Nat × Ent)) (i : Nat) : Prop := ∀ k, k < i → (E k).ent = ⟨[], []⟩ ∨ (k, (E k).ent) ∈ acc
theorem noted_step {acc : List (Nat × Ent)} {i : Nat} (h : noted E acc i) (hno : (E i).want = false → (E i).ent = ⟨[], []⟩) : noted E (note2 acc i (E i)) (i + 1) := by
  intro k hk
  unfold note2
  by_cases hi : k = i
  · subst hi
    cases hw : (E k).want with
    | false => exact .inl (hno hw)
    | true =>
      rw [if_pos rfl]
      unfold noteOf
      generalize (E k).ent = x
      obtain ⟨a, b⟩ := x
      cases a with
      | nil => cases b with
        | nil => exact .inl rfl
        | cons _ _ => exact .inr (by simp)
      | cons _ _ => exact .inr (by simp)
  · rcases h k (by omega) with h | h
    · exact .inl h
    · refine .inr ?_
      split
      · unfold noteOf
        split
        · split
          · exact h
          · exact List.mem_cons_of_mem _ h
        · exact List.mem_cons_of_mem _ h
      · exact h

/-- What the walk says of each operation, in the states of the text. -/
structure At (P : Program) (T : TT) (ops : List Oper) (E : Nat → Ev) (f0 : Nat → Option AV) (g0 : Nat → Option Ob) (c0 : Nat → Bool) (j : Nat) (o : Oper) : Prop where
  ev : EvOk P T ops (fL ops E f0 allL j) (gL E g0 allL j) (cL E c0 allL j) o (E j)
  ent : EntOk (fL ops E f0 allL j) o (E j)
  ord : ∃ acc, noted E acc j ∧ OrdOk ops o (E j) acc

theorem walk_at : ∀ (r : List Oper) (i : Nat) (f : Nat → Option AV) (g : Nat → Option Ob) (c : Nat → Bool) (acc : List (Nat × Ent)) (es : List Ev) (f' : Nat → Option AV) (g' : Nat → Option Ob) (c' : Nat → Bool),
    (∀ k, r[k]? = ops[i + k]?) → (∀ k e, es[k]? = some e → E (i + k) = e) → f = fL ops E f0 allL i → g = gL E g0 allL i → c = cL E c0 allL i → noted E acc i → Walk P T true ops r i f g c acc es f' g' c' →
    (∀ j o, i ≤ j → ops[j]? = some o → At P T ops E f0 g0 c0 j o) ∧ f' = fL ops E f0 allL (i + r.length) ∧ g' = gL E g0 allL (i + r.length) ∧ c' = cL E c0 allL (i + r.length)
  | [], i, f, g, c, acc, es, f', g', c', hr, hE, ef, eg, ec, hn, hW => by
    cases es with
    | nil =>
      obtain ⟨rfl, rfl, rfl⟩ := hW
      refine ⟨fun j o hj ho => ?_, ef, eg, ec⟩
      have := hr (j - i)
      rw [show i + (j - i) = j by omega, ho] at this
      simp at this
    | cons _ _ => exact hW.elim
  | o :: r, i, f, g, c, acc, [], f', g', c', hr, hE, ef, eg, ec, hn, hW => hW.elim
  | o :: r, i, f, g, c, acc, e :: es, f', g', c', hr, hE, ef, eg, ec, hn, hW => by
    have ho : ops[i]? = some o := by have := hr 0; simpa using this.symm
    obtain ⟨h1, h2, h3⟩ := hW
    obtain ⟨h2, h2'⟩ := h2 rfl
    have hEi : E i = e := hE 0 e rfl
    rw [if_pos rfl] at h3
    have ih := walk_at r (i + 1) _ _ _ _ es f' g' c' (fun k => by have := hr (k + 1); rw [List.getElem?_cons_succ] at this; rw [this]; congr 1; omega) (fun k x hx => by rw [show i + 1 + k = i + (k + 1) by omega]; exact hE (k + 1) x (by simpa using hx))
      (by rw [fL_succ ho, hEi, ef]) (by rw [gL_succ, hEi, eg]) (by rw [cL_succ, hEi, ec]) (by rw [← hEi]; exact noted_step hn (by rw [hEi]; exact fun hw => (h1.no hw).2.2.2)) h3
    obtain ⟨i1, i2, i3, i4⟩ := ih
    rw [show i + 1 + r.length = i + (o :: r).length by simp; omega] at i2 i3 i4
    refine ⟨fun j o' hj ho' => ?_, i2, i3, i4⟩
    by_cases e1 : j = i
    · subst e1
      rw [ho] at ho'
      cases ho'
      subst hEi; subst ef; subst eg; subst ec
      exact ⟨h1, h2, acc, hn, h2'⟩
    · exact i1 j o' (by omega) ho'

theorem meets_mem {xs ys : List Nat} {id : Nat} (h1 : id ∈ xs) (h2 : id ∈ ys) : meets xs ys = true := by
  induction xs with
  | nil => cases h1
  | cons x xs ih =>
    unfold meets
    rcases List.mem_cons.1 h1 with rfl | h1
    · rw [lhas_mem.2 h2]
    · split
      · rfl
      · exact ih h1
theorem clash_1 {a b : Ent} {id : Nat} (h1 : id ∈ a.wr) (h2 : id ∈ b.ids ∨ id ∈ b.wr) : clash a b = true := by
  unfold clash
  rw [meets_mem h1 (by rw [lapp_eq, List.mem_append]; exact h2)]
theorem clash_2 {a b : Ent} {id : Nat} (h1 : id ∈ b.wr) (h2 : id ∈ a.ids) : clash a b = true := by
  unfold clash
  split
  · rfl
  · exact meets_mem h1 h2
theorem orderly_mem {es : List Edge} {x : Ent} {acc : List (Nat × Ent)} (h : orderly ops es x acc = true) {k : Nat} {y : Ent} (hm : (k, y) ∈ acc) (hc : clash x y = true) : ahead ops 4 es k = true := by
  induction acc with
  | nil => cases hm
  | cons z acc ih =>
    obtain ⟨j, z⟩ := z
    unfold orderly at h
    rcases List.mem_cons.1 hm with e | hm
    · cases e
      rw [hc] at h
      simp only at h
      split at h
      · assumption
      · cases h
    · refine ih ?_ hm
      split at h
      · split at h
        · exact h
        · cases h
      · exact h

/-- The operations that are through: none before those it waits for. -/
def Closed (ops : List Oper) (L : Nat → Bool) : Prop := ∀ (k : Nat) (o : Oper) (e : Edge), ops[k]? = some o → L k = true → e ∈ o.after → Region.binds .any e = true → L e.on = true
theorem direct_in {L : Nat → Bool} {es : List Edge} {j : Nat} (h : ∀ e ∈ es, Region.binds .any e = true → L e.on = true) (hd : direct1 es j = true) : L j = true := by
  induction es with
  | nil => simp [direct1] at hd
  | cons e es ih =>
    have ih := ih fun x hx => h x (by simp [hx])
    unfold direct1 at hd
    split at hd
    · rename_i hb
      split at hd
      · rename_i he
        rw [← beq_eq he]; exact h e (by simp) hb
      · exact ih hd
    · exact ih hd
theorem ahead_in {L : Nat → Bool} (hc : Closed ops L) {j : Nat} : ∀ (n : Nat) (es : List Edge), (∀ e ∈ es, Region.binds .any e = true → L e.on = true) → ahead ops n es j = true → L j = true
  | 0, es, h, hd => direct_in h hd
  | n + 1, es, h, hd => by
    unfold ahead at hd
    split at hd
    · rename_i h'; exact direct_in h h'
    · rw [List.any_eq_true] at hd
      obtain ⟨e, he, hd⟩ := hd
      split at hd
      · rename_i hb
        split at hd
        · cases hd
        · split at hd
          · rename_i o ho
            exact ahead_in hc n o.after.toList (fun x hx hxb => hc e.on o x ho (h e he hb) (Array.mem_toList_iff.1 hx) hxb) hd
          · cases hd
      · cases hd

structure Ready (ops : List Oper) (L : Nat → Bool) (i : Nat) (o : Oper) : Prop where
  at_ : ops[i]? = some o
  not : L i = false
  go : ∀ e ∈ o.after.toList, Region.binds .any e = true → L e.on = true

variable {L : Nat → Bool} {i : Nat} {o : Oper}
theorem ent_no (h : At P T ops E f0 g0 c0 i o) {id : Nat} (hid : id ∈ (E i).ent.ids ∨ id ∈ (E i).ent.wr) : (E i).want = true := by
  cases hw : (E i).want with
  | true => rfl
  | false =>
    have := (h.ev.no hw).2.2.2
    rw [this] at hid
    simp at hid
/-- Of two that clash the later waits for the earlier. -/
theorem order_of (hA : ∀ j o, ops[j]? = some o → At P T ops E f0 g0 c0 j o) {j k : Nat} {o : Oper} (ho : ops[k]? = some o) (hjk : j < k) {id : Nat} (h : (id ∈ (E k).ent.wr ∧ (id ∈ (E j).ent.ids ∨ id ∈ (E j).ent.wr)) ∨ (id ∈ (E j).ent.wr ∧ id ∈ (E k).ent.ids)) : ahead ops 4 o.after.toList j = true := by
  have A := hA k o ho
  have hw : (E k).want = true := ent_no A (id := id) (by rcases h with h | h; exact .inr h.1; exact .inl h.2)
  obtain ⟨acc, hn, ho'⟩ := A.ord
  have hor := ho' hw
  have hcl : clash (E k).ent (E j).ent = true := by
    rcases h with h | h
    · exact clash_1 h.1 h.2
    · exact clash_2 h.1 h.2
  rcases hn j hjk with h0 | h0
  · rw [h0] at h; simp at h
  · exact orderly_mem hor h0 hcl
theorem side (hA : ∀ j o, ops[j]? = some o → At P T ops E f0 g0 c0 j o) (hC : Closed ops L) (hR : Ready ops L i o) {j : Nat} (hj : j < ops.length) {id : Nat}
    (h : (id ∈ (E j).ent.wr ∧ (id ∈ (E i).ent.ids ∨ id ∈ (E i).ent.wr)) ∨ (id ∈ (E i).ent.wr ∧ id ∈ (E j).ent.ids)) : L j = decide (j < i) := by
  obtain ⟨oj, hoj⟩ : ∃ oj, ops[j]? = some oj := ⟨_, List.getElem?_eq_getElem hj⟩
  rcases Nat.lt_trichotomy j i with hlt | heq | hgt
  · have := order_of hA hR.at_ hlt (id := id) (by
      rcases h with ⟨h1, h2 | h2⟩ | ⟨h1, h2⟩
      · exact .inr ⟨h1, h2⟩
      · exact .inl ⟨h2, .inr h1⟩
      · exact .inl ⟨h1, .inl h2⟩)
    rw [ahead_in hC 4 _ hR.go this]; simp [hlt]
  · subst heq
    rw [hR.not]; simp
  · have := order_of hA hoj hgt (id := id) (by
      rcases h with ⟨h1, h2 | h2⟩ | ⟨h1, h2⟩
      · exact .inl ⟨h1, .inl h2⟩
      · exact .inl ⟨h1, .inr h2⟩
      · exact .inr ⟨h1, h2⟩)
    have hn : L j = false := by
      cases hL : L j with
      | false => rfl
      | true =>
        have h2 := ahead_in hC 4 _ (fun e he hb => hC j oj e hoj hL (Array.mem_toList_iff.1 he) hb) this
        rw [hR.not] at h2; cases h2
    rw [hn]; simp; omega
theorem f_same (hD : DrawOk ops) (hC : Closed ops L) (hR : Ready ops L i o) {t : Nat} (ht : Operand.tmp t ∈ opnds o.op ∨ ∃ g b og, o.guard = some (g, b) ∧ ops[g]? = some og ∧ og.dst = some t) : fL ops E f0 L ops.length t = fL ops E f0 allL i t := by
  have hi : i < ops.length := (List.getElem?_eq_some_iff.1 hR.at_).1
  show last L (fhit ops E t) (f0 t) ops.length = last allL (fhit ops E t) (f0 t) i
  rw [← last_full i ops.length (by omega)]
  refine last_agree _ fun j hj hh => ?_
  obtain ⟨oj, hoj⟩ : ∃ oj, ops[j]? = some oj := ⟨_, List.getElem?_eq_getElem hj⟩
  have hdj : oj.dst = some t := by
    unfold fhit at hh
    rw [hoj] at hh
    simp only at hh
    split at hh
    · assumption
    · exact absurd rfl hh
  rcases ht with ht | ⟨g, b, og, h1, h2, h3⟩
  · rcases hD.reads i j o oj t hR.at_ hoj hdj ht with h | h
    · rw [direct_in hR.go h.2]; simp [h.1]
    · have hn : L j = false := by
        cases hL : L j with
        | false => rfl
        | true =>
          have h2 := direct_in (fun e he hb => hC j oj e hoj hL (Array.mem_toList_iff.1 he) hb) h.2
          rw [hR.not] at h2; cases h2
      rw [hn]; simp; omega
  · have := hD.once j g oj og t hoj h2 hdj h3
    subst this
    have hd := hD.guard i o j b hR.at_ h1
    rw [direct_in hR.go hd]
    have : j < i := by
      have key : ∀ es : List Edge, (∀ e ∈ es, Region.binds .any e = true → e.on < i) → direct1 es j = true → j < i := by
        intro es
        induction es with
        | nil => intro _ h; simp [direct1] at h
        | cons e es ih =>
          intro h hd
          have ih := ih fun x hx => h x (by simp [hx])
          unfold direct1 at hd
          split at hd
          · rename_i hb
            split at hd
            · rename_i he; rw [← beq_eq he]; exact h e (by simp) hb
            · exact ih hd
          · exact ih hd
      exact key _ (fun e he hb => hD.back i o e hR.at_ (Array.mem_toList_iff.1 he) hb) hd
    simp [this]

theorem keys_mem {α : Type} {l : List (Nat × α)} {id : Nat} (h : aget l id ≠ none) : id ∈ keys l := by
  induction l with
  | nil => simp [aget] at h
  | cons x l ih =>
    obtain ⟨k, v⟩ := x
    unfold aget at h
    unfold keys
    cases e : nbeq k id with
    | true => simp [beq_eq e]
    | false => rw [e] at h; simp [ih h]
theorem os_wr (h : At P T ops E f0 g0 c0 i o) {id : Nat} (hh : aget (E i).os id ≠ none) : id ∈ (E i).ent.wr := by
  cases hw : (E i).want with
  | true => exact (h.ent hw).2.2.2.1 id (keys_mem hh)
  | false => rw [(h.ev.no hw).2.1] at hh; simp [aget] at hh
theorem ice_ids (h : At P T ops E f0 g0 c0 i o) {id : Nat} (hh : lhas (E i).ice id = true) : id ∈ (E i).ent.ids := by
  cases hw : (E i).want with
  | true => exact (h.ent hw).2.2.1 id (lhas_mem.1 hh)
  | false => rw [(h.ev.no hw).2.2.1] at hh; simp [lhas] at hh

/-- The operation finds what it found in the text's order. -/
theorem ev_any (hD : DrawOk ops) (hA : ∀ j o, ops[j]? = some o → At P T ops E f0 g0 c0 j o) (hC : Closed ops L) (hR : Ready ops L i o) :
    EvOk P T ops (fL ops E f0 L ops.length) (gL E g0 L ops.length) (cL E c0 L ops.length) o (E i) := by
  have A := hA i o hR.at_
  have hi : i < ops.length := (List.getElem?_eq_some_iff.1 hR.at_).1
  refine ⟨?_, A.ev.no, fun hw => ?_⟩
  · have hg := A.ev.guard
    unfold guardOf at hg ⊢
    cases e1 : o.guard with
    | none => rw [e1] at hg; exact hg
    | some x =>
      obtain ⟨j, b⟩ := x
      rw [e1] at hg
      simp only at hg ⊢
      cases e2 : ops[j]? with
      | none => rw [e2] at hg; exact hg
      | some o' =>
        rw [e2] at hg
        simp only at hg ⊢
        cases e3 : o'.dst with
        | none => rw [e3] at hg; exact hg
        | some t =>
          rw [e3] at hg
          simp only at hg ⊢
          rw [f_same hD hC hR (.inr ⟨j, b, o', e1, e2, e3⟩)]
          exact hg
  · have h1 := A.ev.yes hw
    obtain ⟨n1, n2, n3, n4, n5⟩ := A.ent hw
    have hv : lmap (evf (fL ops E f0 L ops.length) []) (opnds o.op) = lmap (evf (fL ops E f0 allL i) []) (opnds o.op) := by
      refine lmap_congr fun x hx => ?_
      cases x with
      | tmp t => simp only [evf, aget]; rw [f_same hD hC hR (.inl hx)]
      | _ => rfl
    have hg : ∀ id, id ∈ (E i).ent.ids → gL E g0 L ops.length id = gL E g0 allL i id := by
      intro id hid
      show last L _ (g0 id) ops.length = last allL _ (g0 id) i
      rw [← last_full i ops.length (by omega)]
      refine last_agree _ fun j hj hh => ?_
      obtain ⟨oj, hoj⟩ : ∃ oj, ops[j]? = some oj := ⟨_, List.getElem?_eq_getElem hj⟩
      exact side hA hC hR hj (id := id) (.inl ⟨os_wr (hA j oj hoj) hh, .inl hid⟩)
    have hgw : ∀ id, id ∈ (E i).ent.wr → gL E g0 L ops.length id = gL E g0 allL i id := by
      intro id hid
      show last L _ (g0 id) ops.length = last allL _ (g0 id) i
      rw [← last_full i ops.length (by omega)]
      refine last_agree _ fun j hj hh => ?_
      obtain ⟨oj, hoj⟩ : ∃ oj, ops[j]? = some oj := ⟨_, List.getElem?_eq_getElem hj⟩
      exact side hA hC hR hj (id := id) (.inl ⟨os_wr (hA j oj hoj) hh, .inr hid⟩)
    have hc : ∀ id, id ∈ (E i).ent.wr → cL E c0 L ops.length id = cL E c0 allL i id := by
      intro id hid
      show anyL L _ (c0 id) ops.length = anyL allL _ (c0 id) i
      rw [← anyL_full i ops.length (by omega)]
      refine anyL_agree _ fun j hj hh => ?_
      obtain ⟨oj, hoj⟩ : ∃ oj, ops[j]? = some oj := ⟨_, List.getElem?_eq_getElem hj⟩
      exact side hA hC hR hj (id := id) (.inr ⟨hid, ice_ids (hA j oj hoj) hh⟩)
    rcases h1 with h1 | ⟨h1, h2⟩
    · left
      rw [stepV_congr (f' := fL ops E f0 allL i) (g' := gL E g0 allL i) (c' := cL E c0 allL i) (kn' := []) hv (fun id hid => hg id (n1 id hid)) (fun hcr d hd => hg d (n2 hcr d hd)) (fun hwr id hid => hc id (n5 hwr id hid))]
      exact h1
    · right
      refine ⟨?_, h2⟩
      obtain ⟨fo, xs, ts, k, first, caps, zs, F, fr, T', e, hvals, hM, hm, q1, q2⟩ := h1
      refine ⟨fo, xs, ts, k, first, caps, zs, F, fr, T', e, by rw [hv]; exact hvals, hM, hm.congr (fun id hid => hgw id (n4 id (by rw [q2]; exact hid))) (fun id hid => hc id (n4 id (by rw [q2]; exact hid))), q1, q2⟩

/-- Its effect comes on top. -/
theorem add_any (hD : DrawOk ops) (hA : ∀ j o, ops[j]? = some o → At P T ops E f0 g0 c0 j o) (hC : Closed ops L) (hR : Ready ops L i o) {L' : Nat → Bool} (h1 : L' i = true) (hne : ∀ j, j ≠ i → L' j = L j) :
    fput (fL ops E f0 L ops.length) o.dst (E i).v = fL ops E f0 L' ops.length ∧ gput (gL E g0 L ops.length) (E i).os = gL E g0 L' ops.length ∧ cput (cL E c0 L ops.length) (E i).ice = cL E c0 L' ops.length := by
  have A := hA i o hR.at_
  have hi : i < ops.length := (List.getElem?_eq_some_iff.1 hR.at_).1
  refine ⟨?_, ?_, ?_⟩
  · funext t
    rw [fput_hit]
    have hf : fhit ops E t i = if o.dst = some t then some (E i).v else none := by unfold fhit; rw [hR.at_]
    have := last_add (hit := fhit ops E t) (s := f0 t) h1 hR.not hne ops.length hi (fun hh j hij hj hLj => by
      rw [hf] at hh
      have hd : o.dst = some t := by
        split at hh
        · assumption
        · exact absurd rfl hh
      obtain ⟨oj, hoj⟩ : ∃ oj, ops[j]? = some oj := ⟨_, List.getElem?_eq_getElem hj⟩
      unfold fhit
      rw [hoj]
      simp only
      rw [if_neg]
      intro hdj
      have := hD.once i j o oj t hR.at_ hoj hd hdj
      omega)
    rw [hf] at this
    show _ = last L' (fhit ops E t) (f0 t) ops.length
    rw [this]
    cases (if o.dst = some t then some (E i).v else none) <;> rfl
  · funext id
    have := last_add (hit := fun j => aget (E j).os id) (s := g0 id) h1 hR.not hne ops.length hi (fun hh j hij hj hLj => by
      refine Decidable.byContradiction fun hjn => ?_
      obtain ⟨oj, hoj⟩ : ∃ oj, ops[j]? = some oj := ⟨_, List.getElem?_eq_getElem hj⟩
      have := side hA hC hR hj (id := id) (.inl ⟨os_wr (hA j oj hoj) (by intro e; rw [e] at hjn; exact hjn rfl), .inr (os_wr A hh)⟩)
      rw [hLj] at this
      simp at this
      omega)
    show _ = last L' (fun j => aget (E j).os id) (g0 id) ops.length
    rw [this]
    unfold gput
    cases aget (E i).os id <;> rfl
  · funext id
    have := anyL_add (p := fun j => lhas (E j).ice id) (s := c0 id) h1 hR.not hne ops.length hi
    show _ = anyL L' _ (c0 id) ops.length
    rw [this]
    rfl

def left (L : Array Bool) : Nat := L.toList.count false
theorem left_set {L : Array Bool} {i : Nat} (h : L.getD i true = false) (hi : i < L.size) : left (L.setIfInBounds i true) + 1 = left L := by
  have hget : L[i] = false := by simpa [hi] using h
  unfold left
  have hc : 0 < List.count false L.toList := List.count_pos_iff.2 (by rw [← hget]; simp)
  have h2 := List.count_set (a := true) (b := false) (l := L.toList) (i := i) (by simpa using hi)
  rw [Array.toList_setIfInBounds, h2]
  have e1 : (L.toList[i]'(by simpa using hi)) = false := by simpa using hget
  rw [e1]
  have e2 : ((false == false) = true) := rfl
  have e3 : ¬ ((true == false) = true) := by decide
  rw [if_pos e2, if_neg e3]
  omega
theorem getD_lt {L : Array Bool} {i : Nat} (h : i < L.size) (d d' : Bool) : L.getD i d = L.getD i d' := by simp [h]
theorem all_ready (hD : DrawOk ops) {L : Array Bool} (hs : L.size = ops.length) (hn : Region.ready .any ops.toArray L = []) : ∀ j, j < ops.length → L.getD j true = true := by
  intro j
  induction j using Nat.strongRecOn with
  | _ j ih =>
    intro hj
    refine Decidable.byContradiction fun h => ?_
    have hm : j ∈ Region.ready .any ops.toArray L := by
      rw [mem_ready]
      refine ⟨by simpa using h, ops[j], by simp [hj], fun e he hb => ?_⟩
      have hlt := hD.back j ops[j] e (List.getElem?_eq_getElem hj) he hb
      rw [getD_lt (by omega) false true]
      exact ih e.on hlt (by omega)
    rw [hn] at hm; cases hm

structure InvA (base : Nat) (M : Two) (W : World) (nt : Nat) (ops : List Oper) (E : Nat → Ev) (f0 : Nat → Option AV) (g0 : Nat → Option Ob) (c0 : Nat → Bool) (L : Array Bool) (a : Act) (w : World) : Prop where
  size : L.size = ops.length
  closed : Closed ops (fun i => L.getD i false)
  sim : SimE base M W nt (fL ops E f0 (fun i => L.getD i false) ops.length) (gL E g0 (fun i => L.getD i false) ops.length) (cL E c0 (fun i => L.getD i false) ops.length) a w

theorem full_same {L : Array Bool} (hs : L.size = ops.length) (h : ∀ j, j < ops.length → L.getD j true = true) :
    fL ops E f0 (fun i => L.getD i false) ops.length = fL ops E f0 allL ops.length ∧ gL E g0 (fun i => L.getD i false) ops.length = gL E g0 allL ops.length ∧ cL E c0 (fun i => L.getD i false) ops.length = cL E c0 allL ops.length := by
  have hj : ∀ j, j < ops.length → L.getD j false = allL j := fun j hj => by rw [getD_lt (by omega) false true]; exact h j hj
  exact ⟨funext fun t => last_agree _ fun j h _ => hj j h, funext fun t => last_agree _ fun j h _ => hj j h, funext fun t => anyL_agree _ fun j h _ => hj j h⟩

theorem any_go (hT : TsOk P T) (hops : ∀ o ∈ ops, OpOk nt o) (hD : DrawOk ops) (hA : ∀ j o, ops[j]? = some o → At P T ops E f0 g0 c0 j o) {Q : Exit → Act → World → Prop}
    (hQ : ∀ a w, SimE base M W nt (fL ops E f0 allL ops.length) (gL E g0 allL ops.length) (cL E c0 allL ops.length) a w → Q .normal a w) :
    ∀ (fuel : Nat) (L : Array Bool) (a : Act) (w : World), left L ≤ fuel → InvA base M W nt ops E f0 g0 c0 L a w → wpAny P .any ops.toArray Q fuel L a w
  | 0, L, a, w, hf, I => by
    have hall : ∀ j, j < ops.length → L.getD j true = true := fun j hj => by
      refine Decidable.byContradiction fun h => ?_
      have hm : false ∈ L.toList := by
        have hjL : j < L.size := by rw [I.size]; exact hj
        have : L[j] = false := by simpa [hjL] using h
        rw [← this]; simp
      have := List.count_pos_iff.2 hm
      unfold left at hf; omega
    obtain ⟨e1, e2, e3⟩ := full_same (E := E) (f0 := f0) (g0 := g0) (c0 := c0) I.size hall
    refine ⟨?_, hQ a w (by have := I.sim; rwa [e1, e2, e3] at this)⟩
    refine List.eq_nil_iff_forall_not_mem.2 fun j hj => ?_
    rw [mem_ready] at hj
    obtain ⟨h1, o, ho, _⟩ := hj
    have hj : j < ops.length := by
      rw [List.getElem?_toArray] at ho
      exact (List.getElem?_eq_some_iff.1 ho).1
    rw [hall j hj] at h1; cases h1
  | fuel + 1, L, a, w, hf, I => by
    refine ⟨fun hn => ?_, fun i hi => ?_⟩
    · obtain ⟨e1, e2, e3⟩ := full_same (E := E) (f0 := f0) (g0 := g0) (c0 := c0) I.size (all_ready hD I.size hn)
      exact hQ a w (by have := I.sim; rwa [e1, e2, e3] at this)
    · rw [mem_ready] at hi
      obtain ⟨hun, o, ho, hed⟩ := hi
      rw [List.getElem?_toArray] at ho
      have hil : i < ops.length := (List.getElem?_eq_some_iff.1 ho).1
      have hiL : i < L.size := by rw [I.size]; exact hil
      have hR : Ready ops (fun i => L.getD i false) i o := ⟨ho, by rw [getD_lt hiL false true]; exact hun, fun e he hb => hed e (Array.mem_toList_iff.1 he) hb⟩
      have hleft := left_set hun hiL
      have h1 : (fun j => (L.setIfInBounds i true).getD j false) i = true := by simp [hiL]
      have hne : ∀ j, j ≠ i → (fun j => (L.setIfInBounds i true).getD j false) j = (fun j => L.getD j false) j := fun j hj => by
        simp only [Array.getD_eq_getD_getElem?, Array.getElem?_setIfInBounds_ne (fun e => hj e.symm)]
      obtain ⟨q1, q2, q3⟩ := add_any hD hA I.closed hR h1 hne
      refine op_go hT I.sim hops ho (ev_any hD hA I.closed hR) fun a' w' hs => any_go hT hops hD hA hQ fuel _ a' w' (by omega) ⟨by simpa using I.size, ?_, ?_⟩
      · intro k ok e hk hL he hb
        by_cases hki : k = i
        · subst hki
          rw [ho] at hk; cases hk
          have := hR.go e (Array.mem_toList_iff.2 he) hb
          by_cases hei : e.on = k
          · rw [hei]; exact h1
          · have := hne e.on hei; simp only at this ⊢; rw [this]; exact hR.go e (Array.mem_toList_iff.2 he) hb
        · have h2 := hne k hki
          simp only at h2 hL
          rw [h2] at hL
          have := I.closed k ok e hk hL he hb
          by_cases hei : e.on = i
          · rw [hei]; exact h1
          · have h3 := hne e.on hei; simp only at h3 ⊢; rw [h3]; exact this
      · rw [q1, q2, q3] at hs
        exact hs

/-! ### a region that chooses -/
theorem ready_in {L : Array Bool} {i : Nat} (h : i ∈ Region.ready .any ops.toArray L) : ∃ o, ops[i]? = some o ∧ L.getD i true = false ∧ ∀ j, direct1 o.after.toList j = true → L.getD j false = true := by
  rw [mem_ready] at h
  obtain ⟨h1, o, ho, h2⟩ := h
  rw [List.getElem?_toArray] at ho
  refine ⟨o, ho, h1, fun j hj => ?_⟩
  have : ∀ es : List Edge, direct1 es j = true → ∃ e, e ∈ es ∧ Region.binds .any e = true ∧ e.on = j := by
    intro es
    induction es with
    | nil => intro h; cases h
    | cons x es ih =>
      intro h
      unfold direct1 at h
      split at h
      · rename_i hb
        split at h
        · rename_i he; exact ⟨x, by simp, hb, beq_eq he⟩
        · obtain ⟨e, e1, e2, e3⟩ := ih h; exact ⟨e, by simp [e1], e2, e3⟩
      · obtain ⟨e, e1, e2, e3⟩ := ih h; exact ⟨e, by simp [e1], e2, e3⟩
  obtain ⟨e, e1, e2, e3⟩ := this _ hj
  rw [← e3]
  exact h2 e (Array.mem_toList_iff.1 e1) e2
theorem choice_go {o0 o1 o2 o3 : Oper} (hT : TsOk P T) (hops : ∀ o ∈ [o0, o1, o2, o3], OpOk nt o) (hD : DrawOk [o0, o1, o2, o3])
    (d1 : direct1 o1.after.toList 0 = true) (d2 : direct1 o2.after.toList 0 = true) (d3 : direct1 o3.after.toList 1 = true) (d4 : direct1 o3.after.toList 2 = true) {Q : Exit → Act → World → Prop}
    {f f1 f2 f3 f4 f2' f3' f4' : Nat → Option AV} {g g1 g2 g3 g4 g2' g3' g4' : Nat → Option Ob} {c c1 c2 c3 c4 c2' c3' c4' : Nat → Bool}
    (h0 : ∀ a w K, SimE base M W nt f g c a w → (∀ a w, SimE base M W nt f1 g1 c1 a w → K a w) → wpOp P [o0, o1, o2, o3].toArray Q 0 K a w)
    (h1 : ∀ a w K, SimE base M W nt f1 g1 c1 a w → (∀ a w, SimE base M W nt f2 g2 c2 a w → K a w) → wpOp P [o0, o1, o2, o3].toArray Q 1 K a w)
    (h2 : ∀ a w K, SimE base M W nt f2 g2 c2 a w → (∀ a w, SimE base M W nt f3 g3 c3 a w → K a w) → wpOp P [o0, o1, o2, o3].toArray Q 2 K a w)
    (h3 : ∀ a w K, SimE base M W nt f3 g3 c3 a w → (∀ a w, SimE base M W nt f4 g4 c4 a w → K a w) → wpOp P [o0, o1, o2, o3].toArray Q 3 K a w)
    (h1' : ∀ a w K, SimE base M W nt f1 g1 c1 a w → (∀ a w, SimE base M W nt f2' g2' c2' a w → K a w) → wpOp P [o0, o1, o2, o3].toArray Q 2 K a w)
    (h2' : ∀ a w K, SimE base M W nt f2' g2' c2' a w → (∀ a w, SimE base M W nt f3' g3' c3' a w → K a w) → wpOp P [o0, o1, o2, o3].toArray Q 1 K a w)
    (h3' : ∀ a w K, SimE base M W nt f3' g3' c3' a w → (∀ a w, SimE base M W nt f4' g4' c4' a w → K a w) → wpOp P [o0, o1, o2, o3].toArray Q 3 K a w)
    (hQ : ∀ a w, SimE base M W nt f4 g4 c4 a w → Q .normal a w) (hQ' : ∀ a w, SimE base M W nt f4' g4' c4' a w → Q .normal a w)
    {a : Act} {w : World} (hs : SimE base M W nt f g c a w) : wpAny P .any [o0, o1, o2, o3].toArray Q 4 #[false, false, false, false] a w := by
  have nd : ∀ (L : Array Bool), L.size = 4 → (∃ j, j < 4 ∧ L.getD j true = false) → Region.ready .any [o0, o1, o2, o3].toArray L = [] → False := by
    intro L hL hj hn
    obtain ⟨j, hj1, hj2⟩ := hj
    have := all_ready hD (L := L) hL hn j hj1
    rw [this] at hj2; cases hj2
  have four : ∀ {i : Nat} {o : Oper}, [o0, o1, o2, o3][i]? = some o → (i = 0 ∧ o = o0) ∨ (i = 1 ∧ o = o1) ∨ (i = 2 ∧ o = o2) ∨ (i = 3 ∧ o = o3) := by
    intro i o h
    match i, h with
    | 0, h => cases h; simp
    | 1, h => cases h; simp
    | 2, h => cases h; simp
    | 3, h => cases h; simp
    | i + 4, h => simp at h
  refine ⟨fun hn => (nd _ rfl ⟨0, by omega, rfl⟩ hn).elim, fun i hi => ?_⟩
  obtain ⟨o, ho, hL, hd⟩ := ready_in hi
  rcases four ho with ⟨rfl, rfl⟩ | ⟨rfl, rfl⟩ | ⟨rfl, rfl⟩ | ⟨rfl, rfl⟩
  rotate_left
  · cases hd 0 d1
  · cases hd 0 d2
  · cases hd 1 d3
  refine h0 a w _ hs fun a w hs => ?_
  refine ⟨fun hn => (nd _ rfl ⟨1, by omega, rfl⟩ hn).elim, fun i hi => ?_⟩
  obtain ⟨o, ho, hL, hd⟩ := ready_in hi
  rcases four ho with ⟨rfl, rfl⟩ | ⟨rfl, rfl⟩ | ⟨rfl, rfl⟩ | ⟨rfl, rfl⟩
  · cases hL
  · refine h1 a w _ hs fun a w hs => ?_
    refine ⟨fun hn => (nd _ rfl ⟨2, by omega, rfl⟩ hn).elim, fun i hi => ?_⟩
    obtain ⟨o, ho, hL, hd⟩ := ready_in hi
    rcases four ho with ⟨rfl, rfl⟩ | ⟨rfl, rfl⟩ | ⟨rfl, rfl⟩ | ⟨rfl, rfl⟩
    · cases hL
    · cases hL
    · refine h2 a w _ hs fun a w hs => ?_
      refine ⟨fun hn => (nd _ rfl ⟨3, by omega, rfl⟩ hn).elim, fun i hi => ?_⟩
      obtain ⟨o, ho, hL, hd⟩ := ready_in hi
      rcases four ho with ⟨rfl, rfl⟩ | ⟨rfl, rfl⟩ | ⟨rfl, rfl⟩ | ⟨rfl, rfl⟩
      · cases hL
      · cases hL
      · cases hL
      · refine h3 a w _ hs fun a w hs => ?_
        refine ⟨?_, hQ a w hs⟩
        refine List.eq_nil_iff_forall_not_mem.2 fun i hi => ?_
        obtain ⟨o, ho, hL, hd⟩ := ready_in hi
        rcases four ho with ⟨rfl, rfl⟩ | ⟨rfl, rfl⟩ | ⟨rfl, rfl⟩ | ⟨rfl, rfl⟩ <;> cases hL
    · cases hd 2 d4
  · refine h1' a w _ hs fun a w hs => ?_
    refine ⟨fun hn => (nd _ rfl ⟨1, by omega, rfl⟩ hn).elim, fun i hi => ?_⟩
    obtain ⟨o, ho, hL, hd⟩ := ready_in hi
    rcases four ho with ⟨rfl, rfl⟩ | ⟨rfl, rfl⟩ | ⟨rfl, rfl⟩ | ⟨rfl, rfl⟩
    · cases hL
    · refine h2' a w _ hs fun a w hs => ?_
      refine ⟨fun hn => (nd _ rfl ⟨3, by omega, rfl⟩ hn).elim, fun i hi => ?_⟩
      obtain ⟨o, ho, hL, hd⟩ := ready_in hi
      rcases four ho with ⟨rfl, rfl⟩ | ⟨rfl, rfl⟩ | ⟨rfl, rfl⟩ | ⟨rfl, rfl⟩
      · cases hL
      · cases hL
      · cases hL
      · refine h3' a w _ hs fun a w hs => ?_
        refine ⟨?_, hQ' a w hs⟩
        refine List.eq_nil_iff_forall_not_mem.2 fun i hi => ?_
        obtain ⟨o, ho, hL, hd⟩ := ready_in hi
        rcases four ho with ⟨rfl, rfl⟩ | ⟨rfl, rfl⟩ | ⟨rfl, rfl⟩ | ⟨rfl, rfl⟩ <;> cases hL
    · cases hL
    · cases hd 1 d3
  · cases hd 1 d3

def regOk (nt : Nat) (draw : Bool) (ops : List Oper) : Bool := ops.all (opOk nt) && (!draw || drawOk ops 0 ops)

theorem knowK_path {Q1 : AV → Prop} {v : Nat} {k : St → Tree} {s : St} (hk : KnOk (aget s.slots) s.kn) (h : Sat P Q1 (knowK v k s)) : ∃ s' : St, s'.slots = s.slots ∧ s'.objs = s.objs ∧ s'.ice = s.ice ∧ KnOk (aget s'.slots) s'.kn ∧ Sat P Q1 (k s') := by
  unfold knowK at h
  split at h
  · rename_i b hb
    exact ⟨s.know v b, rfl, rfl, rfl, knOk_know hk hb, h⟩
  · cases h
theorem region_go1 {S : Sums} {Q1 : AV → Prop} (hT : TsOk P T) (hS : SumsOk P S) (hm : P.follows .mixedOrders = true) {draw : Bool} (hB : regOk nt draw ops = true) {id : Nat} {s : St} {a : Act} {w : World} (hs : SimS base M W nt s a w)
    {k : St → Tree} (h : Sat P Q1 (runOps T std S draw ops ops 0 s [] k)) {Q : Exit → Act → World → Prop} (hQ : ∀ s' a' w', SimS base M W nt s' a' w' → Sat P Q1 (k s') → Q .normal a' w') :
    (Code.region id ops.toArray draw).wp P Q a w := by
  unfold regOk at hB
  rw [Bool.and_eq_true, List.all_eq_true] at hB
  have hops : ∀ o ∈ ops, OpOk nt o := fun o ho => opOk_of (hB.1 o ho)
  obtain ⟨es, s', hW, hk', h'⟩ := walk_path hS ops 0 s [] hs.2 h
  cases draw with
  | false =>
    refine wp_region ?_
    have := text_go (base := base) (M := M) (W := W) hT hops (Q := Q) ops 0 _ _ _ _ es _ _ _ a w (fun k => by simp) hW hs.1 fun a' w' hs' => hQ s' a' w' ⟨hs', hk'⟩ h'
    rw [List.range_eq_range']
    simpa using this
  | true =>
    refine wp_region_any hm ?_
    have hD := drawOk_of (by simpa using hB.2 : drawOk ops 0 ops = true)
    obtain ⟨hA, e1, e2, e3⟩ := walk_at (ops := ops) (E := fun j => es.getD j nothing) (f0 := aget s.slots) (g0 := aget s.objs) (c0 := lhas s.ice) ops 0 _ _ _ _ es _ _ _ (fun k => by simp) (fun k e he => by simp [he]) rfl rfl rfl (fun k hk => by omega) hW
    rw [Nat.zero_add] at e1 e2 e3
    have hl : left (Array.replicate ops.length false) ≤ ops.toArray.size := by
      unfold left; simp
    have hsz : ops.toArray.size = ops.length := by simp
    rw [hsz] at hl ⊢
    refine any_go (E := fun j => es.getD j nothing) hT hops hD (fun j o ho => hA j o (by omega) ho) (fun a' w' hs' => hQ s' a' w' ⟨by rw [e1, e2, e3]; exact hs', hk'⟩ h') ops.length _ a _ hl ⟨by simp, ?_, ?_⟩
    · intro k o e hk hL _ _
      have hk : k < ops.length := (List.getElem?_eq_some_iff.1 hk).1
      simp [hk] at hL
    · have z : ∀ j, j < ops.length → (fun i => (Array.replicate ops.length false).getD i false) j = false := fun j hj => by simp [hj]
      have h1 : fL ops (fun j => es.getD j nothing) (aget s.slots) (fun i => (Array.replicate ops.length false).getD i false) ops.length = aget s.slots := by
        funext t
        exact last_none 0 ops.length (fun j _ hj hL => by have := z j hj; simp only at this; rw [this] at hL; cases hL) (by omega)
      have h2 : gL (fun j => es.getD j nothing) (aget s.objs) (fun i => (Array.replicate ops.length false).getD i false) ops.length = aget s.objs := by
        funext t
        exact last_none 0 ops.length (fun j _ hj hL => by have := z j hj; simp only at this; rw [this] at hL; cases hL) (by omega)
      have h3 : cL (fun j => es.getD j nothing) (lhas s.ice) (fun i => (Array.replicate ops.length false).getD i false) ops.length = lhas s.ice := by
        funext t
        exact anyL_none 0 ops.length (fun j _ hj => z j hj) (by omega)
      rw [h1, h2, h3]
      obtain ⟨D, μ, hs⟩ := hs.1
      exact ⟨D, μ, hs.drew⟩
/-- **A region**: what stands behind it is what the executor goes on with. -/
theorem region_go {S : Sums} {Q1 : AV → Prop} (hT : TsOk P T) (hS : SumsOk P S) (hm : P.follows .mixedOrders = true) {draw : Bool} (hB : regOk nt draw ops = true) {id : Nat} {s : St} {a : Act} {w : World} (hs : SimS base M W nt s a w)
    {k : St → Tree} (h : Sat P Q1 (regionT T std S draw ops s k)) {Q : Exit → Act → World → Prop} (hQ : ∀ s' a' w', SimS base M W nt s' a' w' → Sat P Q1 (k s') → Q .normal a' w') :
    (Code.region id ops.toArray draw).wp P Q a w := by
  unfold regionT at h
  split at h
  rotate_left
  · exact region_go1 hT hS hm hB hs h hQ
  rename_i v hch
  cases draw with
  | false => cases hch
  | true =>
    simp only [cond_true] at hch
    unfold choiceV at hch
    split at hch
    rotate_left
    · cases hch
    rename_i o0 o1 o2 o3
    split at hch
    rotate_left
    · cases hch
    split at hch
    rotate_left
    · cases hch
    rename_i d1 d2 d3 d4 hng
    unfold regOk at hB
    rw [Bool.and_eq_true, List.all_eq_true] at hB
    have hops : ∀ o ∈ [o0, o1, o2, o3], OpOk nt o := fun o ho => opOk_of (hB.1 o ho)
    have hD := drawOk_of (by simpa using hB.2 : drawOk [o0, o1, o2, o3] 0 [o0, o1, o2, o3] = true)
    obtain ⟨n0, n1, n2, n3⟩ : o0.guard = none ∧ o1.guard = none ∧ o2.guard = none ∧ o3.guard = none := by
      simp only [noGuard] at hng
      cases e0 : o0.guard <;> cases e1 : o1.guard <;> cases e2 : o2.guard <;> cases e3 : o3.guard <;> simp_all
    obtain ⟨es, s1, hW, hk1, h⟩ := walk_path hS [o0] 0 s [] hs.2 h
    cases h with
    | and hA hB2 =>
      obtain ⟨esA, sA, hWA, hkA, hA⟩ := walk_path hS [o1, o2, o3] 1 s1 [] hk1 hA
      obtain ⟨esB, sB, hWB, hkB, hB2⟩ := walk_path hS [o2, o1, o3] 1 s1 [] hk1 hB2
      obtain ⟨sA', q1, q2, q3, hkA', hA⟩ := knowK_path hkA hA
      obtain ⟨sB', p1, p2, p3, hkB', hB2⟩ := knowK_path hkB hB2
      match es, hW with
      | [e0], ⟨x0, _, w0, w0', w0''⟩ =>
        match esA, hWA with
        | [a1, a2, a3], ⟨xa1, _, xa2, _, xa3, _, wa, wa', wa''⟩ =>
          match esB, hWB with
          | [b1, b2, b3], ⟨xb1, _, xb2, _, xb3, _, wb, wb', wb''⟩ =>
            refine wp_region_any hm ?_
            obtain ⟨D, μ, hs0⟩ := hs.1
            rw [w0, w0', w0''] at xa1 xa2 xa3 xb1 xb2 xb3
            rw [w0] at wa wb
            rw [w0'] at wa' wb'
            rw [w0''] at wa'' wb''
            refine choice_go hT hops hD d1 d2 d3 d4
              (h0 := fun a w K hs hK => op_go hT hs hops rfl x0 hK)
              (h1 := fun a w K hs hK => op_go hT hs hops rfl xa1 hK)
              (h2 := fun a w K hs hK => op_go hT hs hops rfl xa2 hK)
              (h3 := fun a w K hs hK => op_go hT hs hops rfl xa3 hK)
              (h1' := fun a w K hs hK => op_go hT hs hops rfl xb1 hK)
              (h2' := fun a w K hs hK => op_go hT hs hops rfl xb2 hK)
              (h3' := fun a w K hs hK => op_go hT hs hops rfl xb3 hK)
              (hQ := fun a w hs => hQ sA' a w ⟨?_, hkA'⟩ hA) (hQ' := fun a w hs => hQ sB' a w ⟨?_, hkB'⟩ hB2) ⟨D, μ, hs0.drew⟩
            · rw [q1, q2, q3, wa, wa', wa'']; exact hs
            · rw [p1, p2, p3, wb, wb', wb'']; exact hs
end
end Sy
end Go.Proofs.YtckbbcjbbmgmoaaGreatDoor
namespace Go.Proofs.YtckbbcjbbmgmoaaGreatDoor
namespace Sy
open Go Go.RowKit
set_option linter.unusedSimpArgs false
set_option linter.unusedVariables false
set_option linter.unusedSectionVars false

section
variable {P : Program} {Q : AV → Prop} {base : Nat} {M : Two} {W : World} {nt : Nat} {s tm : St} {a : Act} {w : World} {hold : List Nat} {next : Tree}
/-- The ids that the template freezes, as the state names them. -/
def frz (ice : List Nat) (objs : List (Nat × Ob)) (F : List (Nat × Option Nat)) : List Nat := match objs with
  | [] => []
  | (t, _) :: r => match aget F t with
    | some (some id) => if lhas ice t = true then id :: frz ice r F else frz ice r F
    | _ => frz ice r F
theorem frz_mem {ice : List Nat} {F : List (Nat × Option Nat)} : ∀ {objs : List (Nat × Ob)} {id : Nat}, id ∈ frz ice objs F → ∃ t, aget F t = some (some id) ∧ lhas ice t = true ∧ aget objs t ≠ none
  | [], id, h => by cases h
  | (t, o) :: r, id, h => by
    unfold frz at h
    have up : ∀ {t'}, aget r t' ≠ none → aget ((t, o) :: r) t' ≠ none := by
      intro t' h
      unfold aget
      split
      · simp
      · exact h
    split at h
    · rename_i k hk
      split at h
      · rename_i e
        rcases List.mem_cons.1 h with rfl | h
        · exact ⟨t, hk, e, by simp [aget, beq_same]⟩
        · obtain ⟨t', h1, h2, h3⟩ := frz_mem h; exact ⟨t', h1, h2, up h3⟩
      · obtain ⟨t', h1, h2, h3⟩ := frz_mem h; exact ⟨t', h1, h2, up h3⟩
    · obtain ⟨t', h1, h2, h3⟩ := frz_mem h; exact ⟨t', h1, h2, up h3⟩
theorem mem_frz {ice : List Nat} {F : List (Nat × Option Nat)} : ∀ {objs : List (Nat × Ob)} {id t : Nat}, aget F t = some (some id) → lhas ice t = true → aget objs t ≠ none → id ∈ frz ice objs F
  | [], id, t, _, _, h => by simp [aget] at h
  | (k, o) :: r, id, t, h1, h2, h3 => by
    unfold frz
    unfold aget at h3
    cases e : nbeq k t with
    | true =>
      have := beq_eq e; subst this
      rw [h1]
      simp only
      rw [if_pos h2]
      simp
    | false =>
      rw [e] at h3
      have ih := mem_frz (objs := r) h1 h2 h3
      split
      · split
        · exact List.mem_cons_of_mem _ ih
        · exact ih
      · exact ih

theorem pinOk_get : ∀ {F : List (Nat × Option Nat)}, pinOk F = true → ∀ t x, aget F t = some x → isPin t = true → x = some t
  | [], _, t, x, h, _ => by cases h
  | (k, y) :: r, e, t, x, h, hp => by
    unfold pinOk at e
    unfold aget at h
    split at h
    · rename_i hb
      have hk := beq_eq hb; subst hk
      cases h
      rw [hp] at e
      simp only at e
      split at e
      · rename_i hi; exact isId_eq hi
      · cases e
    · have e' : pinOk r = true := by
        split at e
        · split at e
          · exact e
          · cases e
        · exact e
      exact pinOk_get e' t x h hp
theorem pin_of {pin : Nat → Option (Nat × Nat × Nat)} {μ : Mu} {F : List (Nat × Option Nat)} (h : ∀ id y, isPin id = true → μ id = some y → y = pin id) (hF : pinOk F = true) {id : Nat} {y : Option (Nat × Nat × Nat)} (hp : isPin id = true) (hy : muOf μ F id = some y) : y = pin id := by
  unfold muOf at hy
  split at hy
  · rename_i k hk
    have := pinOk_get hF id _ hk hp
    cases this
    exact h id y hp hy
  · rename_i hk
    have := pinOk_get hF id _ hk hp
    cases this
  · cases hy
theorem meet_go (hs : SimS base M W nt s a w) (h : Sat P Q (meetT s tm hold next)) (hkn : tm.kn = []) : SimS base M W nt tm a w ∧ Sat P Q next := by
  unfold meetT at h
  split at h
  · rename_i m1 e1
    split at h
    · rename_i m2 e2
      split at h
      · rename_i hin hice hpin
        obtain ⟨hps, hnext⟩ := sat_mustL h
        refine ⟨?_, hnext⟩
        obtain ⟨⟨D, μ, S⟩, _⟩ := hs
        let F := m2.ids
        obtain ⟨x2, -⟩ := meetObs_ok (h := w.heap) (D := D) (μ := μ) e2
        obtain ⟨x1, -⟩ := meetSlots_ok (h := w.heap) (D := D) (μ := μ) (a := a) e1
        have hF2 : Fin m2 F := ⟨fun _ _ h => h, hps⟩
        have hF1 : Fin m1 F := hF2.of x2
        have hInj : Inj F := x2.inj (x1.inj fun t t' id h1 h2 => by
          have q1 := same1_get h1; have q2 := same1_get h2
          simp only [Option.some.injEq] at q1 q2
          rw [← q1, ← q2])
        -- the template's frozen blocks are frozen
        have hal : ∀ id, id ∈ frz tm.ice tm.objs F → ∃ o, aget s.objs id = some o ∧ o ≠ .gone := by
          intro id hid
          obtain ⟨t, h1, h2, h3⟩ := frz_mem hid
          obtain ⟨o, ho⟩ := Option.ne_none_iff_exists'.1 h3
          obtain ⟨x2', r2⟩ := meetObs_ok (h := w.heap) (D := D) (μ := μ) e2
          obtain ⟨x, hx, hp⟩ := (r2 F hF2 t o ho).pair
          rw [h1] at hx
          cases hx
          obtain ⟨_, o', ho', hne, _⟩ := hp
          exact ⟨o', ho', hne⟩
        have S' := S.freeze (frz tm.ice tm.objs F) hal
        obtain ⟨_, r1⟩ := meetSlots_ok (h := w.heap) (D := fun b => D b ∨ ∃ id z m, id ∈ frz tm.ice tm.objs F ∧ μ id = some (some (b, z, m))) (μ := μ) (a := a) e1
        obtain ⟨_, r2⟩ := meetObs_ok (h := w.heap) (D := fun b => D b ∨ ∃ id z m, id ∈ frz tm.ice tm.objs F ∧ μ id = some (some (b, z, m))) (μ := μ) e2
        generalize hDD : (fun b => D b ∨ ∃ id z m, id ∈ frz tm.ice tm.objs F ∧ μ id = some (some (b, z, m))) = D' at S' r1 r2
        have r1 := r1 F hF1 S'.slots
        have r2 := r2 F hF2
        -- a template's block that has a place is a block of the state's
        have pl : ∀ tid b z, muOf μ F tid = some (some (b, z)) → ∃ id, aget F tid = some (some id) ∧ μ id = some (some (b, z)) := by
          intro tid b z hm
          unfold muOf at hm
          split at hm
          · rename_i id hid; exact ⟨id, hid, hm⟩
          · cases hm
          · cases hm
        have obj : ∀ tid id, aget F tid = some (some id) → ∃ o', aget s.objs id = some o' ∧ o' ≠ .gone ∧ (lhas s.ice id = true → lhas tm.ice tid = true) := by
          intro tid id hid
          obtain ⟨o, ho⟩ := Option.ne_none_iff_exists'.1 (inObs_get hin tid _ hid)
          obtain ⟨x, hx, hp⟩ := (r2 tid o ho).pair
          rw [show aget F tid = aget m2.ids tid from rfl, hx] at hid
          cases hid
          obtain ⟨h1, o', ho', hne, _⟩ := hp
          exact ⟨o', ho', hne, h1⟩
        refine ⟨⟨D', muOf μ F, { S' with slots := r1, dom := fun id => ?_, obs := fun id o x h1 h2 => ?_, inj := ?_, own := fun id b z hm => ?_, kd := ?_, icy := fun id hc => iceIn_get hice id hc, pin := fun id y hp hy => pin_of S.pin hpin hp hy }⟩, fun t b ht => by rw [hkn] at ht; cases ht⟩
        · constructor
          · intro hm
            refine Decidable.byContradiction fun ho => ?_
            obtain ⟨o, ho⟩ := Option.ne_none_iff_exists'.1 ho
            obtain ⟨x, hx, hp⟩ := (r2 id o ho).pair
            unfold muOf at hm
            rw [hx] at hm
            cases x with
            | none => cases hm
            | some k =>
              simp only at hm hp
              obtain ⟨_, o', ho', _, _⟩ := hp
              have := (S.dom k).1 hm
              rw [ho'] at this; cases this
          · intro ho
            unfold muOf
            cases hf : aget F id with
            | none => rfl
            | some x => exact absurd ho (inObs_get hin id x hf)
        · obtain ⟨y, hy, hp⟩ := (r2 id o h1).pair
          unfold muOf at h2
          rw [hy] at h2
          cases y with
          | none => cases h2; exact hp
          | some k =>
            simp only at h2 hp
            obtain ⟨_, o', ho', _, hr⟩ := hp
            exact hr x (S'.obs k o' x ho' h2)
        · intro id id' b z z' o o' h1 h2 _ _ _ _
          obtain ⟨k, hk, hm⟩ := pl id b z h1
          obtain ⟨k', hk', hm'⟩ := pl id' b z' h2
          obtain ⟨q, hq, hqn, _⟩ := obj id k hk
          obtain ⟨q', hq', hqn', _⟩ := obj id' k' hk'
          have := S.inj k k' b z z' q q' hm hm' hq hq' hqn hqn'
          subst this
          exact hInj _ _ _ hk hk'
        · obtain ⟨k, hk, hm⟩ := pl id b z hm
          exact S.own k b z hm
        · intro id b z o h1 h2 h3
          obtain ⟨k, hk, hm⟩ := pl id b z h1
          obtain ⟨q, hq, hqn, hic⟩ := obj id k hk
          have K := S'.kd k b z q hm hq hqn
          refine ⟨fun hc => K.1 ?_, fun hc => K.2 ?_⟩
          · unfold cput
            rw [lhas_mem.2 (mem_frz hk hc (by rw [h2]; simp))]; rfl
          · unfold cput
            rw [Bool.or_eq_false_iff]
            refine ⟨?_, ?_⟩
            · cases hl : lhas (frz tm.ice tm.objs F) k with
              | false => rfl
              | true =>
                obtain ⟨t, t1, t2, _⟩ := frz_mem (lhas_mem.1 hl)
                have := hInj _ _ _ t1 hk
                subst this
                rw [hc] at t2; cases t2
            · cases hl : lhas s.ice k with
              | false => rfl
              | true => have := hic hl; rw [hc] at this; cases this
      · cases h
    · cases h
  · cases h
/-- The template's blocks are alive. -/
theorem meet_live (hs : SimS base M W nt s a w) (h : Sat P Q (meetT s tm hold next)) : ∀ n o, aget tm.objs n = some o → o ≠ .gone := by
  unfold meetT at h
  split at h
  · rename_i m1 e1
    split at h
    · rename_i m2 e2
      split at h
      · obtain ⟨hps, hnext⟩ := sat_mustL h
        intro n o ho
        obtain ⟨x2, r2⟩ := meetObs_ok (h := #[]) (D := fun _ => False) (μ := noMu) e2
        exact (r2 m2.ids ⟨fun _ _ h => h, hps⟩ n o ho).live
      · cases h
    · cases h
  · cases h
end
end Sy
end Go.Proofs.YtckbbcjbbmgmoaaGreatDoor
namespace Go.Proofs.YtckbbcjbbmgmoaaGreatDoor
namespace Sy
open Go Go.RowKit
set_option linter.unusedSimpArgs false
set_option linter.unusedVariables false
set_option linter.unusedSectionVars false

def toExit : Ex → Exit
  | .normal => .normal
  | .exit id => .exit id
  | .goto l => .goto l
  | .ret => .ret
/-- A code's steps in a row. -/
def flatC : Code → List Code
  | .seq a b => flatC a ++ flatC b
  | .skip => []
  | .label _ => []
  | c => [c]
def WPl (P : Program) : List Code → (Exit → Act → World → Prop) → Act → World → Prop
  | [], Q, a, w => Q .normal a w
  | c :: cs, Q, a, w => c.wp P (Exit.then (WPl P cs Q) Q) a w
theorem then_nil {P : Program} {Q : Exit → Act → World → Prop} : Exit.then (WPl P [] Q) Q = Q := by
  funext e a w; cases e <;> rfl
theorem wpl_app {P : Program} {ys : List Code} {Q : Exit → Act → World → Prop} : ∀ {xs : List Code}, WPl P (xs ++ ys) Q = WPl P xs (Exit.then (WPl P ys Q) Q)
  | [] => rfl
  | c :: xs => by
    funext a w
    show c.wp P (Exit.then (WPl P (xs ++ ys) Q) Q) a w = c.wp P (Exit.then (WPl P xs (Exit.then (WPl P ys Q) Q)) (Exit.then (WPl P ys Q) Q)) a w
    rw [wpl_app (xs := xs)]
    congr 1
    funext e a w
    cases e <;> rfl
theorem wp_of_one {P : Program} {c : Code} {Q : Exit → Act → World → Prop} {a : Act} {w : World} (h : WPl P [c] Q a w) : c.wp P Q a w := by
  have : c.wp P (Exit.then (WPl P [] Q) Q) a w := h
  rwa [then_nil] at this
theorem wp_of_wpl {P : Program} : ∀ {c : Code} {Q : Exit → Act → World → Prop} {a : Act} {w : World}, WPl P (flatC c) Q a w → c.wp P Q a w := by
  intro c
  induction c with
  | seq x y ih1 ih2 =>
    intro Q a w h
    unfold flatC at h
    rw [wpl_app] at h
    refine wp_seq (wp_mono (ih1 h) fun e a w hq => ?_)
    cases e with
    | normal => exact ih2 hq
    | _ => exact hq
  | skip => intro Q a w h; exact wp_skip h
  | label l => intro Q a w h; exact wp_label h
  | _ => intro Q a w h; exact wp_of_one h

def nodupL : List Nat → Bool
  | [] => true
  | x :: xs => !lhas xs x && nodupL xs
def codeOk (nt : Nat) : Code → Bool
  | .region _ ops d => regOk nt d ops.toList
  | .seq a b => codeOk nt a && codeOk nt b
  | .cond _ a b => codeOk nt a && codeOk nt b
  | .block _ b => codeOk nt b
  | .loop b => codeOk nt b
  | .scope b => nodupL (labelsOf b) && codeOk nt b
  | _ => true
theorem find_lab : ∀ {c : Code} {l : Nat} {r : Code}, findLabel c l = some r → l ∈ labelsOf c := by
  intro c
  induction c with
  | seq a b ih1 ih2 =>
    intro l r h
    unfold findLabel at h
    simp only [labelsOf, lapp_eq, List.mem_append]
    cases e : findLabel a l with
    | some x => exact .inl (ih1 e)
    | none => rw [e] at h; exact .inr (ih2 h)
  | label l' =>
    intro l r h
    unfold findLabel at h
    split at h
    · rename_i e; simp [labelsOf, beq_iff_eq.1 e]
    · cases h
  | _ => intro l r h; simp [findLabel] at h
theorem find_ok {nt : Nat} : ∀ {c : Code} {l : Nat} {r : Code}, findLabel c l = some r → codeOk nt c = true → codeOk nt r = true := by
  intro c
  induction c with
  | seq a b ih1 ih2 =>
    intro l r h hc
    unfold codeOk at hc
    rw [Bool.and_eq_true] at hc
    unfold findLabel at h
    cases e : findLabel a l with
    | some x =>
      rw [e] at h
      cases h
      unfold codeOk
      rw [Bool.and_eq_true]
      exact ⟨ih1 e hc.1, hc.2⟩
    | none => rw [e] at h; exact ih2 h hc.2
  | label l' =>
    intro l r h _
    unfold findLabel at h
    split at h
    · cases h; rfl
    · cases h
  | _ => intro l r h; simp [findLabel] at h
theorem nodup_app {xs ys : List Nat} (h : nodupL (xs ++ ys) = true) : nodupL xs = true ∧ nodupL ys = true ∧ ∀ l, l ∈ xs → l ∉ ys := by
  induction xs with
  | nil => exact ⟨rfl, h, fun l hl => by cases hl⟩
  | cons x xs ih =>
    simp only [List.cons_append, nodupL, Bool.and_eq_true, Bool.not_eq_true'] at h ⊢
    obtain ⟨h1, h2⟩ := h
    obtain ⟨i1, i2, i3⟩ := ih h2
    have hx : x ∉ xs ++ ys := fun hm => by rw [lhas_mem.2 hm] at h1; cases h1
    simp only [List.mem_append, not_or] at hx
    refine ⟨⟨?_, i1⟩, i2, fun l hl => ?_⟩
    · cases e : lhas xs x with
      | false => rfl
      | true => exact absurd (lhas_mem.1 e) hx.1
    · rcases List.mem_cons.1 hl with rfl | hl
      · exact hx.2
      · exact i3 l hl
/-- Behind a label the labels lead where they lead in the whole. -/
theorem find_find : ∀ {c : Code} {l0 l : Nat} {r c' : Code}, nodupL (labelsOf c) = true → findLabel c l0 = some r → findLabel r l = some c' → ∃ c'', findLabel c l = some c'' ∧ flatC c'' = flatC c' := by
  intro c
  induction c with
  | seq a b ih1 ih2 =>
    intro l0 l r c' hn h h'
    simp only [labelsOf, lapp_eq] at hn
    obtain ⟨n1, n2, n3⟩ := nodup_app hn
    have none_of : ∀ {x}, findLabel b l = some x → findLabel a l = none := by
      intro x hx
      cases e : findLabel a l with
      | none => rfl
      | some y => exact absurd (find_lab hx) (n3 l (find_lab e))
    unfold findLabel at h
    cases e : findLabel a l0 with
    | some x =>
      rw [e] at h
      cases h
      unfold findLabel at h'
      cases e' : findLabel x l with
      | some y =>
        rw [e'] at h'
        cases h'
        obtain ⟨c'', h1, h2⟩ := ih1 n1 e e'
        exact ⟨.seq c'' b, by simp [findLabel, h1], by simp [flatC, h2]⟩
      | none =>
        rw [e'] at h'
        exact ⟨c', by simp only [findLabel]; rw [none_of h']; exact h', rfl⟩
    | none =>
      rw [e] at h
      obtain ⟨c'', h1, h2⟩ := ih2 n2 h h'
      exact ⟨c'', by simp only [findLabel]; rw [none_of h1]; exact h1, h2⟩
  | label l' =>
    intro l0 l r c' _ h h'
    unfold findLabel at h
    split at h
    · cases h; simp [findLabel] at h'
    · cases h
  | _ => intro l0 l r c' _ h; simp [findLabel] at h

/-! ### scopes -/
inductive Goes (P : Program) (Q : Exit → Act → World → Prop) (body : Code) : Code → Act → World → Prop
  | mk {c : Code} {a : Act} {w : World} (R : Exit → Act → World → Prop) (h : c.wp P R a w)
      (hn : ∀ e a' w', R e a' w' → (∀ l rest, e = .goto l → findLabel body l = some rest → False) → Q e a' w')
      (hg : ∀ l rest a' w', R (.goto l) a' w' → findLabel body l = some rest → Goes P Q body rest a' w') : Goes P Q body c a w
def Qg (P : Program) (Q : Exit → Act → World → Prop) (body : Code) : Exit → Act → World → Prop
  | .goto l, a, w => match findLabel body l with
    | some rest => Goes P Q body rest a w
    | none => Q (.goto l) a w
  | e, a, w => Q e a w
theorem goes_of {P : Program} {Q : Exit → Act → World → Prop} {body c : Code} {a : Act} {w : World} (h : c.wp P (Qg P Q body) a w) : Goes P Q body c a w := by
  refine .mk _ h (fun e a' w' hq hno => ?_) (fun l rest a' w' hq hf => ?_)
  · cases e with
    | goto l =>
      simp only [Qg] at hq
      split at hq
      · rename_i rest hf; exact (hno l rest rfl hf).elim
      · exact hq
    | _ => exact hq
  · simp only [Qg] at hq
    rw [hf] at hq
    exact hq
theorem goes_in {P : Program} {Q : Exit → Act → World → Prop} {body : Code} {c : Code} {a : Act} {w : World} (g : Goes P Q body c a w) :
    ∀ (b : Frame) (k : List Item) (cs : List Frame), ∃ e a' w', Q e a' w' ∧ Arrives P (lone (b.at a (.code c :: .inScope body :: k)) cs w) b k cs e a' w' := by
  induction g with
  | mk R h hn hg ih =>
    intro b k cs
    obtain ⟨e, a₁, w₁, hq, harr⟩ := h b (.inScope body :: k) cs
    cases e with
    | normal => exact ⟨.normal, a₁, w₁, hn _ _ _ hq (fun _ _ h => by cases h), Steps.trans harr (.one step_inScope)⟩
    | exit id => exact ⟨.exit id, a₁, w₁, hn _ _ _ hq (fun _ _ h => by cases h), fun k' hk => harr k' (by simp [exitTo, hk])⟩
    | goto l =>
      cases hf : findLabel body l with
      | some rest =>
        obtain ⟨e₂, a₂, w₂, hq₂, harr₂⟩ := ih l rest a₁ w₁ hq hf b k cs
        exact ⟨e₂, a₂, w₂, hq₂, .of_steps (harr _ (by simp [gotoIn, hf])) harr₂⟩
      | none =>
        refine ⟨.goto l, a₁, w₁, hn _ _ _ hq (fun l' r h hf' => by cases h; rw [hf] at hf'; cases hf'), fun k' hk => harr k' (by simp [gotoIn, hf, hk])⟩
    | ret => exact ⟨_, a₁, w₁, hn _ _ _ hq (fun _ _ h => by cases h), harr⟩
    | panic ch => exact ⟨_, a₁, w₁, hn _ _ _ hq (fun _ _ h => by cases h), harr⟩
    | outgrown => exact ⟨_, a₁, w₁, hn _ _ _ hq (fun _ _ h => by cases h), harr⟩
theorem wp_scope_goes {P : Program} {Q : Exit → Act → World → Prop} {body : Code} {a : Act} {w : World} (g : Goes P Q body body a w) : (Code.scope body).wp P Q a w := by
  intro b k cs
  obtain ⟨e, a₁, w₁, hq, harr⟩ := goes_in g b k cs
  exact ⟨e, a₁, w₁, hq, .of_steps (.one step_scope) harr⟩

/-! ### the run -/
section
variable {P : Program} {T : TT} {S : Sums} {lo lb : Nat → St → Option Ann} {base : Nat} {M : Two} {W : World} {nt : Nat} {Q1 : AV → Prop}

/-- What the executor goes on with holds. -/
def Kon (P : Program) (base : Nat) (M : Two) (W : World) (nt : Nat) (Q1 : AV → Prop) (k : K) (Q : Exit → Act → World → Prop) : Prop := ∀ e s a w, SimS base M W nt s a w → Sat P Q1 (k e s) → Q (toExit e) a w
def ScOk (P : Program) (base : Nat) (M : Two) (W : World) (nt : Nat) (Q1 : AV → Prop) (sc : Code → St → K → Tree) : Prop :=
  ∀ body s k Q a w, codeOk nt (.scope body) = true → SimS base M W nt s a w → Sat P Q1 (sc body s k) → Kon P base M W nt Q1 k Q → (Code.scope body).wp P Q a w

theorem loopEnd_go {an : Ann} {ks : List (Nat × AV)} {ko : List (Nat × Ob)} {ice : List Nat} {m : Option Nat} {s : St} {a : Act} {w : World} (hs : SimS base M W nt s a w) (h : Sat P Q1 (loopEnd an ks ko ice m s)) :
    ∃ x, an.inv x ∧ (∀ m0, m = some m0 → an.mu x < m0) ∧ SimS base M W nt (an.st ks ko ice x) a w := by
  unfold loopEnd at h
  cases h with
  | ex x h =>
    obtain ⟨h1, h2⟩ := meet_go hs h rfl
    cases h2 with
    | must h3 h4 =>
      refine ⟨x, h3, fun m0 hm => ?_, h1⟩
      subst hm
      cases h4 with | must h5 _ => exact h5

theorem run_block {sc : Code → St → K → Tree} {A : Nat → Bool} {id : Nat} {b : Code} (hb : ∀ body, b ≠ .loop body) {s : St} {k : K} :
    run T std S lo sc A (.block id b) s k = run T std S lo sc noL b s (fun e s' => match e with
    | .exit j => match nbeq j id with
      | true => k .normal s'
      | false => k (.exit j) s'
    | e => k e s') := by
  cases b <;> first | rfl | exact absurd rfl (hb _)

/-- The run of a code, what follows it in the row, and the labels at which it is cut. -/
def RunOk (P : Program) (T : TT) (S : Sums) (lo : Nat → St → Option Ann) (base : Nat) (M : Two) (W : World) (nt : Nat) (Q1 : AV → Prop) (sc : Code → St → K → Tree) (c : Code) : Prop := codeOk nt c = true →
    ∀ (A : Nat → Bool) (s : St) (k : K) (Q : Exit → Act → World → Prop) (ys : List Code) (a : Act) (w : World), SimS base M W nt s a w → Sat P Q1 (run T std S lo sc A c s k) →
    Kon P base M W nt Q1 k (Exit.then (WPl P ys Q) Q) →
    (∀ l c' s' a' w', A l = true → findLabel c l = some c' → SimS base M W nt s' a' w' → Sat P Q1 (k (.goto l) s') → WPl P (flatC c' ++ ys) Q a' w') → WPl P (flatC c ++ ys) Q a w
theorem run_two (hT : TsOk P T) (hS : SumsOk P S) (hm : P.follows .mixedOrders = true) {sc : Code → St → K → Tree} (hsc : ScOk P base M W nt Q1 sc) : ∀ (c : Code),
    RunOk P T S lo base M W nt Q1 sc c ∧ (∀ body, c = .loop body → RunOk P T S lo base M W nt Q1 sc body) := by
  intro c
  induction c with
  | skip => refine ⟨?_, fun body e => by cases e⟩; intro _ A s k Q ys a w hs h hk _; exact hk .normal s a w hs h
  | region id ops d =>
    refine ⟨?_, fun body e => by cases e⟩
    intro hc A s k Q ys a w hs h hk _
    show (Code.region id ops d).wp P (Exit.then (WPl P ys Q) Q) a w
    have := region_go (id := id) (Q := Exit.then (WPl P ys Q) Q) hT hS hm hc hs h (fun s' a' w' hs' h' => hk .normal s' a' w' hs' h')
    simpa using this
  | seq x y ih1 ih2 =>
    refine ⟨?_, fun body e => by cases e⟩
    intro hc A s k Q ys a w hs h hk hl
    unfold codeOk at hc
    rw [Bool.and_eq_true] at hc
    show WPl P ((flatC x ++ flatC y) ++ ys) Q a w
    rw [List.append_assoc]
    refine ih1.1 hc.1 A s _ Q (flatC y ++ ys) a w hs h (fun e s' a' w' hs' h' => ?_) (fun l c' s' a' w' hA hf hs' h' => ?_)
    · cases e with
      | normal =>
        refine ih2.1 hc.2 _ s' k Q ys a' w' hs' h' hk (fun l c' s2 a2 w2 hA hf hs2 h2 => hl l c' s2 a2 w2 ?_ ?_ hs2 h2)
        · split at hA
          · cases hA
          · exact hA
        · split at hA
          · cases hA
          · rename_i e; simp only [findLabel]; rw [e]; exact hf
      | exit id => exact hk (.exit id) s' a' w' hs' h'
      | goto l => exact hk (.goto l) s' a' w' hs' h'
      | ret => exact hk .ret s' a' w' hs' h'
    · have := hl l (.seq c' y) s' a' w' hA (by simp [findLabel, hf]) hs' h'
      simpa [flatC] using this
  | cond x p q ih1 ih2 =>
    refine ⟨?_, fun body e => by cases e⟩
    intro hc A s k Q ys a w hs h hk _
    unfold codeOk at hc
    rw [Bool.and_eq_true] at hc
    show (Code.cond x p q).wp P (Exit.then (WPl P ys Q) Q) a w
    have yes : ∀ (k1 : K) (s1 : St), SimS base M W nt s1 a w → Sat P Q1 (run T std S lo sc noL p s1 k1) → Kon P base M W nt Q1 k1 (Exit.then (WPl P ys Q) Q) → p.wp P (Exit.then (WPl P ys Q) Q) a w := fun k1 s1 h1 h2 hk1 => wp_of_wpl (by
      have := ih1.1 hc.1 noL s1 k1 (Exit.then (WPl P ys Q) Q) [] a w h1 h2 (by rw [then_nil]; exact hk1) (fun l c' s' a' w' hA => by cases hA)
      simpa using this)
    have no : ∀ (k1 : K) (s1 : St), SimS base M W nt s1 a w → Sat P Q1 (run T std S lo sc noL q s1 k1) → Kon P base M W nt Q1 k1 (Exit.then (WPl P ys Q) Q) → q.wp P (Exit.then (WPl P ys Q) Q) a w := fun k1 s1 h1 h2 hk1 => wp_of_wpl (by
      have := ih2.1 hc.2 noL s1 k1 (Exit.then (WPl P ys Q) Q) [] a w h1 h2 (by rw [then_nil]; exact hk1) (fun l c' s' a' w' hA => by cases hA)
      simpa using this)
    have lit : ∀ b, litOf s.kn x = some b → a.eval x = .bool b := by
      intro b hb
      cases x with
      | tmp t =>
        obtain ⟨⟨D, μ, S⟩, hkn⟩ := hs
        exact (S.slots t _ (hkn t b hb)).inv_bool
      | const v => cases v <;> simp [litOf] at hb; subst hb; rfl
      | _ => simp [litOf] at hb
    unfold run at h
    split at h
    · rename_i e; exact wp_cond_true (lit true e) (yes k s hs h hk)
    · rename_i e; exact wp_cond_false (lit false e) (no k s hs h hk)
    · split at h
      · rename_i t _ _
        split at h
        · rename_i b hb
          have he : a.eval (.tmp t) = .bool b := by
            obtain ⟨⟨D, μ, S⟩, hkn⟩ := hs
            exact (S.slots t _ hb).inv_bool
          have both : ∀ k1 : K, Kon P base M W nt Q1 k1 (Exit.then (WPl P ys Q) Q) → Sat P Q1 (.ite b (run T std S lo sc noL p (s.know t true) k1) (run T std S lo sc noL q (s.know t false) k1)) → (Code.cond (.tmp t) p q).wp P (Exit.then (WPl P ys Q) Q) a w := by
            intro k1 hk1 h
            cases h with
            | ite h1 h2 =>
              refine wp_cond_split he (fun ht => ?_) (fun hf => ?_)
              · subst ht
                exact yes k1 (s.know t true) ⟨hs.1, knOk_know hs.2 hb⟩ (h1 rfl) hk1
              · subst hf
                exact no k1 (s.know t false) ⟨hs.1, knOk_know hs.2 hb⟩ (h2 rfl) hk1
          split at h
          · exact both k hk h
          · rename_i an _
            split at h
            · rename_i ks _
              split at h
              · rename_i ko _
                cases h with
                | and h1 h2 =>
                  refine both _ (fun e s' a' w' hs' h' => ?_) h1
                  cases e with
                  | normal =>
                    obtain ⟨y, hy, _, hsy⟩ := loopEnd_go hs' h'
                    cases h2 with
                    | all h2 => cases h2 y with
                      | sup h3 => exact hk .normal _ a' w' hsy (h3 hy)
                  | exit j => exact hk (.exit j) s' a' w' hs' h'
                  | goto l => exact hk (.goto l) s' a' w' hs' h'
                  | ret => exact hk .ret s' a' w' hs' h'
              · cases h
            · cases h
        · cases h
      · cases h
  | block id b ih =>
    refine ⟨?_, fun body e => by cases e⟩
    intro hc A s k Q ys a w hs h hk _
    show (Code.block id b).wp P (Exit.then (WPl P ys Q) Q) a w
    generalize Exit.then (WPl P ys Q) Q = Q' at hk
    by_cases hb : ∃ body, b = .loop body
    · obtain ⟨body, rfl⟩ := hb
      have hbody := ih.2 body rfl hc
      unfold run at h
      split at h
      · rename_i an hlo
        split at h
        · rename_i ks hks
          split at h
          · rename_i ko hko
            cases h with
            | and h1 h2 =>
              obtain ⟨x0, i0, _, s0⟩ := loopEnd_go hs h1
              cases h2 with
              | all h2 =>
                refine wp_block (wp_loop_ghost (fun n a w => ∃ x, an.inv x ∧ an.mu x = n ∧ SimS base M W nt (an.st ks ko s.ice x) a w) (an.mu x0) ⟨x0, i0, rfl, s0⟩ ?_)
                rintro n a1 w1 ⟨x, hx, rfl, hsx⟩
                refine wp_of_wpl ?_
                cases h2 x with
                | sup h3 =>
                  have := hbody noL _ _ (Exit.then (fun a' w' => ∃ n', n' < an.mu x ∧ ∃ x, an.inv x ∧ an.mu x = n' ∧ SimS base M W nt (an.st ks ko s.ice x) a' w') (Exit.inBlock id Q')) [] a1 w1 hsx (h3 hx) (fun e s' a' w' hs' h' => ?_) (fun l c' s' a' w' hA => by cases hA)
                  · simpa using this
                  · rw [then_nil]
                    cases e with
                    | exit j =>
                      simp only at h'
                      show (if j = id then Q' .normal a' w' else Q' (.exit j) a' w')
                      cases e : nbeq j id with
                      | true => rw [e] at h'; rw [if_pos (beq_eq e)]; exact hk .normal s' a' w' hs' h'
                      | false =>
                        rw [e] at h'
                        rw [if_neg (by rintro rfl; rw [beq_same] at e; cases e)]
                        exact hk (.exit j) s' a' w' hs' h'
                    | normal =>
                      obtain ⟨x', i', m', s2⟩ := loopEnd_go hs' h'
                      exact ⟨an.mu x', m' _ rfl, x', i', rfl, s2⟩
                    | goto l => exact hk (.goto l) s' a' w' hs' h'
                    | ret => exact hk .ret s' a' w' hs' h'
          · cases h
        · cases h
      · cases h
    · rw [run_block (fun body e => hb ⟨body, e⟩)] at h
      refine wp_block (wp_of_wpl ?_)
      have := ih.1 hc noL s _ (Exit.inBlock id Q') [] a w hs h (fun e s' a' w' hs' h' => ?_) (fun l c' s' a' w' hA => by cases hA)
      · simpa using this
      · rw [then_nil]
        cases e with
        | exit j =>
          simp only at h'
          show (if j = id then Q' .normal a' w' else Q' (.exit j) a' w')
          cases e : nbeq j id with
          | true => rw [e] at h'; rw [if_pos (beq_eq e)]; exact hk .normal s' a' w' hs' h'
          | false =>
            rw [e] at h'
            rw [if_neg (by rintro rfl; rw [beq_same] at e; cases e)]
            exact hk (.exit j) s' a' w' hs' h'
        | normal => exact hk .normal s' a' w' hs' h'
        | goto l => exact hk (.goto l) s' a' w' hs' h'
        | ret => exact hk .ret s' a' w' hs' h'
  | exit id => refine ⟨?_, fun body e => by cases e⟩; intro _ A s k Q ys a w hs h hk _; exact wp_exit (hk (.exit id) s a w hs h)
  | goto l => refine ⟨?_, fun body e => by cases e⟩; intro _ A s k Q ys a w hs h hk _; exact wp_goto (hk (.goto l) s a w hs h)
  | ret => refine ⟨?_, fun body e => by cases e⟩; intro _ A s k Q ys a w hs h hk _; exact wp_ret (hk .ret s a w hs h)
  | label l =>
    refine ⟨?_, fun body e => by cases e⟩
    intro _ A s k Q ys a w hs h hk hl
    unfold run at h
    split at h
    · rename_i hA
      exact hl l .skip s a w hA (by simp [findLabel]) hs h
    · exact hk .normal s a w hs h
  | scope b ih =>
    refine ⟨?_, fun body e => by cases e⟩
    intro hc A s k Q ys a w hs h hk _
    exact hsc b s k _ a w hc hs h hk
  | loop b ih => exact ⟨fun _ A s k Q ys a w hs h hk _ => (by cases h), fun body e => by cases e; exact ih.1⟩
  | _ => refine ⟨?_, fun body e => by cases e⟩; intro _ A s k Q ys a w hs h hk _; cases h

theorem run_go (hT : TsOk P T) (hS : SumsOk P S) (hm : P.follows .mixedOrders = true) {sc : Code → St → K → Tree} (hsc : ScOk P base M W nt Q1 sc) (c : Code) : RunOk P T S lo base M W nt Q1 sc c := (run_two hT hS hm hsc c).1

/-! ### passes through a scope -/
/-- The labels of which something is said: whoever stands there so, comes through. -/
def LabOk (P : Program) (base : Nat) (M : Two) (W : World) (nt : Nat) (lb : Nat → St → Option Ann) (body : Code) (bs : St) (Q : Exit → Act → World → Prop) (m : Option Nat) : Prop :=
  ∀ l an rest ks ko x a w, lb l bs = some an → findLabel body l = some rest → keepS bs.slots an.keep = some ks → keepO bs.objs an.hold = some ko → an.inv x → (∀ m0, m = some m0 → an.mu x < m0) →
    SimS base M W nt (an.st ks ko bs.ice x) a w → WPl P (flatC rest) (Qg P Q body) a w
def PassOk (P : Program) (T : TT) (S : Sums) (lo lb : Nat → St → Option Ann) (base : Nat) (M : Two) (W : World) (nt : Nat) (Q1 : AV → Prop) (n : Nat) : Prop :=
  ∀ body rest bs s k m Q a w, nodupL (labelsOf body) = true → codeOk nt rest = true → codeOk nt body = true → (rest = body ∨ ∃ l, findLabel body l = some rest) → SimS base M W nt s a w → Sat P Q1 (pass T std S lo lb n body rest s k m bs) →
    Kon P base M W nt Q1 k Q → LabOk P base M W nt lb body bs Q m → WPl P (flatC rest) (Qg P Q body) a w

theorem each_go {body : Code} {bs : St} {ps : Code → St → Nat → Tree} {t : Tree} : ∀ {ls : List Nat}, Sat P Q1 (eachLabel lb body bs ps ls t) → Sat P Q1 t ∧
    ∀ l, l ∈ ls → ∀ an rest ks ko, lb l bs = some an → findLabel body l = some rest → keepS bs.slots an.keep = some ks → keepO bs.objs an.hold = some ko → ∀ x, an.inv x → Sat P Q1 (ps rest (an.st ks ko bs.ice x) (an.mu x))
  | [], h => ⟨h, fun l hl => by cases hl⟩
  | l0 :: ls, h => by
    unfold eachLabel at h
    split at h
    · rename_i an hlb
      split at h
      · rename_i rest hf
        split at h
        · rename_i ks hks
          split at h
          · rename_i ko hko
            cases h with
            | and h1 h2 =>
              obtain ⟨i1, i2⟩ := each_go h2
              refine ⟨i1, fun l hl an' rest' ks' ko' q1 q2 q3 q4 x hx => ?_⟩
              rcases List.mem_cons.1 hl with rfl | hl
              · rw [hlb] at q1; cases q1
                rw [hf] at q2; cases q2
                rw [hks] at q3; cases q3
                rw [hko] at q4; cases q4
                cases h1 with
                | all h1 => cases h1 x with | sup h1 => exact h1 hx
              · exact i2 l hl an' rest' ks' ko' q1 q2 q3 q4 x hx
          · cases h
        · cases h
      · rename_i hf
        obtain ⟨i1, i2⟩ := each_go h
        refine ⟨i1, fun l hl an' rest' ks' ko' q1 q2 => ?_⟩
        rcases List.mem_cons.1 hl with rfl | hl
        · rw [hf] at q2; cases q2
        · exact i2 l hl an' rest' ks' ko' q1 q2
    · rename_i hlb
      obtain ⟨i1, i2⟩ := each_go h
      refine ⟨i1, fun l hl an' rest' ks' ko' q1 => ?_⟩
      rcases List.mem_cons.1 hl with rfl | hl
      · rw [hlb] at q1; cases q1
      · exact i2 l hl an' rest' ks' ko' q1

theorem scope_of (n : Nat) (hp : PassOk P T S lo lb base M W nt Q1 n) : ScOk P base M W nt Q1 (scopeT lb (pass T std S lo lb n)) := by
  intro body s k Q a w hc hs h hk
  unfold codeOk at hc
  rw [Bool.and_eq_true] at hc
  unfold scopeT at h
  obtain ⟨h1, h2⟩ := each_go h
  have lab : ∀ m, ∀ l an rest ks ko x a w, lb l s = some an → findLabel body l = some rest → keepS s.slots an.keep = some ks → keepO s.objs an.hold = some ko → an.inv x → an.mu x = m →
      SimS base M W nt (an.st ks ko s.ice x) a w → WPl P (flatC rest) (Qg P Q body) a w := by
    intro m
    induction m using Nat.strongRecOn with
    | _ m ih =>
      intro l an rest ks ko x a w q1 q2 q3 q4 hx hm hsx
      subst hm
      refine hp body rest s _ k (some (an.mu x)) Q a w hc.1 (find_ok q2 hc.2) hc.2 (.inr ⟨l, q2⟩) hsx (h2 l (find_lab q2) an rest ks ko q1 q2 q3 q4 x hx) hk ?_
      intro l' an' rest' ks' ko' x' a' w' p1 p2 p3 p4 hx' hlt hs'
      exact ih (an'.mu x') (hlt _ rfl) l' an' rest' ks' ko' x' a' w' p1 p2 p3 p4 hx' rfl hs'
  have := hp body body s s k none Q a w hc.1 hc.2 hc.2 (.inl rfl) hs h1 hk (fun l an rest ks ko x a w q1 q2 q3 q4 hx _ hsx => lab _ l an rest ks ko x a w q1 q2 q3 q4 hx rfl hsx)
  exact wp_scope_goes (goes_of (wp_of_wpl this))

theorem pass_go (hT : TsOk P T) (hS : SumsOk P S) (hm : P.follows .mixedOrders = true) : ∀ n, PassOk P T S lo lb base M W nt Q1 n
  | 0 => by intro body rest bs s k m Q a w _ _ _ _ _ h; cases h
  | n + 1 => by
    intro body rest bs s k m Q a w hn hr hb hsuf hs h hk hl
    have ih := pass_go hT hS hm n
    unfold pass at h
    -- a jump to a label of the scope's own
    have go : ∀ l rest' s' a' w', findLabel body l = some rest' → SimS base M W nt s' a' w' → Sat P Q1 (jump lb (fun rest' s' => pass T std S lo lb n body rest' s' k m bs) body bs m k (.goto l) s') → WPl P (flatC rest') (Qg P Q body) a' w' := by
      intro l rest' s' a' w' hf hs' h'
      simp only [jump, hf] at h'
      split at h'
      · rename_i an hlb
        split at h'
        · rename_i ks hks
          split at h'
          · rename_i ko hko
            obtain ⟨x, i1, i2, i3⟩ := loopEnd_go hs' h'
            exact hl l an rest' ks ko x a' w' hlb hf hks hko i1 i2 i3
          · cases h'
        · cases h'
      · exact ih body rest' bs s' k m Q a' w' hn (find_ok hf hb) hb (.inr ⟨l, hf⟩) hs' h' hk hl
    have := run_go hT hS hm (scope_of n ih) rest hr _ s _ (Qg P Q body) [] a w hs h (fun e s' a' w' hs' h' => ?_) (fun l c' s' a' w' hA hf hs' h' => ?_)
    · simpa using this
    · rw [then_nil]
      cases e with
      | goto l =>
        show Qg P Q body (.goto l) a' w'
        simp only [Qg]
        cases hf : findLabel body l with
        | some rest' => exact goes_of (wp_of_wpl (go l rest' s' a' w' hf hs' h'))
        | none =>
          simp only [jump, hf] at h'
          exact hk (.goto l) s' a' w' hs' h'
      | normal => exact hk .normal s' a' w' hs' h'
      | exit id => exact hk (.exit id) s' a' w' hs' h'
      | ret => exact hk .ret s' a' w' hs' h'
    · rw [List.append_nil]
      rcases hsuf with rfl | ⟨l0, h0⟩
      · exact go l c' s' a' w' hf hs' h'
      · obtain ⟨c'', e1, e2⟩ := find_find hn h0 hf
        rw [← e2]
        exact go l c'' s' a' w' e1 hs' h'

/-- **The run**: what it goes on with behind the code is true behind the code. -/
theorem code_go (hT : TsOk P T) (hS : SumsOk P S) (hm : P.follows .mixedOrders = true) {n : Nat} {c : Code} (hc : codeOk nt c = true) {s : St} {k : K} {Q : Exit → Act → World → Prop} {a : Act} {w : World} (hs : SimS base M W nt s a w)
    (h : Sat P Q1 (run T std S lo (scopeT lb (pass T std S lo lb n)) noL c s k)) (hk : Kon P base M W nt Q1 k Q) : c.wp P Q a w := by
  refine wp_of_wpl ?_
  have := run_go hT hS hm (scope_of n (pass_go hT hS hm n)) c hc noL s k Q [] a w hs h (by rw [then_nil]; exact hk) (fun l c' s' a' w' hA => by cases hA)
  simpa using this
end
end Sy
end Go.Proofs.YtckbbcjbbmgmoaaGreatDoor
namespace Go.Proofs.YtckbbcjbbmgmoaaGreatDoor
namespace Sy
open Go Go.RowKit
set_option linter.unusedSimpArgs false
set_option linter.unusedVariables false
set_option linter.unusedSectionVars false

/-! ### what a run's value is of a value that was told -/
def andL : List Prop → Prop
  | [] => True
  | p :: r => p ∧ andL r
def fits1 (r v : AV) : Prop := match meetA ⟨[], []⟩ r v with
  | some ⟨ps, []⟩ => andL ps
  | _ => False
def fitsL : List AV → List AV → Prop
  | [], [] => True
  | x :: xs, y :: ys => fits1 x y ∧ fitsL xs ys
  | _, _ => False
/-- The value v is r. -/
def fits (r v : AV) : Prop := match r, v with
  | .tup rs, .tup vs => fitsL rs vs
  | r, v => fits1 r v
theorem andL_mem : ∀ {l : List Prop}, andL l → ∀ p, p ∈ l → p
  | [], _, p, h => by cases h
  | q :: l, ⟨h1, h2⟩, p, h => by
    rcases List.mem_cons.1 h with rfl | h
    · exact h1
    · exact andL_mem h2 p h
theorem muOf_no (μ : Mu) : muOf μ [] = noMu := rfl
theorem fits1_R {h : Array Obj} {D : Nat → Prop} {r v : AV} {x : Value} (f : fits1 r v) (hr : R h D noMu v x) : R h D noMu r x := by
  unfold fits1 at f
  split at f
  · rename_i ps e
    have := (meetA_ok (h := h) (D := D) (μ := noMu) e).2 [] x ⟨fun _ _ h => h, andL_mem f⟩ hr
    rwa [muOf_no] at this
  · exact f.elim
theorem fitsL_R {h : Array Obj} {D : Nat → Prop} : ∀ {rs vs : List AV}, fitsL rs vs → rs.length = vs.length ∧ ∀ (i : Nat) r v x, rs[i]? = some r → vs[i]? = some v → R h D noMu v x → R h D noMu r x
  | [], [], _ => ⟨rfl, fun i r v x h => by simp at h⟩
  | r :: rs, v :: vs, ⟨f1, f2⟩ => by
    obtain ⟨l1, h1⟩ := fitsL_R (h := h) (D := D) f2
    refine ⟨by simp [l1], fun i r' v' x hr hv hx => ?_⟩
    cases i with
    | zero => simp at hr hv; subst hr; subst hv; exact fits1_R f1 hx
    | succ i => exact h1 i r' v' x (by simpa using hr) (by simpa using hv) hx
  | [], _ :: _, f => f.elim
  | _ :: _, [], f => f.elim
theorem fits_R {h : Array Obj} {D : Nat → Prop} {r v : AV} {x : Value} (f : fits r v) (hr : R h D noMu v x) : R h D noMu r x := by
  unfold fits at f
  split at f
  · rename_i rs vs
    obtain ⟨us, rfl, l1, h1⟩ := hr.inv_tup
    obtain ⟨l2, h2⟩ := fitsL_R (h := h) (D := D) f
    refine .tup _ _ (by rw [l2, l1]) fun i r x hr hx => ?_
    obtain ⟨v, hv⟩ : ∃ v, vs[i]? = some v := ⟨_, List.getElem?_eq_getElem (by rw [← l2]; exact (List.getElem?_eq_some_iff.1 hr).1)⟩
    exact h2 i r v x hr hv (h1 i v x hv hx)
  · exact fits1_R f hr

/-! ### the results -/
theorem bind_pure' {α : Type} (x : Sem α) : x.bind .pure = x := by
  induction x <;> simp only [Sem.bind] <;> (try (congr 1; try funext _)) <;> (first | rfl | (rename_i ih; exact ih _) | (rename_i ih; exact ih) | (rename_i ih _; exact ih _))
theorem bind_assoc' {α β γ : Type} (x : Sem α) (f : α → Sem β) (g : β → Sem γ) : (x.bind f).bind g = x.bind fun a => (f a).bind g := by
  induction x <;> simp only [Sem.bind] <;> (try (congr 1; try funext _)) <;> (first | rfl | (rename_i ih; exact ih _) | (rename_i ih; exact ih) | (rename_i ih _; exact ih _))
instance : LawfulMonad Sem := LawfulMonad.mk' Sem (fun x => bind_pure' x) (fun _ _ => rfl) (fun x f g => bind_assoc' x f g)
theorem mapM_run {α : Type} {P : Program} {w : World} {k : α → Sem Value} : ∀ {zs : List α} {us : Nat → Value}, (∀ (i : Nat) x, zs[i]? = some x → (k x).run P w = .ok (us i) w) →
    (zs.mapM k).run P w = .ok ((List.range zs.length).map us) w
  | [], us, h => by simp
  | z :: zs, us, h => by
    have ih := mapM_run (zs := zs) (us := fun i => us (i + 1)) (fun i x hx => h (i + 1) x (by simpa using hx))
    rw [List.mapM_cons, Sem.run_bind, h 0 z rfl]
    simp only [Result.andThen_ok, Sem.run_bind, ih, Sem.run_pure]
    rw [List.length_cons, List.range_succ_eq_map]
    simp [Function.comp_def]

section
variable {P : Program} {T : TT} {base : Nat} {M : Two} {W : World} {nt : Nat} {s : St} {a : Act} {w : World} {D : Nat → Prop} {μ : Mu}
def resOp (tmps : Array Value) : ResultVar → Sem Value
  | .tmp t => pure (tmps.getD t undef)
  | .cell a t => do loadVar t (← asAddr (tmps.getD a undef))
theorem res_go (h : Sim base M W nt (aget s.slots) (aget s.objs) (lhas s.ice) a w D μ) (hT : TsOk P T) {x : ResultVar} {v : AV} (e : resV T s x = some v) : ∃ u, (resOp a.tmps x).run P w = .ok u w ∧ R w.heap D μ v u := by
  have ev : ∀ t, R w.heap D μ (evf (aget s.slots) [] (.tmp t)) (a.tmps.getD t undef) := fun t => evf_R h (fun t b ht => by simp [aget] at ht) (.tmp t) (fun v hv => by cases hv)
  cases x with
  | tmp t =>
    simp only [resV, Option.some.injEq] at e
    subst e
    exact ⟨_, rfl, ev t⟩
  | cell p t =>
    simp only [resV] at e
    have hl := load_val h hT (t := t) (ev p) (ob := aget s.objs) (fun _ _ h => h)
    split at e
    · rename_i v' os ice hc
      rw [hc] at hl
      cases e
      obtain ⟨_, _, y, hy, r⟩ := hl
      refine ⟨y, ?_, r⟩
      simp only [resOp]
      generalize a.tmps.getD p undef = u at *
      unfold Instr.loadAt Instr.sureAddr at hy
      unfold asAddr
      split at hy
      · rename_i q; simpa using hy
      · simp [stuck] at hy
    · cases e
theorem ress_go (h : Sim base M W nt (aget s.slots) (aget s.objs) (lhas s.ice) a w D μ) (hT : TsOk P T) : ∀ {rs : List ResultVar} {vs : List AV}, resVs T s rs = some vs →
    vs.length = rs.length ∧ ∃ us : Nat → Value, (∀ (i : Nat) x, rs[i]? = some x → (resOp a.tmps x).run P w = .ok (us i) w) ∧ ∀ (i : Nat) v, vs[i]? = some v → R w.heap D μ v (us i)
  | [], vs, e => by cases e; exact ⟨rfl, fun _ => undef, fun i x hx => by simp at hx, fun i x hx => by simp at hx⟩
  | x :: rs, vs, e => by
    unfold resVs at e
    split at e
    · rename_i v hv
      split at e
      · rename_i l hl
        cases e
        obtain ⟨u, hu, r⟩ := res_go h hT hv
        obtain ⟨l1, us, h1, h2⟩ := ress_go h hT hl
        refine ⟨by simp [l1], fun i => match i with | 0 => u | i + 1 => us i, fun i x' hx => ?_, fun i v' hv' => ?_⟩
        · cases i with
          | zero => simp at hx; subst hx; exact hu
          | succ i => exact h1 i x' (by simpa using hx)
        · cases i with
          | zero => simp at hv'; subst hv'; exact r
          | succ i => exact h2 i v' (by simpa using hv')
      · cases e
    · cases e
theorem results_run {fn : Func} {tmps : Array Value} {us : Nat → Value} (h : ∀ (i : Nat) x, fn.results.toList[i]? = some x → (resOp tmps x).run P w = .ok (us i) w) :
    (results fn tmps).run P w = .ok (if fn.results.size = 1 then us 0 else .tuple ((List.range fn.results.size).map us).toArray) w := by
  have h1 : (fn.results.mapM (resOp tmps)).run P w = .ok ((List.range fn.results.size).map us).toArray w := by
    have e : fn.results = fn.results.toList.toArray := by simp
    rw [e, List.mapM_toArray, map_eq_pure_bind, Sem.run_bind, mapM_run h]
    simp
  have h2 : results fn tmps = (do
      let vs ← fn.results.mapM (resOp tmps)
      pure (if h : vs.size = 1 then vs[0] else .tuple vs)) := by
    unfold results
    congr 1
  rw [h2, Sem.run_bind, h1]
  simp only [Result.andThen_ok, Sem.run_pure]
  congr 1
  by_cases e : fn.results.size = 1
  · rw [if_pos e, dif_pos (by simp [e])]
    try simp
  · rw [if_neg e, dif_neg (by simp [e])]
end

theorem aget_number {α : Type} : ∀ (xs : List α) (i t : Nat), aget (number i xs) t = if i ≤ t then xs[t - i]? else none
  | [], i, t => by simp [number, aget]
  | x :: xs, i, t => by
    unfold number aget
    cases e : nbeq i t with
    | true => have := beq_eq e; subst this; simp
    | false =>
      have hne : i ≠ t := by rintro rfl; rw [beq_same] at e; cases e
      simp only
      rw [aget_number xs (i + 1) t]
      by_cases h : i ≤ t
      · rw [if_pos (by omega), if_pos h]
        obtain ⟨k, hk⟩ : ∃ k, t - i = k + 1 := ⟨t - i - 1, by omega⟩
        rw [hk, show t - (i + 1) = k by omega]
        simp
      · rw [if_neg (by omega), if_neg h]

theorem callFunc_run {P : Program} {f : FuncId} {fn : Func} {args : Array Value} {w : World} (hf : P.funcs[f]? = some fn) (hn : (fn.name == "runtime.NumGoroutine") = false) {c : Code} (hb : fn.body = some c) :
    (callFunc f args).run P w = .ok (.enter f args) w := by
  have hn' : ¬ fn.name = "runtime.NumGoroutine" := by simpa using hn
  unfold callFunc
  simp [program, Sem.run, hf, hn', hb]

/-- **A function**: if the executor's run of it ends in r wherever it ends, the function answers r. -/
theorem acalls_of {P : Program} {T : TT} {S : Sums} {lo lb : Nat → St → Option Ann} {n : Nat} {f : FuncId} {fn : Func} {c : Code} {xs : List AV} {r : AV} (hf : P.funcs[f]? = some fn) (hb : fn.body = some c) (hn : (fn.name == "runtime.NumGoroutine") = false)
    (hc : codeOk fn.ntmps c = true) (hx : (nble xs.length fn.ntmps && nble fn.ntmps 500000) = true) (hT : TsOk P T) (hS : SumsOk P S) (hm : P.follows .mixedOrders = true) (h : Sat P (fits r) (runF T std S lo lb n fn xs)) : ACalls P f xs r := by
  intro D w vs hD hxs hg
  rw [Bool.and_eq_true] at hx
  have hnb := ble_le hx.2
  have hx := ble_le hx.1
  unfold CallTo
  rw [callFunc_run hf hn hb]
  simp only
  refine calls_of_wp hf hb ?_
  unfold runF at h
  rw [hb] at h
  refine code_go (base := w.heap.size) (M := ⟨fun _ => False, D, fun _ => none⟩) (W := w) hT hS hm hc ⟨⟨D, noMu, ?_⟩, fun t b ht => by simp [aget] at ht⟩ h (fun e s a w' hs h' => ?_)
  · refine { os := rfl, tape := rfl, output := rfl, size := Nat.le_refl _, bs := Nat.le_refl _, old := fun _ _ _ => rfl, defers := rfl, tmps := ?_, slots := fun t v hv => ?_, dlt := hD, low := fun b hb _ => .inl hb, dom := fun id => by simp [aget], obs := fun id o x ho => (by simp [aget] at ho), inj := fun id id' b z z' o o' h => (by cases h), own := fun id b z h => (by cases h), kd := fun id b z o h => (by cases h), icy := fun id h => by (simp [lhas] at h), ntb := hnb, pin := fun id y _ h => (by cases h), gl := ⟨hg, GOk_size hg, fun _ h => h.elim⟩ }
    · rw [hxs.1] at hx
      simp; omega
    · rw [aget_number, if_pos (by omega), Nat.sub_zero] at hv
      have hlt : t < vs.size := by rw [← hxs.1]; exact (List.getElem?_eq_some_iff.1 hv).1
      have h1 : vs[t]? = some vs[t] := by simp [hlt]
      have h2 : (vs ++ Array.replicate (fn.ntmps - vs.size) undef).getD t undef = vs[t] := by
        rw [Array.getD_eq_getD_getElem?, Array.getElem?_append_left hlt, h1]; rfl
      rw [h2]
      exact hxs.2 t v vs[t] hv h1
  · obtain ⟨⟨D1, μ, S1⟩, _⟩ := hs
    have key : Sat P (fits r) (endT T std fn.results.toList s) → a.defers = [] ∧ ∃ v, (results fn a.tmps).run P w' = .ok v w' ∧ ∃ v' D', Ending.returned v = .returned v' ∧ Below w.heap.size w w' ∧ (∀ b, D b → D' b) ∧ (∀ b, D' b → D b ∨ (w.heap.size ≤ b ∧ b < w'.heap.size)) ∧ R w'.heap D' noMu r v' := by
      intro h'
      unfold endT at h'
      split at h'
      · rename_i vs1 hvs
        obtain ⟨l1, us, h1, h2⟩ := ress_go S1 hT hvs
        have hres := results_run (P := P) (w := w') (fn := fn) (tmps := a.tmps) h1
        have hB : Below w.heap.size w w' := ⟨S1.os, S1.tape, S1.output, S1.size, fun b hb => S1.old b hb (fun h => h)⟩
        -- the blocks that the results may lead to
        have hD' : ∀ b, (D b ∨ DF D1 μ (idsVs vs1) b) → D b ∨ (w.heap.size ≤ b ∧ b < w'.heap.size) := by
          rintro b (hb | hb | ⟨id, z, m, _, hm⟩)
          · exact .inl hb
          · by_cases hlt : b < w.heap.size
            · rcases S1.low b hb hlt with h | h
              · exact .inl h
              · exact h.elim
            · exact .inr ⟨by omega, S1.dlt b hb⟩
          · rcases S1.own id b _ hm with ⟨q1, q2 | q2⟩
            · exact .inr ⟨q2, q1⟩
            · exact q2.elim
        have imm : ∀ vs2, immVs std (aget s.objs) vs1 = some vs2 → vs2.length = vs1.length ∧ ∀ (i : Nat) v, vs2[i]? = some v → R w'.heap (fun b => D b ∨ DF D1 μ (idsVs vs1) b) noMu v (us i) := by
          intro vs2 e2
          obtain ⟨i1, _, i3⟩ := immVs_ok S1 (ob := aget s.objs) (fun _ _ h => h) e2 (ids := idsVs vs1) (fun _ h => h)
          refine ⟨i1, fun i v hv => ?_⟩
          obtain ⟨v1, hv1⟩ : ∃ v1, vs1[i]? = some v1 := ⟨_, List.getElem?_eq_getElem (by rw [← i1]; exact (List.getElem?_eq_some_iff.1 hv).1)⟩
          exact (i3 i v1 v (us i) hv1 hv (h2 i v1 hv1)).mono (fun _ _ => rfl) (fun b hb => .inr hb) (fun _ _ h => by cases h)
        refine ⟨S1.defers, _, hres, _, fun b => D b ∨ DF D1 μ (idsVs vs1) b, rfl, hB, fun b hb => .inl hb, hD', ?_⟩
        split at h'
        · rename_i v1 e2
          cases h' with
          | done h' =>
            obtain ⟨i1, i2⟩ := imm _ e2
            have hsz : fn.results.size = 1 := by rw [← Array.length_toList, ← l1, ← i1]; rfl
            rw [if_pos hsz]
            exact fits_R h' (i2 0 v1 rfl)
        · rename_i vs2 hne e2
          cases h' with
          | done h' =>
            obtain ⟨i1, i2⟩ := imm _ e2
            have hl : vs2.length = fn.results.size := by rw [i1, l1, Array.length_toList]
            have hsz : ¬ fn.results.size = 1 := by
              rw [← hl]
              intro h1
              obtain ⟨v, hv⟩ := List.length_eq_one_iff.1 h1
              exact hne v hv
            rw [if_neg hsz]
            refine fits_R h' (.tup _ _ (by simp [hl]) fun i v x hv hx => ?_)
            have hlt : i < fn.results.size := by rw [← hl]; exact (List.getElem?_eq_some_iff.1 hv).1
            simp [hlt] at hx
            subst hx
            exact i2 i v hv
        · cases h'
      · cases h'
    cases e with
    | normal => exact key h'
    | ret => exact key h'
    | exit id => cases h'
    | goto l => cases h'
end Sy
end Go.Proofs.YtckbbcjbbmgmoaaGreatDoor
namespace Go.Proofs.YtckbbcjbbmgmoaaGreatDoor
namespace Sy
open Go Go.RowKit

section
variable (a b c : Int) (l m : List UInt8) (n : Nat)
theorem ilt_t : (ilt a b = true) = (a < b) := by simp [ilt]
theorem ilt_f : (ilt a b = false) = (b ≤ a) := by simp [ilt]
theorem ile_t : (ile a b = true) = (a ≤ b) := by simp [ile]
theorem ile_f : (ile a b = false) = (b < a) := by simp [ile]
theorem ieq_t : (ieq a b = true) = (a = b) := by simp [ieq]
theorem ieq_f : (ieq a b = false) = (a ≠ b) := by simp [ieq]
theorem ine_t : (ine a b = true) = (a ≠ b) := by simp [ine]
theorem ine_f : (ine a b = false) = (a = b) := by simp [ine]
theorem seq_t : (seq l m = true) = (l = m) := by simp [seq]
theorem seq_f : (seq l m = false) = (l ≠ m) := by simp [seq]
theorem inR_t : (inR a b = true) = (0 ≤ a ∧ a < b) := by simp [inR]
theorem inS_t : (inS a b c = true) = (0 ≤ a ∧ a ≤ b ∧ b ≤ c) := by simp [inS, and_assoc]
theorem inC_t : (inC a b = true) = (0 ≤ a ∧ a ≤ b) := by simp [inC]
theorem mkOk_t (eb : Nat) : (mkOk eb a b = true) = (0 ≤ a ∧ a ≤ b ∧ (eb : Int) * b ≤ 140737488355328 ∧ b ≤ 9223372036854775807) := by simp [mkOk, and_assoc]
theorem roomOk_t (eb p q : Nat) : (roomOk eb p q = true) = ((p + q) * eb ≤ 140737488355328 ∧ p + q ≤ 9223372036854775807) := by simp [roomOk]
theorem catOk_t : (catOk l m = true) = (l.length + m.length ≤ 9223372036854775807) := by simp [catOk]
theorem fits_bool (x y : Bool) : fits (.bool x) (.bool y) = (y = x) := by simp [fits, fits1, meetA, meetV, Meet.add, andL]
theorem fits_int (k : IntKind) : fits (.int k a) (.int k b) = (b = a) := by simp [fits, fits1, meetA, meetV, Meet.add, andL]
theorem fits_str : fits (.str l) (.str m) = (m = l) := by simp [fits, fits1, meetA, meetV, Meet.add, andL]
theorem fits1_bool (x y : Bool) : fits1 (.bool x) (.bool y) = (y = x) := by simp [fits1, meetA, meetV, Meet.add, andL]
theorem fits1_int (k : IntKind) : fits1 (.int k a) (.int k b) = (b = a) := by simp [fits1, meetA, meetV, Meet.add, andL]
theorem fits1_str : fits1 (.str l) (.str m) = (m = l) := by simp [fits1, meetA, meetV, Meet.add, andL]
theorem fits_tup (x y : List AV) : fits (.tup x) (.tup y) = fitsL x y := rfl
theorem fitsL_cons (x y : AV) (r q : List AV) : fitsL (x :: r) (y :: q) = (fits1 x y ∧ fitsL r q) := rfl
theorem fitsL_nil : fitsL [] [] = True := rfl
theorem slen_is : slen l = l.length := rfl
theorem scat_is : scat l m = l ++ m := rfl
theorem ssub_is : ssub l a b = (l.take b.toNat).drop a.toNat := rfl
theorem sidx_is : sidx l a = (l.getD a.toNat 0).toNat := rfl
theorem lenN_is : lenN l = l.length := rfl
theorem fits3_is (p q r : Nat) : fits3 p q r = (p + q ≤ r) := rfl
theorem nadd0 (p : Nat) : Nat.add 0 p = p := Nat.zero_add p
theorem imin_is : imin a b = min a b := rfl
theorem imax_is : imax a b = max a b := rfl
theorem natI_is : natI n = n := rfl
end
theorem w_i64 (n : Int) : IntKind.i64.wrap n = (n + 9223372036854775808) % 18446744073709551616 - 9223372036854775808 := by simp [IntKind.wrap, IntKind.bits, IntKind.signed]; omega
theorem w_i32 (n : Int) : IntKind.i32.wrap n = (n + 2147483648) % 4294967296 - 2147483648 := by simp [IntKind.wrap, IntKind.bits, IntKind.signed]; omega
theorem w_u64 (n : Int) : IntKind.u64.wrap n = n % 18446744073709551616 := by simp [IntKind.wrap, IntKind.bits, IntKind.signed]
theorem w_u32 (n : Int) : IntKind.u32.wrap n = n % 4294967296 := by simp [IntKind.wrap, IntKind.bits, IntKind.signed]
theorem w_u16 (n : Int) : IntKind.u16.wrap n = n % 65536 := by simp [IntKind.wrap, IntKind.bits, IntKind.signed]
theorem w_u8 (n : Int) : IntKind.u8.wrap n = n % 256 := by simp [IntKind.wrap, IntKind.bits, IntKind.signed]
/-! ### A result that is a struct, part by part -/
theorem pairUp_ps (ps q : List Prop) (ids : List (Nat × Option Nat)) (x y : Nat) : pairUp ⟨ps ++ q, ids⟩ x y = (pairUp ⟨ps, ids⟩ x y).map fun m => ⟨m.ps ++ q, m.ids⟩ := by
  unfold pairUp
  dsimp only
  repeat' split
  all_goals rfl
theorem pairNil_ps (ps q : List Prop) (ids : List (Nat × Option Nat)) (x : Nat) : pairNil ⟨ps ++ q, ids⟩ x = (pairNil ⟨ps, ids⟩ x).map fun m => ⟨m.ps ++ q, m.ids⟩ := by
  unfold pairNil
  dsimp only
  split <;> rfl
theorem meetV_ps (ps q : List Prop) (ids : List (Nat × Option Nat)) (x y : AV) : meetV ⟨ps ++ q, ids⟩ x y = (meetV ⟨ps, ids⟩ x y).map fun m => ⟨m.ps ++ q, m.ids⟩ := by
  cases x <;> cases y <;> first
    | rfl
    | (simp only [meetV, Meet.add, pairUp_ps, pairNil_ps]; done)
    | (simp only [meetV, Meet.add, pairUp_ps, pairNil_ps]
       (repeat' split) <;> (try simp_all) <;> (try (rename_i hh _; subst hh; simp)) <;> (try (rename_i hh _ _; subst hh; simp)))
theorem meetL_ps : ∀ (xs ys : List AV) (ps q : List Prop) (ids : List (Nat × Option Nat)), meetL ⟨ps ++ q, ids⟩ xs ys = (meetL ⟨ps, ids⟩ xs ys).map fun m => ⟨m.ps ++ q, m.ids⟩
  | [], [], ps, q, ids => rfl
  | [], _ :: _, ps, q, ids => rfl
  | _ :: _, [], ps, q, ids => rfl
  | x :: xs, y :: ys, ps, q, ids => by
    unfold meetL
    rw [meetV_ps]
    cases e : meetV ⟨ps, ids⟩ x y with
    | none => rfl
    | some m => exact meetL_ps xs ys m.ps q m.ids
theorem andL_app : ∀ (p : List Prop) (q : Prop), andL (p ++ [q]) = (q ∧ andL p)
  | [], q => by simp [andL]
  | a :: p, q => by
    show (a ∧ andL (p ++ [q])) = (q ∧ a ∧ andL p)
    rw [andL_app p q]
    exact propext ⟨fun ⟨h1, h2, h3⟩ => ⟨h2, h1, h3⟩, fun ⟨h1, h2, h3⟩ => ⟨h2, h1, h3⟩⟩
theorem fits1_agg_cons {x y : AV} {q : Prop} (e : meetV ⟨[], []⟩ x y = some ⟨[q], []⟩) (xs ys : List AV) : fits1 (.agg (x :: xs)) (.agg (y :: ys)) = (q ∧ fits1 (.agg xs) (.agg ys)) := by
  unfold fits1 meetA
  simp only [meetL, e]
  have := meetL_ps xs ys [] [q] []
  rw [List.nil_append] at this
  rw [this]
  cases meetL ⟨[], []⟩ xs ys with
  | none => simp
  | some m =>
    obtain ⟨ps, ids⟩ := m
    cases ids with
    | nil => exact andL_app ps q
    | cons a b => simp
theorem fits1_agg0 : fits1 (.agg []) (.agg []) = True := rfl
theorem fits1_aggi (k : IntKind) (a b : Int) (xs ys : List AV) : fits1 (.agg (.int k a :: xs)) (.agg (.int k b :: ys)) = (b = a ∧ fits1 (.agg xs) (.agg ys)) := fits1_agg_cons (by simp [meetV, Meet.add]) _ _
theorem fits1_aggs (a b : List UInt8) (xs ys : List AV) : fits1 (.agg (.str a :: xs)) (.agg (.str b :: ys)) = (b = a ∧ fits1 (.agg xs) (.agg ys)) := fits1_agg_cons rfl _ _
theorem fits1_aggb (a b : Bool) (xs ys : List AV) : fits1 (.agg (.bool a :: xs)) (.agg (.bool b :: ys)) = (b = a ∧ fits1 (.agg xs) (.agg ys)) := fits1_agg_cons rfl _ _
theorem fits1_lst (sz n n' : Nat) (g g' : Nat → Nat → AV) : fits1 (.lst sz n g) (.lst sz n' g') = (n' = n ∧ ∀ i j, i < n → j < sz → g' i j = g i j) := by simp [fits1, meetA, meetV, Meet.add, beq_same, andL]
theorem fits_lst (sz n n' : Nat) (g g' : Nat → Nat → AV) : fits (.lst sz n g) (.lst sz n' g') = (n' = n ∧ ∀ i j, i < n → j < sz → g' i j = g i j) := fits1_lst sz n n' g g'
theorem fits1_nils (sz n : Nat) (g : Nat → Nat → AV) : fits1 (.lst sz n g) .nils = (0 = n) := by simp [fits1, meetA, meetV, Meet.add, andL]
theorem fits_nils (sz n : Nat) (g : Nat → Nat → AV) : fits (.lst sz n g) .nils = (0 = n) := fits1_nils sz n g
theorem fits1_aggl (sz n n' : Nat) (g g' : Nat → Nat → AV) (xs ys : List AV) : fits1 (.agg (.lst sz n g :: xs)) (.agg (.lst sz n' g' :: ys)) = ((n' = n ∧ ∀ i j, i < n → j < sz → g' i j = g i j) ∧ fits1 (.agg xs) (.agg ys)) := fits1_agg_cons (by simp [meetV, Meet.add, beq_same]) _ _
theorem fits1_aggn (sz n : Nat) (g : Nat → Nat → AV) (xs ys : List AV) : fits1 (.agg (.lst sz n g :: xs)) (.agg (.nils :: ys)) = (0 = n ∧ fits1 (.agg xs) (.agg ys)) := fits1_agg_cons rfl _ _
theorem fits1_arr (n : Nat) (g g' : Nat → AV) : fits1 (.arr n g) (.arr n g') = (∀ j, j < n → g' j = g j) := by simp [fits1, meetA, meetV, Meet.add, beq_same, andL]
theorem fits_arr (n : Nat) (g g' : Nat → AV) : fits (.arr n g) (.arr n g') = (∀ j, j < n → g' j = g j) := fits1_arr n g g'
theorem fits_agg0 : fits (.agg []) (.agg []) = True := rfl
theorem fits_aggi (k : IntKind) (a b : Int) (xs ys : List AV) : fits (.agg (.int k a :: xs)) (.agg (.int k b :: ys)) = (b = a ∧ fits1 (.agg xs) (.agg ys)) := fits1_aggi _ _ _ _ _
theorem fits_aggs (a b : List UInt8) (xs ys : List AV) : fits (.agg (.str a :: xs)) (.agg (.str b :: ys)) = (b = a ∧ fits1 (.agg xs) (.agg ys)) := fits1_aggs _ _ _ _
theorem fits_aggb (a b : Bool) (xs ys : List AV) : fits (.agg (.bool a :: xs)) (.agg (.bool b :: ys)) = (b = a ∧ fits1 (.agg xs) (.agg ys)) := fits1_aggb _ _ _ _

theorem str_eq {h : Array Obj} {D : Nat → Prop} {μ : Mu} {l : List UInt8} {v : Value} (r : R h D μ (.str l) v) : v = .string ⟨l.toArray⟩ := by
  obtain ⟨s, rfl, rfl⟩ := r.inv_str
  simp
theorem str_r (h : Array Obj) (D : Nat → Prop) (μ : Mu) (l : List UInt8) : R h D μ (.str l) (.string ⟨l.toArray⟩) := .str l _ (by simp)
/-- A contract of the old kind: the arguments are told by what is said of them, the world grows at most. -/
theorem ac_of_below {P : Program} {f : FuncId} {fn : Func} {c : Code} {xs : List AV} {args : Array Value} {v : Value} {r : AV} (hf : P.funcs[f]? = some fn) (hb : fn.body = some c) (hn : (fn.name == "runtime.NumGoroutine") = false)
    (ha : ∀ h D vs, RL h D noMu xs vs → vs = args) (hv : ∀ h D, R h D noMu r v) (h : ∀ w, Calls P f args w fun e w' => e = .returned v ∧ Below w.heap.size w w') : ACalls P f xs r := by
  intro D w vs hD hxs hg
  have := ha _ _ _ hxs
  subst this
  unfold CallTo
  rw [callFunc_run hf hn hb]
  refine (h w).mono ?_
  rintro e w' ⟨rfl, hw⟩
  exact ⟨v, D, rfl, hw, fun _ h => h, fun b hb => .inl hb, hv _ _⟩
/-- Arguments that are told, one by one. -/
def Tells (x : AV) (v : Value) : Prop := ∀ h D u, R h D noMu x u → u = v
theorem tells_int (k : IntKind) (n : Int) : Tells (.int k n) (.int k n) := fun _ _ _ r => by cases r; rfl
theorem tells_str (l : List UInt8) : Tells (.str l) (.string ⟨l.toArray⟩) := fun _ _ _ r => str_eq r
theorem args1 {x : AV} {v : Value} (hx : Tells x v) : ∀ h D vs, RL h D noMu [x] vs → vs = #[v] := by
  intro h D vs ⟨hl, hr⟩
  obtain ⟨a, ha⟩ : ∃ a, vs.toList = [a] := List.length_eq_one_iff.1 (by simpa using hl.symm)
  have : vs = #[a] := by rw [← Array.toArray_toList (xs := vs), ha]
  subst this
  rw [hx _ _ a (hr 0 x a rfl rfl)]
theorem args2 {x y : AV} {v u : Value} (hx : Tells x v) (hy : Tells y u) : ∀ h D vs, RL h D noMu [x, y] vs → vs = #[v, u] := by
  intro h D vs ⟨hl, hr⟩
  obtain ⟨a, b, ha⟩ : ∃ a b, vs.toList = [a, b] := by
    have hl : vs.toList.length = 2 := by simpa using hl.symm
    match vs.toList, hl with
    | [a, b], _ => exact ⟨a, b, rfl⟩
  have : vs = #[a, b] := by rw [← Array.toArray_toList (xs := vs), ha]
  subst this
  rw [hx _ _ a (hr 0 x a rfl rfl), hy _ _ b (hr 1 y b rfl rfl)]

/-! ### Summaries, function by function -/
abbrev Ent1 := Nat × (List AV → Option (Prop × AV))
abbrev EntM := Nat × MSum
def fzOf (l : List Ent1) : FuncId → List AV → Option (Prop × AV) := fun f xs => match aget l f with | some g => g xs | none => none
def sumOf (l : List Ent1) : Sums := ⟨fzOf l, fun _ => none⟩
def sumOfM (l : List Ent1) (lm : List EntM) : Sums := ⟨fzOf l, aget lm⟩
def Good (P : Program) (e : Ent1) : Prop := ∀ xs p r, e.2 xs = some (p, r) → p → ACalls P e.1 xs r
def Goods (P : Program) : List Ent1 → Prop
  | [] => True
  | e :: l => Good P e ∧ Goods P l
def GoodM (P : Program) (e : EntM) : Prop := ∀ raw ob T, e.2 raw ob = some T → T.p → MCalls P e.1 T.xs T.O T.r T.O1
def GoodMs (P : Program) : List EntM → Prop
  | [] => True
  | e :: l => GoodM P e ∧ GoodMs P l
theorem fzOf_ok {P : Program} : ∀ {l : List Ent1}, Goods P l → ∀ f xs p r, fzOf l f xs = some (p, r) → p → ACalls P f xs r
  | [], _, f, xs, p, r, h => by cases h
  | (n, g) :: l, ⟨hg, hl⟩, f, xs, p, r, h => by
    unfold fzOf aget at h
    by_cases e : n = f
    · subst e
      rw [beq_same] at h
      exact hg xs p r h
    · rw [beq_no e] at h
      exact fzOf_ok hl f xs p r h
theorem mtOf_ok {P : Program} : ∀ {l : List EntM}, GoodMs P l → ∀ f m, aget l f = some m → ∀ raw ob T, m raw ob = some T → T.p → MCalls P f T.xs T.O T.r T.O1
  | [], _, f, m, h => by cases h
  | (n, g) :: l, ⟨hg, hl⟩, f, m, h => by
    unfold aget at h
    by_cases e : n = f
    · subst e
      rw [beq_same] at h
      cases h
      exact hg
    · rw [beq_no e] at h
      exact mtOf_ok hl f m h
theorem sumOf_ok {P : Program} {l : List Ent1} (h : Goods P l) : SumsOk P (sumOf l) := ⟨fzOf_ok h, fun f m h => by cases h⟩
theorem sumOfM_ok {P : Program} {l : List Ent1} {lm : List EntM} (h : Goods P l) (hm : GoodMs P lm) : SumsOk P (sumOfM l lm) := ⟨fzOf_ok h, mtOf_ok hm⟩
/-- The law's own function answers true: the walk of the law. -/
theorem law_of_ac {P : Program} {f : FuncId} {fn : Func} {c : Code} {xs : List AV} {vs : Array Value} (hf : P.funcs[f]? = some fn) (hb : fn.body = some c) (hn : (fn.name == "runtime.NumGoroutine") = false)
    (h : ACalls P f xs (.bool true)) (D : Nat → Prop) (w : World) (hD : ∀ b, D b → b < w.heap.size) (hr : RL w.heap D noMu xs vs) (hg : GOk w := by trivial) : Calls P f vs w fun e w' => e = .returned (.bool true) ∧ Below w.heap.size w w' := by
  have h := h D w vs hD hr hg
  unfold CallTo at h
  rw [callFunc_run hf hn hb] at h
  refine h.mono ?_
  rintro e w' ⟨v, D', rfl, hw, _, _, r⟩
  cases r
  exact ⟨rfl, hw⟩
theorem rl_nil {h : Array Obj} {D : Nat → Prop} : RL h D noMu [] #[] := ⟨rfl, fun i x v h => by simp at h⟩
theorem rl_of {h : Array Obj} {D : Nat → Prop} {xs : List AV} {vs : Array Value} {x : AV} {v : Value} (hx : R h D noMu x v) (hr : RL h D noMu xs ⟨vs.toList⟩) : RL h D noMu (x :: xs) ⟨v :: vs.toList⟩ := by
  obtain ⟨h1, h2⟩ := hr
  refine ⟨by simpa using h1, ?_⟩
  intro i y u hy hu
  cases i with
  | zero => simp at hy hu; subst hy hu; exact hx
  | succ i => simp at hy hu; exact h2 i y u hy (by simpa using hu)
theorem blt_t {p q : Nat} (h : p < q) : nblt p q = true := by rw [nblt_eq]; exact h
theorem blt_f {p q : Nat} (h : ¬ p < q) : nblt p q = false := by rw [Bool.eq_false_iff, ne_eq, nblt_eq]; exact h
theorem lst_same {h : Array Obj} {D : Nat → Prop} {μ : Mu} {sz n : Nat} {g g' : Nat → Nat → AV} {v : Value} (r : R h D μ (.lst sz n g) v) (e : ∀ i j, i < n → j < sz → g i j = g' i j) : R h D μ (.lst sz n g') v := by
  cases r with
  | lst0 sz get a cap hn => exact .lst0 _ _ _ _ hn
  | lst sz n get b o cap vs hD hc hv h1 hr => exact .lst _ _ _ b o cap vs hD hc hv h1 (fun i j hi hj => by rw [← e i j hi hj]; exact hr i j hi hj)
set_option linter.defProp false in
/-- The leaf operations, all together (one name for the simplifier). -/
def sySet := And.intro @ilt_t (And.intro @ilt_f (And.intro @ile_t (And.intro @ile_f (And.intro @ieq_t (And.intro @ieq_f (And.intro @ine_t (And.intro @ine_f (And.intro @seq_t (And.intro @seq_f (And.intro @inR_t (And.intro @inS_t (And.intro @inC_t (And.intro @mkOk_t (And.intro @roomOk_t (And.intro @catOk_t (And.intro @fits_bool (And.intro @fits_int (And.intro @fits_str (And.intro @fits1_bool (And.intro @fits1_int (And.intro @fits1_str (And.intro @fits_tup (And.intro @fitsL_cons (And.intro @fitsL_nil (And.intro @slen_is (And.intro @scat_is (And.intro @ssub_is (And.intro @sidx_is (And.intro @natI_is (And.intro @imin_is (And.intro @imax_is (And.intro @Bool.not_eq_true' (And.intro @Bool.not_eq_false' (And.intro @Bool.and_eq_true (And.intro @Bool.and_eq_false_imp (And.intro @Bool.or_eq_true (And.intro @Bool.or_eq_false_iff (And.intro @Bool.not_true (And.intro @Bool.not_false (And.intro @w_i64 (And.intro @w_i32 (And.intro @w_u64 (And.intro @w_u32 (And.intro @w_u16 (And.intro @w_u8 (And.intro @Int.zero_add (And.intro @lenN_is (And.intro @fits3_is (And.intro @nadd0 (And.intro @fits1_agg0 (And.intro @fits1_aggi (And.intro @fits1_aggs (And.intro @fits1_aggb (And.intro @fits_agg0 (And.intro @fits_aggi (And.intro @fits_aggs (And.intro @fits_aggb (And.intro @fits1_lst (And.intro @fits_lst (And.intro @fits1_nils (And.intro @fits_nils (And.intro @fits1_aggl (And.intro @fits1_aggn (And.intro @fits1_arr @fits_arr))))))))))))))))))))))))))))))))))))))))))))))))))))))))))))))))
end Sy
end Go.Proofs.YtckbbcjbbmgmoaaGreatDoor
namespace Go.Proofs.YtckbbcjbbmgmoaaGreatDoor
namespace Sy
open Go Go.RowKit
set_option linter.unusedSimpArgs false
set_option linter.unusedVariables false
set_option linter.unusedSectionVars false

def pins : List (Nat × Ob) → List Nat
  | [] => []
  | (n, _) :: r => match isPin n with | true => n :: pins r | false => pins r
def allPin : List (Nat × Ob) → Bool
  | [] => true
  | (n, _) :: r => match isPin n with | true => allPin r | false => false
section
variable (T : TT) (L : Seal) (S : Sums) (lo lb : Nat → St → Option Ann)
def endM (rts : List AV) (O1 : List (Nat × Ob)) (rs : List ResultVar) (s : St) : Tree :=
  match resVs T s rs with
  | some vs => match nbeq (llen vs) (llen rts) with
    | true => meetT ⟨numb 0 vs, s.objs, s.ice, []⟩ ⟨numb 0 rts, O1, [], []⟩ (pins O1) .yes
    | false => .fail 263
  | none => .fail 264
def finM (rts : List AV) (O1 : List (Nat × Ob)) (rs : List ResultVar) : K := fun e s => match e with
  | .normal => endM T rts O1 rs s
  | .ret => endM T rts O1 rs s
  | _ => .fail 262
def runM (n : Nat) (f : Func) (xs : List AV) (O : List (Nat × Ob)) (rts : List AV) (O1 : List (Nat × Ob)) : Tree :=
  match f.body with
  | some c => run T L S lo (scopeT lb (pass T L S lo lb n)) noL c ⟨numb 0 xs, O, [], []⟩ (finM T rts O1 f.results.toList)
  | none => .fail 270
end
def resOf : List AV → AV
  | [r] => r
  | rs => .tup rs
theorem allPin_get : ∀ {O : List (Nat × Ob)}, allPin O = true → ∀ n, aget O n ≠ none → isPin n = true
  | [], _, n, h => by simp [aget] at h
  | (m, o) :: r, e, n, h => by
    unfold allPin at e
    unfold aget at h
    split at e
    · rename_i hp
      split at h
      · rename_i hb; rw [← beq_eq hb]; exact hp
      · exact allPin_get e n h
    · cases e

/-- **A function** that turns its caller's blocks: if the executor's run of it ends as told wherever it ends, it does so. -/
theorem mcalls_of {P : Program} {T : TT} {S : Sums} {lo lb : Nat → St → Option Ann} {n : Nat} {f : FuncId} {fn : Func} {c : Code} {xs : List AV} {O : List (Nat × Ob)} {rts : List AV} {O1 : List (Nat × Ob)} (hf : P.funcs[f]? = some fn) (hb : fn.body = some c) (hn : (fn.name == "runtime.NumGoroutine") = false)
    (hc : codeOk fn.ntmps c = true) (hx : (nble xs.length fn.ntmps && nble fn.ntmps 500000 && nble fn.results.size 500000 && allPin O) = true) (hT : TsOk P T) (hS : SumsOk P S) (hm : P.follows .mixedOrders = true) {Q : AV → Prop} (h : Sat P Q (runM T std S lo lb n fn xs O rts O1)) : MCalls P f xs O (resOf rts) O1 := by
  intro D w μ vs hD hxs hdom hobs hinj hown hg hgb
  rw [Bool.and_eq_true, Bool.and_eq_true, Bool.and_eq_true] at hx
  obtain ⟨⟨⟨hx, hnb⟩, hrb⟩, hpin⟩ := hx
  have hx := ble_le hx
  have hnb := ble_le hnb
  have hrb := ble_le hrb
  unfold CallTo
  rw [callFunc_run hf hn hb]
  simp only
  refine calls_of_wp hf hb ?_
  unfold runM at h
  rw [hb] at h
  refine code_go (base := w.heap.size) (M := ⟨fun b => ∃ n z, μ n = some (some (b, z)), D, fun n => (μ n).getD none⟩) (W := w) hT hS hm hc ⟨⟨D, μ, ?_⟩, fun t b ht => by simp [aget] at ht⟩ h (fun e s a w' hs h' => ?_)
  · exact {
      os := rfl, tape := rfl, output := rfl, size := Nat.le_refl _, bs := Nat.le_refl _, old := fun _ _ _ => rfl, defers := rfl
      tmps := by
        rw [hxs.1] at hx
        simp; omega
      slots := fun t v hv => by
        have hv : aget (numb 0 xs) t = some v := hv
        rw [aget_numb, if_pos (by omega), Nat.sub_zero] at hv
        have hlt : t < vs.size := by rw [← hxs.1]; exact (List.getElem?_eq_some_iff.1 hv).1
        have h1 : vs[t]? = some vs[t] := by simp [hlt]
        have h2 : (vs ++ Array.replicate (fn.ntmps - vs.size) undef).getD t undef = vs[t] := by
          rw [Array.getD_eq_getD_getElem?, Array.getElem?_append_left hlt, h1]; rfl
        rw [h2]
        exact hxs.2 t v vs[t] hv h1
      dlt := hD, low := fun b hb _ => .inl hb, dom := hdom, obs := hobs
      inj := fun id id' b z z' o o' h1 h2 _ _ _ _ => hinj id id' b z z' h1 h2
      own := fun id b z h1 => ⟨(hown id b z h1).1, .inr ⟨id, z, h1⟩⟩
      kd := fun id b z o h1 _ _ => ⟨fun hx => by simp [lhas] at hx, fun _ => (hown id b z h1).2⟩
      icy := fun id h => by simp [lhas] at h
      ntb := hnb
      pin := fun id y _ hy => by show y = (μ id).getD none; rw [hy]; rfl
      gl := ⟨hg, GOk_size hg, fun b ⟨n, z, hn⟩ => hgb n b z hn⟩ }
  · obtain ⟨⟨D1, μ1, S1⟩, _⟩ := hs
    have key : Sat P Q (endM T rts O1 fn.results.toList s) → a.defers = [] ∧ ∃ v, (results fn a.tmps).run P w' = .ok v w' ∧ ∃ v' D' μ', MEnd D w μ O O1 (resOf rts) (Ending.returned v) v' w' D' μ' := by
      intro h'
      unfold endM at h'
      split at h'
      · rename_i vs1 hvs
        split at h'
        · rename_i hlen
          have hlen := beq_eq hlen
          rw [llen_eq, llen_eq] at hlen
          obtain ⟨l1, us, h1, h2⟩ := ress_go S1 hT hvs
          have hres := results_run (P := P) (w := w') (fn := fn) (tmps := a.tmps) h1
          have hk : vs1.length = fn.results.size := by rw [l1, Array.length_toList]
          have hut : ∀ t, t < fn.results.size → (((List.range fn.results.size).map us).toArray).getD t undef = us t := by
            intro t ht
            rw [Array.getD_eq_getD_getElem?]
            simp [ht]
          have hs1 : SimS w.heap.size ⟨fun b => ∃ n z, μ n = some (some (b, z)), D, fun n => (μ n).getD none⟩ w fn.results.size ⟨numb 0 vs1, s.objs, s.ice, []⟩ ⟨((List.range fn.results.size).map us).toArray, []⟩ w' :=
            ⟨⟨D1, μ1, {
              os := S1.os, tape := S1.tape, output := S1.output, size := S1.size, bs := S1.bs, old := S1.old, defers := rfl
              tmps := by simp
              slots := fun t v hv => by
                have hv : aget (numb 0 vs1) t = some v := hv
                rw [aget_numb, if_pos (by omega), Nat.sub_zero] at hv
                have ht := (List.getElem?_eq_some_iff.1 hv).1
                rw [hut t (by omega)]
                exact h2 t v hv
              dlt := S1.dlt, low := S1.low, dom := S1.dom, obs := S1.obs, inj := S1.inj, own := S1.own, kd := S1.kd, icy := S1.icy, ntb := hrb, pin := S1.pin, gl := S1.gl }⟩, fun t b ht => by simp [aget] at ht⟩
          obtain ⟨⟨⟨D2, μ2, S2⟩, _⟩, _⟩ := meet_go hs1 h' rfl
          refine ⟨S1.defers, _, hres, (if fn.results.size = 1 then us 0 else .tuple ((List.range fn.results.size).map us).toArray), fun b => D b ∨ D2 b, μ2, ?_⟩
          exact {
            ret := rfl, os := S2.os, tape := S2.tape, output := S2.output, size := S2.size
            old := fun b h1 h2 => S2.old b h1 fun ⟨n, z, hn⟩ => h2 n z hn
            up := fun b hb => .inl hb
            dn := fun b hb => by
              rcases hb with hb | hb
              · exact .inl hb
              · by_cases hlt : b < w.heap.size
                · rcases S2.low b hb hlt with q | q
                  · exact .inl q
                  · exact .inr (.inr q)
                · exact .inr (.inl ⟨by omega, S2.dlt b hb⟩)
            dom := S2.dom
            obs := fun n o x ho hx => (S2.obs n o x ho hx).mono (fun _ _ => rfl) (fun _ h => .inr h) (fun _ _ h => h) (fun _ _ _ _ => rfl)
            inj := fun n n' b z z' h1 h2 => by
              have g1 : aget O1 n ≠ none := fun e => by rw [(S2.dom n).2 e] at h1; cases h1
              have g2 : aget O1 n' ≠ none := fun e => by rw [(S2.dom n').2 e] at h2; cases h2
              obtain ⟨o1, q1⟩ := Option.ne_none_iff_exists'.1 g1
              obtain ⟨o2, q2⟩ := Option.ne_none_iff_exists'.1 g2
              exact S2.inj n n' b z z' o1 o2 h1 h2 q1 q2 (meet_live hs1 h' n o1 q1) (meet_live hs1 h' n' o2 q2)
            own := fun n b z h1 => by
              have g1 : aget O1 n ≠ none := fun e => by rw [(S2.dom n).2 e] at h1; cases h1
              obtain ⟨o1, q1⟩ := Option.ne_none_iff_exists'.1 g1
              have k := (S2.kd n b z o1 h1 q1 (meet_live hs1 h' n o1 q1)).2 rfl
              obtain ⟨p1, p2⟩ := S2.own n b z h1
              refine ⟨p1, ?_, ?_⟩
              · rintro (hb | hb)
                · rcases p2 with p2 | ⟨m, z2, p2⟩
                  · have := hD b hb; omega
                  · exact (hown m b z2 p2).2 hb
                · exact k hb
              · rcases p2 with p2 | ⟨m, z2, p2⟩
                · exact .inl p2
                · exact .inr ⟨m, z2, p2⟩
            keep := fun n hn hn1 => by
              obtain ⟨y, hy⟩ := Option.ne_none_iff_exists'.1 (fun e => hn1 ((S2.dom n).1 e) : μ2 n ≠ none)
              have := S2.pin n y (allPin_get hpin n hn) hy
              have h3 : μ n ≠ none := fun e => hn ((hdom n).1 e)
              obtain ⟨y0, hy0⟩ := Option.ne_none_iff_exists'.1 h3
              have h4 : y = (μ n).getD none := this
              rw [hy0] at h4
              rw [hy, hy0, h4]; rfl
            val := by
              have each : ∀ (i : Nat) r, rts[i]? = some r → R w'.heap (fun b => D b ∨ D2 b) μ2 r (us i) := by
                intro i r hr
                have hlt : i < fn.results.size := by
                  have := (List.getElem?_eq_some_iff.1 hr).1
                  omega
                have := S2.slots i r (by show aget (numb 0 rts) i = some r; rw [aget_numb, if_pos (by omega), Nat.sub_zero]; exact hr)
                have h3 := hut i hlt
                have this : R w'.heap D2 μ2 r ((((List.range fn.results.size).map us).toArray).getD i undef) := this
                rw [h3] at this
                exact this.mono (fun _ _ => rfl) (fun _ h => .inr h) (fun _ _ h => h)
              unfold resOf
              split
              · rename_i r
                have hsz : fn.results.size = 1 := by rw [← hk, hlen]; rfl
                rw [if_pos hsz]
                exact each 0 _ rfl
              · rename_i hne
                have hsz : ¬ fn.results.size = 1 := by
                  rw [← hk, hlen]
                  intro h1
                  obtain ⟨v, hv⟩ := List.length_eq_one_iff.1 h1
                  exact hne v hv
                rw [if_neg hsz]
                refine .tup _ _ (by simp; omega) fun i v x hv hx => ?_
                have hlt : i < fn.results.size := by
                  have := (List.getElem?_eq_some_iff.1 hv).1
                  omega
                simp [hlt] at hx
                subst hx
                exact each i v hv }
        · cases h'
      · cases h'
    cases e with
    | normal => exact key h'
    | ret => exact key h'
    | exit id => cases h'
    | goto l => cases h'
end Sy
end Go.Proofs.YtckbbcjbbmgmoaaGreatDoor
namespace Go.Proofs.YtckbbcjbbmgmoaaGreatDoor
namespace Sy
open Go Go.RowKit
set_option maxRecDepth 100000
set_option linter.unusedSimpArgs false

section
variable {P : Program} {Q : AV → Prop}
theorem sat_need {b : Bool} {k : Tree} : Sat P Q (.need b k) ↔ b = true ∧ Sat P Q k := ⟨fun h => by cases h with | need h hk => exact ⟨h, hk⟩, fun h => .need h.1 h.2⟩
theorem sat_must {p : Prop} {k : Tree} : Sat P Q (.must p k) ↔ p ∧ Sat P Q k := ⟨fun h => by cases h with | must h hk => exact ⟨h, hk⟩, fun h => .must h.1 h.2⟩
theorem sat_ite {b : Bool} {t e : Tree} : Sat P Q (.ite b t e) ↔ (b = true → Sat P Q t) ∧ (b = false → Sat P Q e) := ⟨fun h => by cases h with | ite h hk => exact ⟨h, hk⟩, fun h => .ite h.1 h.2⟩
theorem sat_done {r : AV} : Sat P Q (.done r) ↔ Q r := ⟨fun h => by cases h with | done h => exact h, fun h => .done h⟩
theorem sat_yes : Sat P Q .yes ↔ True := ⟨fun _ => trivial, fun _ => .yes⟩
theorem sat_ex {X : Type} {f : X → Tree} : Sat P Q (.ex X f) ↔ ∃ x, Sat P Q (f x) := ⟨fun h => by cases h with | ex x h => exact ⟨x, h⟩, fun ⟨x, h⟩ => .ex x h⟩
theorem sat_all {X : Type} {f : X → Tree} : Sat P Q (.all X f) ↔ ∀ x, Sat P Q (f x) := ⟨fun h => by cases h with | all h => exact h, fun h => .all h⟩
theorem sat_sup {p : Prop} {k : Tree} : Sat P Q (.sup p k) ↔ (p → Sat P Q k) := ⟨fun h => by cases h with | sup h => exact h, fun h => .sup h⟩
theorem sat_and {a b : Tree} : Sat P Q (.and a b) ↔ Sat P Q a ∧ Sat P Q b := ⟨fun h => by cases h with | and h hk => exact ⟨h, hk⟩, fun h => .and h.1 h.2⟩
theorem sat_fail {n : Nat} : Sat P Q (.fail n) ↔ False := ⟨fun h => (by cases h), fun h => h.elim⟩
end

/-- A function's answer, the leaf operations sealed. -/
theorem acalls_L {P : Program} {T : TT} {S : Seal → Sums} {lo lb : Seal → Nat → St → Option Ann} (n : Nat) {f : FuncId} {fn : Func} {c : Code} {xs : List AV} {r : AV} (hf : P.funcs[f]? = some fn) (hb : fn.body = some c) (hn : (fn.name == "runtime.NumGoroutine") = false)
    (hc : codeOk fn.ntmps c = true) (hx : (nble xs.length fn.ntmps && nble fn.ntmps 500000) = true) (hT : TsOk P T) (hS : SumsOk P (S std)) (hm : P.follows .mixedOrders = true)
    (h : ∀ (L : Seal) (P' : Program) (Q' : AV → Prop), @L = @std → P' = P → Q' = fits r → Sat P' Q' (runF T L (S L) (lo L) (lb L) n fn xs)) : ACalls P f xs r :=
  acalls_of (lo := lo std) (lb := lb std) hf hb hn hc hx hT hS hm (h std _ _ rfl rfl rfl)

/-- The same, the arguments sealed too. -/
theorem acalls_L' {P : Program} {T : TT} {S : Seal → Sums} {lo lb : Seal → Nat → St → Option Ann} (n : Nat) {f : FuncId} {fn : Func} {c : Code} {xs : Seal → List AV} {r : AV} (hf : P.funcs[f]? = some fn) (hb : fn.body = some c) (hn : (fn.name == "runtime.NumGoroutine") = false)
    (hc : codeOk fn.ntmps c = true) (hx : (nble (xs std).length fn.ntmps && nble fn.ntmps 500000) = true) (hT : TsOk P T) (hS : SumsOk P (S std)) (hm : P.follows .mixedOrders = true)
    (h : ∀ (L : Seal) (P' : Program) (Q' : AV → Prop), @L = @std → P' = P → Q' = fits r → Sat P' Q' (runF T L (S L) (lo L) (lb L) n fn (xs L))) : ACalls P f (xs std) r :=
  acalls_of (lo := lo std) (lb := lb std) hf hb hn hc hx hT hS hm (h std _ _ rfl rfl rfl)

/-- The same of a function that turns its caller's blocks. -/
theorem mcalls_L {P : Program} {T : TT} {S : Seal → Sums} {lo lb : Seal → Nat → St → Option Ann} (n : Nat) {f : FuncId} {fn : Func} {c : Code} {xs rts : Seal → List AV} {O O1 : Seal → List (Nat × Ob)} (hf : P.funcs[f]? = some fn) (hb : fn.body = some c) (hn : (fn.name == "runtime.NumGoroutine") = false)
    (hc : codeOk fn.ntmps c = true) (hx : (nble (xs std).length fn.ntmps && nble fn.ntmps 500000 && nble fn.results.size 500000 && allPin (O std)) = true) (hT : TsOk P T) (hS : SumsOk P (S std)) (hm : P.follows .mixedOrders = true)
    (h : ∀ (L : Seal) (P' : Program) (Q' : AV → Prop), @L = @std → P' = P → Q' = (fun _ => True) → Sat P' Q' (runM T L (S L) (lo L) (lb L) n fn (xs L) (O L) (rts L) (O1 L))) : MCalls P f (xs std) (O std) (resOf (rts std)) (O1 std) :=
  mcalls_of (lo := lo std) (lb := lb std) hf hb hn hc hx hT hS hm (h std _ _ rfl rfl rfl)

def noS : Seal → Sums := fun _ => ⟨fun _ _ => none, fun _ => none⟩
theorem noS_ok (P : Program) : SumsOk P (noS std) := ⟨fun f xs p r h => by (cases h), fun f m h => by cases h⟩
def noA : Seal → Nat → St → Option Ann := fun _ _ _ => none

def tt : TT :=
 (.node (.node (.node (.node (.node (.node (.node (.node (.node .leaf 1 ⟨1, false, [.nilf], .func, false, none, false, false⟩
         .leaf) 2 ⟨1, false, [.int .i64 0], .int .i64, false, none, false, false⟩
        .leaf) 3 ⟨1, false, [.int .i64 0], .int .i64, false, none, false, false⟩
       (.node .leaf 4 ⟨1, false, [.bool false], .bool, false, none, false, false⟩
        .leaf)) 5 ⟨1, false, [.int .u8 0], .int .u8, false, none, false, false⟩
      (.node (.node (.node .leaf 6 ⟨1, false, [.int .u8 0], .int .u8, false, none, false, false⟩
         .leaf) 7 ⟨4, true, [.int .i64 0, .int .i64 0, .bool false, .int .u8 0], .struct [(0, 2), (1, 3), (2, 4), (3, 6)], true, none, false, false⟩
        .leaf) 8 ⟨4, true, [.int .i64 0, .int .i64 0, .bool false, .int .u8 0], .struct [(0, 2), (1, 3), (2, 4), (3, 6)], true, none, false, false⟩
       (.node .leaf 9 ⟨1, false, [.str []], .str, false, none, false, false⟩
        .leaf))) 10 ⟨1, false, [.str []], .str, false, none, false, false⟩
     (.node (.node (.node (.node .leaf 11 ⟨1, false, [.str []], .str, false, none, false, false⟩
         .leaf) 12 ⟨1, false, [.int .u64 0], .int .u64, false, none, false, false⟩
        .leaf) 13 ⟨2, true, [.str [], .int .u64 0], .struct [(0, 9), (1, 12)], false, none, false, false⟩
       (.node .leaf 14 ⟨2, true, [.str [], .int .u64 0], .struct [(0, 9), (1, 12)], false, none, false, false⟩
        .leaf)) 15 ⟨1, false, [.nilp], .ptr, false, some 311, false, false⟩
      (.node (.node .leaf 16 ⟨1, false, [.nilp], .ptr, false, some 314, false, false⟩
        .leaf) 17 ⟨1, false, [.nilp], .ptr, false, some 321, false, false⟩
       (.node .leaf 18 ⟨1, true, [.nilp], .struct [(0, 17)], false, none, false, false⟩
        .leaf)))) 19 ⟨1, true, [.nilp], .struct [(0, 17)], false, none, false, false⟩
    (.node (.node (.node (.node (.node .leaf 20 ⟨1, false, [.nili], .iface, false, none, false, false⟩
         .leaf) 21 ⟨1, false, [.int .i32 0], .int .i32, false, none, false, false⟩
        .leaf) 22 ⟨1, false, [.int .u64 0], .int .u64, false, none, false, false⟩
       (.node .leaf 23 ⟨1, false, [.nils], .slice 39 7 48, false, none, false, false⟩
        .leaf)) 24 ⟨1, false, [.nils], .slice 44 2 40, false, none, false, false⟩
      (.node (.node .leaf 25 ⟨3, true, [.int .u64 0, .nils, .nils], .struct [(0, 22), (1, 23), (2, 24)], false, none, false, false⟩
        .leaf) 26 ⟨3, true, [.int .u64 0, .nils, .nils], .struct [(0, 22), (1, 23), (2, 24)], false, none, false, false⟩
       (.node .leaf 27 ⟨1, false, [.nilf], .func, false, none, false, false⟩
        .leaf))) 28 ⟨1, false, [.nilf], .func, false, none, false, false⟩
     (.node (.node (.node (.node .leaf 29 ⟨1, false, [.int .i64 0], .int .i64, false, none, false, false⟩
         .leaf) 31 ⟨1, false, [.nilf], .func, false, none, false, false⟩
        .leaf) 32 ⟨1, false, [.nilf], .func, false, none, false, false⟩
       (.node .leaf 33 ⟨4, true, [.int .u8 0, .int .u8 0, .int .u8 0, .int .u8 0], .arr 4 5 1, true, none, false, false⟩
        .leaf)) 34 ⟨1, false, [.int .u16 0], .int .u16, false, none, false, false⟩
      (.node (.node .leaf 35 ⟨5, true, [.int .u8 0, .int .u8 0, .int .u8 0, .int .u8 0, .int .u16 0], .struct [(0, 33), (4, 34)], true, none, false, false⟩
        .leaf) 36 ⟨5, true, [.int .u8 0, .int .u8 0, .int .u8 0, .int .u8 0, .int .u16 0], .struct [(0, 33), (4, 34)], true, none, false, false⟩
       (.node .leaf 37 ⟨1, false, [.nils], .slice 55 4 56, false, none, false, false⟩
        .leaf))))) 38 ⟨7, true, [.str [], .int .u8 0, .int .u8 0, .int .u8 0, .int .u8 0, .int .u16 0, .nils], .struct [(0, 9), (1, 36), (6, 37)], false, none, false, false⟩
   (.node (.node (.node (.node (.node (.node .leaf 39 ⟨7, true, [.str [], .int .u8 0, .int .u8 0, .int .u8 0, .int .u8 0, .int .u16 0, .nils], .struct [(0, 9), (1, 36), (6, 37)], false, none, false, false⟩
         .leaf) 41 ⟨1, false, [.nilf], .func, false, none, false, false⟩
        .leaf) 42 ⟨1, false, [.nils], .slice 57 6 16, false, none, false, false⟩
       (.node .leaf 43 ⟨2, true, [.str [], .nils], .struct [(0, 9), (1, 42)], false, none, false, false⟩
        .leaf)) 44 ⟨2, true, [.str [], .nils], .struct [(0, 9), (1, 42)], false, none, false, false⟩
      (.node (.node (.node .leaf 46 ⟨1, false, [.nilf], .func, false, none, false, false⟩
         .leaf) 47 ⟨1, false, [.nilf], .func, false, none, false, false⟩
        .leaf) 48 ⟨1, false, [.nilf], .func, false, none, false, false⟩
       (.node .leaf 49 ⟨1, false, [.nils], .slice 143 7 48, false, none, false, false⟩
        .leaf))) 50 ⟨1, false, [.nils], .slice 147 2 40, false, none, false, false⟩
     (.node (.node (.node (.node .leaf 51 ⟨3, true, [.int .u64 0, .nils, .nils], .struct [(0, 22), (1, 49), (2, 50)], false, none, false, false⟩
         .leaf) 52 ⟨3, true, [.int .u64 0, .nils, .nils], .struct [(0, 22), (1, 49), (2, 50)], false, none, false, false⟩
        .leaf) 53 ⟨1, false, [.nilf], .func, false, none, false, false⟩
       (.node .leaf 54 ⟨4, true, [.str [], .str [], .str [], .int .u64 0], .struct [(0, 9), (1, 9), (2, 9), (3, 22)], true, none, false, false⟩
        .leaf)) 55 ⟨4, true, [.str [], .str [], .str [], .int .u64 0], .struct [(0, 9), (1, 9), (2, 9), (3, 22)], true, none, false, false⟩
      (.node (.node .leaf 56 ⟨6, true, [.int .u8 0, .int .u8 0, .int .u8 0, .int .u8 0, .int .u16 0, .int .i64 0], .struct [(0, 36), (5, 3)], true, none, false, false⟩
        .leaf) 57 ⟨6, true, [.int .u8 0, .int .u8 0, .int .u8 0, .int .u8 0, .int .u16 0, .int .i64 0], .struct [(0, 36), (5, 3)], true, none, false, false⟩
       (.node .leaf 58 ⟨1, false, [.nilf], .func, false, none, false, false⟩
        .leaf)))) 59 ⟨1, false, [.nils], .slice 64 2 24, false, none, false, false⟩
    (.node (.node (.node (.node (.node .leaf 60 ⟨1, false, [.nilf], .func, false, none, false, false⟩
         .leaf) 61 ⟨1, false, [.nils], .slice 66 2 24, false, none, false, false⟩
        .leaf) 62 ⟨1, false, [.nilf], .func, false, none, false, false⟩
       (.node .leaf 63 ⟨2, true, [.int .i64 0, .str []], .struct [(0, 29), (1, 9)], true, none, false, false⟩
        .leaf)) 64 ⟨2, true, [.int .i64 0, .str []], .struct [(0, 29), (1, 9)], true, none, false, false⟩
      (.node (.node .leaf 65 ⟨2, true, [.int .i64 0, .str []], .struct [(0, 3), (1, 9)], true, none, false, false⟩
        .leaf) 66 ⟨2, true, [.int .i64 0, .str []], .struct [(0, 3), (1, 9)], true, none, false, false⟩
       (.node .leaf 67 ⟨1, false, [.nilf], .func, false, none, false, false⟩
        .leaf))) 68 ⟨1, false, [.nilf], .func, false, none, false, false⟩
     (.node (.node (.node (.node .leaf 69 ⟨1, false, [.nilf], .func, false, none, false, false⟩
         .leaf) 70 ⟨1, false, [.nils], .slice 9 1 16, false, none, false, false⟩
        .leaf) 72 ⟨1, false, [.nilf], .func, false, none, false, false⟩
       (.node .leaf 73 ⟨5, true, [.int .u8 0, .int .u8 0, .int .u8 0, .int .u8 0, .int .u16 0], .struct [(0, 33), (4, 34)], true, none, false, false⟩
        .leaf)) 75 ⟨1, false, [.nilf], .func, false, none, false, false⟩
      (.node (.node .leaf 76 ⟨1, false, [.nilf], .func, false, none, false, false⟩
        .leaf) 77 ⟨1, false, [.nilf], .func, false, none, false, false⟩
       (.node .leaf 78 ⟨1, false, [.nils], .slice 36 5 6, false, none, false, false⟩
        .leaf)))))) 79 ⟨2, true, [.int .u64 0, .nils], .struct [(0, 22), (1, 78)], false, none, false, false⟩
  (.node (.node (.node (.node (.node (.node (.node .leaf 80 ⟨2, true, [.int .u64 0, .nils], .struct [(0, 22), (1, 78)], false, none, false, false⟩
         .leaf) 81 ⟨1, false, [.nilf], .func, false, none, false, false⟩
        .leaf) 82 ⟨2, true, [.int .u64 0, .nils], .struct [(0, 22), (1, 78)], false, none, false, false⟩
       (.node .leaf 83 ⟨2, true, [.int .u64 0, .nils], .struct [(0, 22), (1, 78)], false, none, false, false⟩
        .leaf)) 84 ⟨1, false, [.nils], .slice 73 5 6, false, none, false, false⟩
      (.node (.node (.node .leaf 85 ⟨1, false, [.nilf], .func, false, none, false, false⟩
         .leaf) 86 ⟨1, false, [.nilf], .func, false, none, false, false⟩
        .leaf) 87 ⟨1, false, [.nilf], .func, false, none, false, false⟩
       (.node .leaf 89 ⟨1, false, [.nilf], .func, false, none, false, false⟩
        .leaf))) 91 ⟨1, false, [.nilf], .func, false, none, false, false⟩
     (.node (.node (.node (.node .leaf 92 ⟨1, false, [.nilf], .func, false, none, false, false⟩
         .leaf) 94 ⟨1, false, [.nilf], .func, false, none, false, false⟩
        .leaf) 96 ⟨1, false, [.nilf], .func, false, none, false, false⟩
       (.node .leaf 97 ⟨1, false, [.nilf], .func, false, none, false, false⟩
        .leaf)) 98 ⟨1, false, [.nilf], .func, false, none, false, false⟩
      (.node (.node .leaf 99 ⟨1, false, [.nils], .slice 111 2 2, false, none, false, false⟩
        .leaf) 100 ⟨1, false, [.nils], .slice 105 2 24, false, none, false, false⟩
       (.node .leaf 101 ⟨1, true, [.nils], .struct [(0, 100)], false, none, false, false⟩
        .leaf)))) 102 ⟨1, true, [.nils], .struct [(0, 100)], false, none, false, false⟩
    (.node (.node (.node (.node (.node .leaf 103 ⟨1, false, [.nilm], .map 36 3, false, none, false, false⟩
         .leaf) 104 ⟨2, true, [.int .u64 0, .str []], .struct [(0, 22), (1, 9)], true, none, false, false⟩
        .leaf) 105 ⟨2, true, [.int .u64 0, .str []], .struct [(0, 22), (1, 9)], true, none, false, false⟩
       (.node .leaf 107 ⟨1, false, [.nilf], .func, false, none, false, false⟩
        .leaf)) 108 ⟨1, false, [.nilf], .func, false, none, false, false⟩
      (.node (.node .leaf 109 ⟨1, false, [.nilf], .func, false, none, false, false⟩
        .leaf) 110 ⟨2, true, [.int .u8 0, .int .u8 0], .struct [(0, 5), (1, 5)], true, none, false, false⟩
       (.node .leaf 111 ⟨2, true, [.int .u8 0, .int .u8 0], .struct [(0, 5), (1, 5)], true, none, false, false⟩
        .leaf))) 112 ⟨1, false, [.nilf], .func, false, none, false, false⟩
     (.node (.node (.node (.node .leaf 114 ⟨1, false, [.nilf], .func, false, none, false, false⟩
         .leaf) 115 ⟨1, false, [.nilf], .func, false, none, false, false⟩
        .leaf) 116 ⟨1, false, [.nilf], .func, false, none, false, false⟩
       (.node .leaf 117 ⟨1, false, [.nils], .slice 119 4 56, false, none, false, false⟩
        .leaf)) 118 ⟨4, true, [.int .i64 0, .int .u64 0, .str [], .nils], .struct [(0, 3), (1, 22), (2, 9), (3, 117)], false, none, false, false⟩
      (.node (.node .leaf 119 ⟨4, true, [.int .i64 0, .int .u64 0, .str [], .nils], .struct [(0, 3), (1, 22), (2, 9), (3, 117)], false, none, false, false⟩
        .leaf) 120 ⟨1, false, [.nilf], .func, false, none, false, false⟩
       (.node .leaf 121 ⟨1, false, [.nilf], .func, false, none, false, false⟩
        .leaf))))) 122 ⟨1, false, [.nilf], .func, false, none, false, false⟩
   (.node (.node (.node (.node (.node (.node .leaf 123 ⟨1, false, [.nilf], .func, false, none, false, false⟩
         .leaf) 124 ⟨1, false, [.nilf], .func, false, none, false, false⟩
        .leaf) 125 ⟨1, false, [.nilf], .func, false, none, false, false⟩
       (.node .leaf 126 ⟨1, false, [.nilf], .func, false, none, false, false⟩
        .leaf)) 127 ⟨1, false, [.nilf], .func, false, none, false, false⟩
      (.node (.node (.node .leaf 128 ⟨1, false, [.nilf], .func, false, none, false, false⟩
         .leaf) 129 ⟨1, false, [.nilf], .func, false, none, false, false⟩
        .leaf) 130 ⟨1, false, [.nilf], .func, false, none, false, false⟩
       (.node .leaf 131 ⟨1, false, [.nilf], .func, false, none, false, false⟩
        .leaf))) 132 ⟨1, false, [.nilf], .func, false, none, false, false⟩
     (.node (.node (.node (.node .leaf 133 ⟨1, false, [.nilf], .func, false, none, false, false⟩
         .leaf) 134 ⟨1, false, [.nilf], .func, false, none, false, false⟩
        .leaf) 135 ⟨1, false, [.nilf], .func, false, none, false, false⟩
       (.node .leaf 136 ⟨1, false, [.nilf], .func, false, none, false, false⟩
        .leaf)) 137 ⟨1, false, [.nils], .slice 139 4 56, false, none, false, false⟩
      (.node (.node .leaf 138 ⟨4, true, [.int .i64 0, .int .u64 0, .str [], .nils], .struct [(0, 3), (1, 22), (2, 9), (3, 137)], false, none, false, false⟩
        .leaf) 139 ⟨4, true, [.int .i64 0, .int .u64 0, .str [], .nils], .struct [(0, 3), (1, 22), (2, 9), (3, 137)], false, none, false, false⟩
       (.node .leaf 140 ⟨1, false, [.nilf], .func, false, none, false, false⟩
        .leaf)))) 141 ⟨1, false, [.nils], .slice 144 4 56, false, none, false, false⟩
    (.node (.node (.node (.node (.node .leaf 142 ⟨7, true, [.str [], .int .u8 0, .int .u8 0, .int .u8 0, .int .u8 0, .int .u16 0, .nils], .struct [(0, 9), (1, 73), (6, 141)], false, none, false, false⟩
         .leaf) 143 ⟨7, true, [.str [], .int .u8 0, .int .u8 0, .int .u8 0, .int .u8 0, .int .u16 0, .nils], .struct [(0, 9), (1, 73), (6, 141)], false, none, false, false⟩
        .leaf) 144 ⟨4, true, [.str [], .str [], .str [], .int .u64 0], .struct [(0, 9), (1, 9), (2, 9), (3, 22)], true, none, false, false⟩
       (.node .leaf 145 ⟨1, false, [.nils], .slice 149 6 16, false, none, false, false⟩
        .leaf)) 146 ⟨2, true, [.str [], .nils], .struct [(0, 9), (1, 145)], false, none, false, false⟩
      (.node (.node .leaf 147 ⟨2, true, [.str [], .nils], .struct [(0, 9), (1, 145)], false, none, false, false⟩
        .leaf) 148 ⟨6, true, [.int .u8 0, .int .u8 0, .int .u8 0, .int .u8 0, .int .u16 0, .int .i64 0], .struct [(0, 73), (5, 3)], true, none, false, false⟩
       (.node .leaf 149 ⟨6, true, [.int .u8 0, .int .u8 0, .int .u8 0, .int .u8 0, .int .u16 0, .int .i64 0], .struct [(0, 73), (5, 3)], true, none, false, false⟩
        .leaf))) 150 ⟨1, false, [.nils], .slice 3 1 8, false, none, false, false⟩
     (.node (.node (.node (.node .leaf 151 ⟨1, false, [.nilf], .func, false, none, false, false⟩
         .leaf) 152 ⟨1, false, [.nilf], .func, false, none, false, false⟩
        .leaf) 153 ⟨1, false, [.nilf], .func, false, none, false, false⟩
       (.node .leaf 154 ⟨1, false, [.nilf], .func, false, none, false, false⟩
        .leaf)) 155 ⟨1, false, [.nilf], .func, false, none, false, false⟩
      (.node (.node .leaf 156 ⟨1, false, [.nilf], .func, false, none, false, false⟩
        .leaf) 158 ⟨1, false, [.nilf], .func, false, none, false, false⟩
       (.node .leaf 159 ⟨1, false, [.nilf], .func, false, none, false, false⟩
        .leaf))))))) 160 ⟨1, false, [.nilf], .func, false, none, false, false⟩
 (.node (.node (.node (.node (.node (.node (.node (.node .leaf 161 ⟨1, false, [.nilf], .func, false, none, false, false⟩
         .leaf) 162 ⟨1, false, [.nilf], .func, false, none, false, false⟩
        .leaf) 163 ⟨1, false, [.nilf], .func, false, none, false, false⟩
       (.node .leaf 164 ⟨1, false, [.nilf], .func, false, none, false, false⟩
        .leaf)) 165 ⟨3, true, [.int .i64 0, .int .u64 0, .str []], .struct [(0, 3), (1, 22), (2, 9)], true, none, false, false⟩
      (.node (.node (.node .leaf 166 ⟨3, true, [.int .i64 0, .int .u64 0, .str []], .struct [(0, 3), (1, 22), (2, 9)], true, none, false, false⟩
         .leaf) 168 ⟨1, false, [.nilf], .func, false, none, false, false⟩
        .leaf) 170 ⟨1, false, [.nilf], .func, false, none, false, false⟩
       (.node .leaf 171 ⟨3, true, [.int .i64 0, .int .u64 0, .str []], .struct [(0, 3), (1, 22), (2, 9)], true, none, false, false⟩
        .leaf))) 173 ⟨1, false, [.nilf], .func, false, none, false, false⟩
     (.node (.node (.node (.node .leaf 174 ⟨1, false, [.nilf], .func, false, none, false, false⟩
         .leaf) 175 ⟨1, false, [.nilf], .func, false, none, false, false⟩
        .leaf) 177 ⟨1, false, [.nilf], .func, false, none, false, false⟩
       (.node .leaf 178 ⟨1, false, [.nilf], .func, false, none, false, false⟩
        .leaf)) 179 ⟨1, false, [.nilf], .func, false, none, false, false⟩
      (.node (.node .leaf 180 ⟨1, false, [.nilf], .func, false, none, false, false⟩
        .leaf) 181 ⟨1, false, [.nilf], .func, false, none, false, false⟩
       (.node .leaf 182 ⟨1, false, [.nilf], .func, false, none, false, false⟩
        .leaf)))) 183 ⟨1, false, [.nilf], .func, false, none, false, false⟩
    (.node (.node (.node (.node (.node .leaf 184 ⟨1, false, [.nilf], .func, false, none, false, false⟩
         .leaf) 185 ⟨1, false, [.nilf], .func, false, none, false, false⟩
        .leaf) 186 ⟨1, false, [.nilf], .func, false, none, false, false⟩
       (.node .leaf 187 ⟨1, false, [.nilf], .func, false, none, false, false⟩
        .leaf)) 188 ⟨1, false, [.nilf], .func, false, none, false, false⟩
      (.node (.node .leaf 189 ⟨1, false, [.nilf], .func, false, none, false, false⟩
        .leaf) 190 ⟨1, false, [.nilf], .func, false, none, false, false⟩
       (.node .leaf 191 ⟨1, false, [.nilf], .func, false, none, false, false⟩
        .leaf))) 192 ⟨1, false, [.nilf], .func, false, none, false, false⟩
     (.node (.node (.node (.node .leaf 193 ⟨1, false, [.nilp], .ptr, false, some 196, false, false⟩
         .leaf) 194 ⟨1, false, [.nils], .slice 5 1 1, false, none, false, false⟩
        .leaf) 195 ⟨2, true, [.nilp, .nils], .struct [(0, 193), (1, 194)], false, none, false, false⟩
       (.node .leaf 196 ⟨2, true, [.nilp, .nils], .struct [(0, 193), (1, 194)], false, none, false, true⟩
        .leaf)) 197 ⟨1, false, [.nilf], .func, false, none, false, false⟩
      (.node (.node .leaf 198 ⟨1, false, [.nilf], .func, false, none, false, false⟩
        .leaf) 199 ⟨1, false, [.nilf], .func, false, none, false, false⟩
       (.node .leaf 200 ⟨1, false, [.nilf], .func, false, none, false, false⟩
        .leaf))))) 201 ⟨1, false, [.nilf], .func, false, none, false, false⟩
   (.node (.node (.node (.node (.node (.node .leaf 202 ⟨1, false, [.nilf], .func, false, none, false, false⟩
         .leaf) 203 ⟨1, false, [.nilf], .func, false, none, false, false⟩
        .leaf) 204 ⟨1, false, [.nilf], .func, false, none, false, false⟩
       (.node .leaf 205 ⟨1, false, [.nilf], .func, false, none, false, false⟩
        .leaf)) 206 ⟨1, false, [.nilf], .func, false, none, false, false⟩
      (.node (.node (.node .leaf 207 ⟨1, false, [.nilf], .func, false, none, false, false⟩
         .leaf) 208 ⟨1, false, [.nilf], .func, false, none, false, false⟩
        .leaf) 209 ⟨1, false, [.nilf], .func, false, none, false, false⟩
       (.node .leaf 210 ⟨1, false, [.nilf], .func, false, none, false, false⟩
        .leaf))) 211 ⟨1, false, [.nilf], .func, false, none, false, false⟩
     (.node (.node (.node (.node .leaf 212 ⟨1, false, [.nilf], .func, false, none, false, false⟩
         .leaf) 213 ⟨1, false, [.nilf], .func, false, none, false, false⟩
        .leaf) 214 ⟨1, false, [.nilf], .func, false, none, false, false⟩
       (.node .leaf 215 ⟨1, false, [.nilf], .func, false, none, false, false⟩
        .leaf)) 216 ⟨1, false, [.nilf], .func, false, none, false, false⟩
      (.node (.node .leaf 217 ⟨1, false, [.nilf], .func, false, none, false, false⟩
        .leaf) 218 ⟨1, false, [.nilf], .func, false, none, false, false⟩
       (.node .leaf 219 ⟨1, false, [.nilf], .func, false, none, false, false⟩
        .leaf)))) 220 ⟨1, false, [.nilf], .func, false, none, false, false⟩
    (.node (.node (.node (.node (.node .leaf 221 ⟨1, false, [.nilf], .func, false, none, false, false⟩
         .leaf) 223 ⟨1, false, [.nilf], .func, false, none, false, false⟩
        .leaf) 225 ⟨1, false, [.nilf], .func, false, none, false, false⟩
       (.node .leaf 226 ⟨1, false, [.nilf], .func, false, none, false, false⟩
        .leaf)) 228 ⟨1, false, [.nilf], .func, false, none, false, false⟩
      (.node (.node .leaf 229 ⟨1, false, [.nilf], .func, false, none, false, false⟩
        .leaf) 230 ⟨1, false, [.nilf], .func, false, none, false, false⟩
       (.node .leaf 231 ⟨1, false, [.nilf], .func, false, none, false, false⟩
        .leaf))) 232 ⟨1, false, [.nilf], .func, false, none, false, false⟩
     (.node (.node (.node (.node .leaf 233 ⟨1, false, [.nilf], .func, false, none, false, false⟩
         .leaf) 234 ⟨1, false, [.nilf], .func, false, none, false, false⟩
        .leaf) 235 ⟨1, false, [.nilf], .func, false, none, false, false⟩
       (.node .leaf 236 ⟨1, false, [.nili], .iface, false, none, false, false⟩
        .leaf)) 237 ⟨1, false, [.nili], .iface, false, none, false, false⟩
      (.node (.node .leaf 238 ⟨1, false, [.nilf], .func, false, none, false, false⟩
        .leaf) 240 ⟨1, false, [.nilf], .func, false, none, false, false⟩
       (.node .leaf 241 ⟨1, false, [.nilp], .ptr, false, some 5, false, false⟩
        .leaf)))))) 242 ⟨1, false, [.nilf], .func, false, none, false, false⟩
  (.node (.node (.node (.node (.node (.node (.node .leaf 243 ⟨1, false, [.nils], .slice 29 1 8, false, none, false, false⟩
         .leaf) 244 ⟨1, false, [.nilf], .func, false, none, false, false⟩
        .leaf) 245 ⟨1, false, [.nilf], .func, false, none, false, false⟩
       (.node .leaf 246 ⟨1, false, [.nilf], .func, false, none, false, false⟩
        .leaf)) 247 ⟨1, false, [.nilf], .func, false, none, false, false⟩
      (.node (.node (.node .leaf 248 ⟨1, false, [.nilf], .func, false, none, false, false⟩
         .leaf) 249 ⟨1, false, [.nilf], .func, false, none, false, false⟩
        .leaf) 250 ⟨1, false, [.nilf], .func, false, none, false, false⟩
       (.node .leaf 251 ⟨1, false, [.int .u64 0], .int .u64, false, none, false, false⟩
        .leaf))) 252 ⟨1, false, [.int .u32 0], .int .u32, false, none, false, false⟩
     (.node (.node (.node (.node .leaf 253 ⟨1, false, [.nilf], .func, false, none, false, false⟩
         .leaf) 254 ⟨1, false, [.nilf], .func, false, none, false, false⟩
        .leaf) 255 ⟨1, false, [.nilf], .func, false, none, false, false⟩
       (.node .leaf 256 ⟨1, false, [.nilf], .func, false, none, false, false⟩
        .leaf)) 257 ⟨1, false, [.nilf], .func, false, none, false, false⟩
      (.node (.node .leaf 258 ⟨1, false, [.nilf], .func, false, none, false, false⟩
        .leaf) 259 ⟨1, false, [.nilf], .func, false, none, false, false⟩
       (.node .leaf 261 ⟨1, false, [.nilf], .func, false, none, false, false⟩
        .leaf)))) 262 ⟨1, false, [.nilf], .func, false, none, false, false⟩
    (.node (.node (.node (.node (.node .leaf 264 ⟨1, false, [.nilf], .func, false, none, false, false⟩
         .leaf) 265 ⟨1, false, [.nilf], .func, false, none, false, false⟩
        .leaf) 266 ⟨1, false, [.nilf], .func, false, none, false, false⟩
       (.node .leaf 267 ⟨1, false, [.nilf], .func, false, none, false, false⟩
        .leaf)) 268 ⟨1, false, [.nilf], .func, false, none, false, false⟩
      (.node (.node .leaf 270 ⟨1, false, [.nilf], .func, false, none, false, false⟩
        .leaf) 271 ⟨1, false, [.nilp], .other, false, none, true, false⟩
       (.node .leaf 272 ⟨1, false, [.nilf], .func, false, none, false, false⟩
        .leaf))) 273 ⟨24, true, [.int .u8 0, .int .u8 0, .int .u8 0, .int .u8 0, .int .u8 0, .int .u8 0, .int .u8 0, .int .u8 0, .int .u8 0, .int .u8 0, .int .u8 0, .int .u8 0, .int .u8 0, .int .u8 0, .int .u8 0, .int .u8 0, .int .u8 0, .int .u8 0, .int .u8 0, .int .u8 0, .int .u8 0, .int .u8 0, .int .u8 0, .int .u8 0], .arr 24 5 1, true, none, false, false⟩
     (.node (.node (.node (.node .leaf 274 ⟨1, false, [.nilf], .func, false, none, false, false⟩
         .leaf) 275 ⟨1, false, [.nilf], .func, false, none, false, false⟩
        .leaf) 277 ⟨1, false, [.nilf], .func, false, none, false, false⟩
       (.node .leaf 278 ⟨1, false, [.nilf], .func, false, none, false, false⟩
        .leaf)) 279 ⟨1, false, [.nilf], .func, false, none, false, false⟩
      (.node (.node .leaf 280 ⟨1, false, [.nilf], .func, false, none, false, false⟩
        .leaf) 281 ⟨1, false, [.nilf], .func, false, none, false, false⟩
       (.node .leaf 282 ⟨1, false, [.nilf], .func, false, none, false, false⟩
        .leaf))))) 283 ⟨20, true, [.int .u64 0, .int .u64 0, .int .u64 0, .int .u64 0, .int .u64 0, .int .u64 0, .int .u64 0, .int .u64 0, .int .u64 0, .int .u64 0, .int .u64 0, .int .u64 0, .int .u64 0, .int .u64 0, .int .u64 0, .int .u64 0, .int .u64 0, .int .u64 0, .int .u64 0, .int .u64 0], .arr 20 22 1, true, none, false, false⟩
   (.node (.node (.node (.node (.node (.node .leaf 284 ⟨65, true, [.int .u8 0, .int .u8 0, .int .u8 0, .int .u8 0, .int .u8 0, .int .u8 0, .int .u8 0, .int .u8 0, .int .u8 0, .int .u8 0, .int .u8 0, .int .u8 0, .int .u8 0, .int .u8 0, .int .u8 0, .int .u8 0, .int .u8 0, .int .u8 0, .int .u8 0, .int .u8 0, .int .u8 0, .int .u8 0, .int .u8 0, .int .u8 0, .int .u8 0, .int .u8 0, .int .u8 0, .int .u8 0, .int .u8 0, .int .u8 0, .int .u8 0, .int .u8 0, .int .u8 0, .int .u8 0, .int .u8 0, .int .u8 0, .int .u8 0, .int .u8 0, .int .u8 0, .int .u8 0, .int .u8 0, .int .u8 0, .int .u8 0, .int .u8 0, .int .u8 0, .int .u8 0, .int .u8 0, .int .u8 0, .int .u8 0, .int .u8 0, .int .u8 0, .int .u8 0, .int .u8 0, .int .u8 0, .int .u8 0, .int .u8 0, .int .u8 0, .int .u8 0, .int .u8 0, .int .u8 0, .int .u8 0, .int .u8 0, .int .u8 0, .int .u8 0, .int .u8 0], .arr 65 5 1, true, none, false, false⟩
         .leaf) 285 ⟨1, false, [.nilf], .func, false, none, false, false⟩
        .leaf) 287 ⟨1, false, [.nilf], .func, false, none, false, false⟩
       (.node .leaf 288 ⟨1, false, [.nilf], .func, false, none, false, false⟩
        .leaf)) 289 ⟨1, false, [.int .i64 0], .int .i64, false, none, false, false⟩
      (.node (.node .leaf 290 ⟨1, false, [.nilf], .func, false, none, false, false⟩
        .leaf) 291 ⟨1, false, [.nilp], .ptr, false, some 298, false, false⟩
       (.node .leaf 292 ⟨1, false, [.nilf], .func, false, none, false, false⟩
        .leaf))) 293 ⟨1, false, [.nilf], .func, false, none, false, false⟩
     (.node (.node (.node (.node .leaf 294 ⟨1, false, [.nilf], .func, false, none, false, false⟩
         .leaf) 296 ⟨1, false, [.nilf], .func, false, none, false, false⟩
        .leaf) 297 ⟨3, true, [.str [], .str [], .nili], .struct [(0, 9), (1, 9), (2, 237)], false, none, false, false⟩
       (.node .leaf 298 ⟨3, true, [.str [], .str [], .nili], .struct [(0, 9), (1, 9), (2, 237)], false, none, false, false⟩
        .leaf)) 299 ⟨1, false, [.nilf], .func, false, none, false, false⟩
      (.node (.node .leaf 300 ⟨32, true, [.int .u8 0, .int .u8 0, .int .u8 0, .int .u8 0, .int .u8 0, .int .u8 0, .int .u8 0, .int .u8 0, .int .u8 0, .int .u8 0, .int .u8 0, .int .u8 0, .int .u8 0, .int .u8 0, .int .u8 0, .int .u8 0, .int .u8 0, .int .u8 0, .int .u8 0, .int .u8 0, .int .u8 0, .int .u8 0, .int .u8 0, .int .u8 0, .int .u8 0, .int .u8 0, .int .u8 0, .int .u8 0, .int .u8 0, .int .u8 0, .int .u8 0, .int .u8 0], .arr 32 5 1, true, none, false, false⟩
        .leaf) 301 ⟨64, true, [.int .u8 0, .int .u8 0, .int .u8 0, .int .u8 0, .int .u8 0, .int .u8 0, .int .u8 0, .int .u8 0, .int .u8 0, .int .u8 0, .int .u8 0, .int .u8 0, .int .u8 0, .int .u8 0, .int .u8 0, .int .u8 0, .int .u8 0, .int .u8 0, .int .u8 0, .int .u8 0, .int .u8 0, .int .u8 0, .int .u8 0, .int .u8 0, .int .u8 0, .int .u8 0, .int .u8 0, .int .u8 0, .int .u8 0, .int .u8 0, .int .u8 0, .int .u8 0, .int .u8 0, .int .u8 0, .int .u8 0, .int .u8 0, .int .u8 0, .int .u8 0, .int .u8 0, .int .u8 0, .int .u8 0, .int .u8 0, .int .u8 0, .int .u8 0, .int .u8 0, .int .u8 0, .int .u8 0, .int .u8 0, .int .u8 0, .int .u8 0, .int .u8 0, .int .u8 0, .int .u8 0, .int .u8 0, .int .u8 0, .int .u8 0, .int .u8 0, .int .u8 0, .int .u8 0, .int .u8 0, .int .u8 0, .int .u8 0, .int .u8 0, .int .u8 0], .arr 64 5 1, true, none, false, false⟩
       (.node .leaf 303 ⟨2, true, [.int .u8 0, .int .u8 0], .struct [(0, 5), (1, 5)], true, none, false, false⟩
        .leaf)))) 304 ⟨2, true, [.int .u8 0, .int .u8 0], .struct [(0, 5), (1, 5)], true, none, false, false⟩
    (.node (.node (.node (.node (.node .leaf 305 ⟨32, true, [.int .u8 0, .int .u8 0, .int .u8 0, .int .u8 0, .int .u8 0, .int .u8 0, .int .u8 0, .int .u8 0, .int .u8 0, .int .u8 0, .int .u8 0, .int .u8 0, .int .u8 0, .int .u8 0, .int .u8 0, .int .u8 0, .int .u8 0, .int .u8 0, .int .u8 0, .int .u8 0, .int .u8 0, .int .u8 0, .int .u8 0, .int .u8 0, .int .u8 0, .int .u8 0, .int .u8 0, .int .u8 0, .int .u8 0, .int .u8 0, .int .u8 0, .int .u8 0], .arr 16 304 2, true, none, false, false⟩
         .leaf) 306 ⟨1, false, [.nilp], .ptr, false, some 308, false, false⟩
        .leaf) 307 ⟨1, true, [.str []], .struct [(0, 9)], true, none, false, false⟩
       (.node .leaf 308 ⟨1, true, [.str []], .struct [(0, 9)], true, none, false, false⟩
        .leaf)) 309 ⟨1, false, [.nilf], .func, false, none, false, false⟩
      (.node (.node .leaf 310 ⟨4, true, [.nilp, .nilp, .nilp, .str []], .struct [(0, 17), (1, 17), (2, 17), (3, 9)], false, none, false, false⟩
        .leaf) 311 ⟨4, true, [.nilp, .nilp, .nilp, .str []], .struct [(0, 17), (1, 17), (2, 17), (3, 9)], false, none, false, false⟩
       (.node .leaf 312 ⟨0, true, [], .arr 0 16 1, false, none, false, false⟩
        .leaf))) 313 ⟨0, true, [], .struct [(0, 312)], false, none, false, false⟩
     (.node (.node (.node (.node .leaf 314 ⟨0, true, [], .struct [(0, 312)], false, none, false, false⟩
         .leaf) 315 ⟨1, false, [.int .u8 0], .int .u8, false, none, false, false⟩
        .leaf) 316 ⟨1, false, [.int .u8 0], .int .u8, false, none, false, false⟩
       (.node .leaf 317 ⟨1, false, [.nilf], .func, false, none, false, false⟩
        .leaf)) 318 ⟨1, false, [.int .i32 0], .int .i32, false, none, false, false⟩
      (.node (.node .leaf 319 ⟨1, false, [.int .i32 0], .int .i32, false, none, false, false⟩
        .leaf) 320 ⟨11, true, [.int .u64 0, .int .u64 0, .int .u32 0, .int .u8 0, .int .u8 0, .int .u8 0, .int .u8 0, .nilf, .nilp, .int .i32 0, .int .i32 0], .struct [(0, 12), (1, 12), (2, 252), (3, 315), (4, 5), (5, 5), (6, 316), (7, 317), (8, 241), (9, 318), (10, 319)], false, none, false, false⟩
       (.node .leaf 321 ⟨11, true, [.int .u64 0, .int .u64 0, .int .u32 0, .int .u8 0, .int .u8 0, .int .u8 0, .int .u8 0, .nilf, .nilp, .int .i32 0, .int .i32 0], .struct [(0, 12), (1, 12), (2, 252), (3, 315), (4, 5), (5, 5), (6, 316), (7, 317), (8, 241), (9, 318), (10, 319)], false, none, false, false⟩
        .leaf))))))))
theorem tt_ok : TsOk Tryz.prog tt := tsOk_of (by kernel_rfl)

end Sy
end Go.Proofs.YtckbbcjbbmgmoaaGreatDoor
namespace Go.Proofs.YtckbbcjbbmgmoaaGreatDoor
open Go.RowKit Go.WideShapes Go.ChangeShapes Go.ChangeAt

/-- A byte as a cell; a string by its list of bytes. -/
def bcell (b : UInt8) : Value := .int .u8 (b.toNat : Int)
def str (l : List UInt8) : Value := .string ⟨l.toArray⟩

theorem bcell_ofNat (n : Nat) : bcell (UInt8.ofNat n) = .int .u8 ((n : Int) % 256) := by
  have h : (((UInt8.ofNat n).toNat : Nat) : Int) = (n : Int) % 256 := by
    rw [UInt8.toNat_ofNat']; omega
  unfold bcell; rw [h]

/-! ### Strings as lists of bytes: the walk's rules -/
@[go_sem] theorem ba_get (l : List UInt8) (k : Nat) (h : k < (⟨l.toArray⟩ : ByteArray).size) : (⟨l.toArray⟩ : ByteArray)[k] = l[k]'h := rfl
@[go_sem] theorem ba_append (a b : List UInt8) : (⟨a.toArray⟩ : ByteArray) ++ ⟨b.toArray⟩ = ⟨(a ++ b).toArray⟩ := by
  apply ByteArray.ext; simp
theorem ba_extract_eq (l : List UInt8) (a b : Nat) : (⟨l.toArray⟩ : ByteArray).extract a b = ⟨((l.drop a).take (b - a)).toArray⟩ := by
  apply ByteArray.ext; simp [ByteArray.data_extract]
@[go_sem] theorem ba_extract_all (l : List UInt8) (a : Nat) : (⟨l.toArray⟩ : ByteArray).extract a l.length = ⟨(l.drop a).toArray⟩ := by
  rw [ba_extract_eq, List.take_of_length_le (by simp)]
@[go_sem] theorem ba_extract_zero (l : List UInt8) (b : Nat) : (⟨l.toArray⟩ : ByteArray).extract 0 b = ⟨(l.take b).toArray⟩ := by
  rw [ba_extract_eq, List.drop_zero, Nat.sub_zero]
@[go_sem] theorem wrap_byte_u64 (b : UInt8) : IntKind.u64.wrap (b.toNat : Int) = b.toNat := by
  have := b.toNat_lt; rw [IntKind.wrap_u64]; omega
@[go_sem] theorem wrap_byte_u32 (b : UInt8) : IntKind.u32.wrap (b.toNat : Int) = b.toNat := by
  have := b.toNat_lt; rw [IntKind.wrap_u32]; omega
@[go_sem] theorem wrap_byte_u16 (b : UInt8) : IntKind.u16.wrap (b.toNat : Int) = b.toNat := by
  have := b.toNat_lt; rw [IntKind.wrap_u16]; omega
@[go_sem] theorem wrap_byte_u8 (b : UInt8) : IntKind.u8.wrap (b.toNat : Int) = b.toNat := by
  have := b.toNat_lt; rw [IntKind.wrap_u8]; omega
@[go_sem] theorem wrap_byte_i64 (b : UInt8) : IntKind.i64.wrap (b.toNat : Int) = b.toNat := by
  have := b.toNat_lt; rw [IntKind.wrap_i64]; omega
theorem add_zero_addr (g j : Nat) : (⟨g, 0, none⟩ : Addr).add j = ⟨g, j, none⟩ := by
  unfold Addr.add
  split
  · rename_i h; rw [h]
  · rw [Nat.zero_add]

theorem conv_row {P : Program} {w : World} {src dst e : TypeId} {g n cap : Nat} {f : Nat → Value} (l : List UInt8) (hs : P.underlying src = some (.slice e)) (he : P.underlying e = some (.int .u8)) (hd : P.underlying dst = some .string)
    (hr : w.rowIs g e n f) (hl : l.length = n) (hf : ∀ i (hi : i < l.length), f i = bcell l[i]) :
    (convert src dst (.slice (some ⟨g, 0, none⟩) n cap)).run P w = .ok (.string ⟨l.toArray⟩) w := by
  subst hl
  refine run_convert_bytes_back w src dst e _ cap l hs he hd fun j hj => ?_
  have := hr.cell hj
  rw [hf j hj] at this
  rw [add_zero_addr]
  exact this

/-! ### A row whose first n cells are known, none of them frozen (what []byte(s) lays bears a mark behind its last cell) -/
def Row (w : World) (b : Nat) (t : TypeId) (n : Nat) (f : Nat → Value) : Prop :=
  ∃ (c : Array Value) (lo hi : Nat), w.heap[b]? = some (.cells c t (lo, hi)) ∧ n ≤ c.size ∧ (hi = 0 ∨ n ≤ lo) ∧ ∀ i, i < n → c[i]? = some (f i)
section
variable {w w' : World} {b : Nat} {t : TypeId} {n : Nat} {f g : Nat → Value}
theorem Row.cell (h : Row w b t n f) {i : Nat} (hi : i < n) : w.cell? ⟨b, i, none⟩ = some (f i) := by
  obtain ⟨c, lo, hi', hb, _, _, hc⟩ := h
  simp [World.cell?, hb, hc i hi]
theorem Row.frozen (h : Row w b t n f) {i : Nat} (hi : i < n) : w.frozen? ⟨b, i, none⟩ = false := by
  obtain ⟨c, lo, hi', hb, _, hf, _⟩ := h
  simp only [World.frozen?, hb]
  rcases hf with hf | hf
  · subst hf; simp
  · simp; omega
theorem Row.lt (h : Row w b t n f) : b < w.heap.size := by
  obtain ⟨c, lo, hi, hb, _⟩ := h
  exact (Array.getElem?_eq_some_iff.1 hb).1
theorem Row.congr (h : Row w b t n f) (e : ∀ i, i < n → f i = g i) : Row w b t n g := by
  obtain ⟨c, lo, hi, hb, hn, hf, hc⟩ := h
  exact ⟨c, lo, hi, hb, hn, hf, fun i hi => by rw [hc i hi, e i hi]⟩
theorem Row.of_block (h : Row w b t n f) (e : w'.heap[b]? = w.heap[b]?) : Row w' b t n f := by
  obtain ⟨c, lo, hi, hb, hn, hf, hc⟩ := h
  exact ⟨c, lo, hi, e.trans hb, hn, hf, hc⟩
theorem Row.set (h : Row w b t n f) (i : Nat) (v : Value) : Row (w.setCell ⟨b, i, none⟩ v) b t n (fun j => if j = i then v else f j) := by
  obtain ⟨c, lo, hi', hb, hn, hf, hc⟩ := h
  refine ⟨c.setIfInBounds i v, lo, hi', ?_, by simpa using hn, hf, fun j hj => ?_⟩
  · simp [World.setCell, Array.getElem?_modify, hb]
  · rw [Array.getElem?_setIfInBounds]
    by_cases e : i = j
    · subst e
      have : i < c.size := by omega
      simp [this]
    · rw [if_neg e, hc j hj]
      show _ = some (if j = i then v else f j)
      rw [if_neg (fun (h : j = i) => e h.symm)]
theorem Row.alloc (h : Row w b t n f) (o : Obj) : Row (w.alloc o) b t n f := h.of_block (Below.heap_alloc _ _ _ h.lt)
theorem Row.below (h : Row w b t n f) {B : Nat} (hb : Below B w w') (hB : b < B) : Row w' b t n f := h.of_block (hb.block b hB)
theorem Row.drewN (h : Row w b t n f) (k : Nat) : Row (w.drewN k) b t n f := h
/-- '[]byte(s)'. -/
theorem Row.bytes (w : World) (t : TypeId) (l : List UInt8) (cap : Nat) : Row (w.alloc (.cells (bytesRow ⟨l.toArray⟩ cap) t ((bytesRow ⟨l.toArray⟩ cap).size, (bytesRow ⟨l.toArray⟩ cap).size + 1))) w.heap.size t l.length (fun j => bcell (l.getD j 0)) := by
  refine ⟨bytesRow ⟨l.toArray⟩ cap, _, _, heap_alloc_new _ _, by simp [bytesRow], .inr (by simp [bytesRow]), fun i hi => ?_⟩
  rw [bytesRow_at _ _ _ (by simpa using hi)]
  simp [bcell, hi]
end

/-! ### A block that is known whole (the kit's page extra-words, 2) -/
def Blk (w : World) (g : Nat) (t : TypeId) (cs : Array Value) : Prop := w.heap[g]? = some (.cells cs t (0, 0))

section
variable {w w' : World} {g : Nat} {t : TypeId} {cs : Array Value}
theorem Blk.lt (h : Blk w g t cs) : g < w.heap.size := by
  rcases Nat.lt_or_ge g w.heap.size with hlt | hge
  · exact hlt
  · unfold Blk at h; rw [Array.getElem?_eq_none hge] at h; cases h
theorem Blk.cell (h : Blk w g t cs) (i : Nat) : w.cell? ⟨g, i, none⟩ = cs[i]? := cell_of_row w g i cs t (0, 0) h
theorem Blk.frozen (h : Blk w g t cs) (i : Nat) : w.frozen? ⟨g, i, none⟩ = false := by
  unfold Blk at h
  simp [World.frozen?, h]
theorem Blk.new (w : World) (t : TypeId) (cs : Array Value) : Blk (w.alloc (.cells cs t)) w.heap.size t cs := heap_alloc_new w _
theorem Blk.drew (h : Blk w g t cs) : Blk w.drew g t cs := h
theorem Blk.drewN (h : Blk w g t cs) (n : Nat) : Blk (w.drewN n) g t cs := h
theorem Blk.alloc (h : Blk w g t cs) (o : Obj) : Blk (w.alloc o) g t cs := (Below.heap_alloc w o g h.lt).trans h
theorem Blk.far (h : Blk w g t cs) {p : Addr} (hp : g ≠ p.block) (u : Value) : Blk (w.setCell p u) g t cs := (Below.heap_setCell w p u g hp).trans h
theorem Blk.below {B : Nat} (h : Blk w g t cs) (hb : Below B w w') (hg : g < B) : Blk w' g t cs := (hb.block g hg).trans h
theorem Blk.grown {row : Option Nat} (h : Blk w g t cs) (hb : w.grownBy w' row) (hg : some g ≠ row) : Blk w' g t cs := (hb.block g h.lt hg).trans h
end

/-! ### Rows of the call's own -/
theorem below_grown_own {base : Nat} {e : TypeId} {size n : Nat} {v : Value} {xs : List Value} {w w' : World} (hown : w.ownsRow base e size v n xs) (hb : base ≤ w.heap.size) (hg : w.grownBy w' v.ownBlock) : Below base w w' :=
  (Below.refl _ _).grown hg hb fun k hk => (hown.lt k hk).1

/-- 'append(v, c)', one cell an element, v the call's own: the literal of one cell has just been laid. -/
theorem wpList_push {P : Program} {ops : Array Oper} {rest : List Oper} {o : Oper} {a : Act} {Q : Exit → Act → World → Prop} (wr : World) (hgd : o.guard = none) (s x : Operand) (t : TypeId)
    (ho : o.op = .call { callee := .builtin .append, args := #[s, x], argTypes := #[t, t] })
    (base : Nat) (e : TypeId) (z : Value) (bytes : Nat) (ht : P.underlying t = some (.slice e)) (hinfo : (P.info? e).map (fun i => (i.zero, i.size, i.bytes)) = some (some z, 1, bytes)) (hz1 : z.cells.size = 1)
    (v : Value) (n : Nat) (xs : List Value) (hs : a.eval s = v) (hown : wr.ownsRow base e 1 v n xs)
    (c : Value) (h1 : c.oneCell' = true) (hx : a.eval x = .slice (some ⟨wr.heap.size, 0, none⟩) 1 1)
    (hbytes : (n + 1) * bytes ≤ 140737488355328) (hn : n < 9223372036854775807) (hbase : base ≤ wr.heap.size)
    (h : ∀ v' w', w'.ownsRow base e 1 v' (n + 1) (xs ++ [c]) → Below base wr w' → wpList P ops Q rest (a.put o.dst v') w') : wpList P ops Q (o :: rest) a (wr.alloc (.cells #[c] e)) := by
  obtain ⟨i, hi, hzz⟩ := Option.map_eq_some_iff.1 hinfo
  simp only [Prod.mk.injEq] at hzz
  obtain ⟨hz, hsz, hby⟩ := hzz
  have hown' := hown.alloc (.cells #[c] e)
  refine wpList_append_own _ hgd s x t ho base e i z 1 bytes ht hi hz hsz hby hz1 (by decide) v n xs hs hown' ⟨wr.heap.size, 0, none⟩ 1 1 [c] hx rfl ?_ ?_ ?_ hbytes ?_ ?_
  · intro j u hj
    match j, hj with
    | 0, hj =>
      simp at hj; subst hj
      rw [add_zero_addr, cell_of_row _ _ _ _ _ _ (heap_alloc_new wr _)]; rfl
  · intro u hu
    simp at hu; subst hu; exact h1
  · unfold maxLen; omega
  · simp; omega
  · intro v' w' ho' hg _
    exact h v' w' ho' (((Below.refl _ _).alloc hbase _).trans (below_grown_own hown' (by simp; omega) hg))

theorem conv_owned {P : Program} {src dst e : TypeId} (hs : P.underlying src = some (.slice e)) (he : P.underlying e = some (.int .u8)) (hd : P.underlying dst = some .string) {w : World} {base n : Nat} {v : Value} (l : List UInt8)
    (h : w.ownsRow base e 1 v n (l.map bcell)) : (convert src dst v).run P w = .ok (.string ⟨l.toArray⟩) w := by
  rcases h.2 with ⟨rfl, rfl⟩ | ⟨g, cap, cur, rfl, _, hh, hnc, _, hsz, hx⟩
  · have hl : l = [] := by have := h.1; simpa using this
    subst hl
    rw [run_convert_bytes_string w src dst e none 0 0 hs he hd]
    simp [Conv.bytesToString]; rfl
  · have hl : l.length = n := by have := h.1; simpa using this
    subst hl
    refine run_convert_bytes_back w src dst e _ cap l hs he hd fun j hj => ?_
    have := h.cells (g := g) rfl j (bcell l[j]) (by simp [hj])
    exact this

theorem ret_str {a b : List UInt8} (h : a = b) : Ending.returned (.string ⟨a.toArray⟩) = .returned (.string ⟨b.toArray⟩) := by rw [h]
/-! ### A scope in which the run jumps back to one label: the pass from the label is walked once, the way to the label apart -/
theorem wp_scope_again {P : Program} {a : Act} {w : World} {Q : Exit → Act → World → Prop} {c rest : Code} (l : Nat) (J : Act → World → Prop) (μ : Act → World → Nat) (hf : findLabel c l = some (.seq .skip rest))
    (pass : ∀ a w, J a w → rest.wp P (Exit.jump l (fun a' w' => J a' w' ∧ μ a' w' < μ a w) Q) a w)
    (first : Hid (∀ a w, J a w → rest.wp P (Exit.jump l J Q) a w) → c.wp P (Exit.jump l J Q) a w) : (Code.scope c).wp P Q a w := by
  refine wp_scope_jumps l J μ hf (first fun a w hJ => Code.wp_mono (fun e a' w' hq => ?_) (pass a w hJ)) fun a w hJ => wp_seq (wp_skip (pass a w hJ))
  cases e <;> first | exact hq | exact ⟨hq.1, hq.2.1⟩

section
variable {l : Nat} {J : Act → World → Prop} {Q : Exit → Act → World → Prop} {a : Act} {w : World}
@[go_sem] theorem jump_normal : Exit.jump l J Q .normal a w = Q .normal a w := rfl
@[go_sem] theorem jump_exit (id : Nat) : Exit.jump l J Q (.exit id) a w = Q (.exit id) a w := rfl
@[go_sem] theorem jump_ret : Exit.jump l J Q .ret a w = Q .ret a w := rfl
@[go_sem] theorem jump_panic (ch : List PanicEntry) : Exit.jump l J Q (.panic ch) a w = Q (.panic ch) a w := rfl
end

section
variable {H : Type} {enc : TypeId × Value → H} {P : Program}
theorem post_of_below {f : Func} {s : ChangeSpec} {apart fresh handsOn again : Bool} {W W' : World} {args : Array Value} {v : Value} {ds gs : List (DataW H)} {before pa pv : List MemPlace}
    (hW : DataW.Whole enc P f.params.toList s.vars apart W args.toList ds gs before)
    (hres : ∀ (b : Nat) (sp : Nat → Bool) (hd : Bool), DataW.TrodAll enc P W' b sp hd f.resultTypes.toList (v.resultList f.resultTypes.size) (s.fn H (ds ++ gs)).results [])
    (hargs : ∀ sp : Nat → Bool, (∀ p ∈ before, sp p.block = true) → DataW.TrodAll enc P W' 0 sp true f.params.toList args.toList (s.fn H (ds ++ gs)).args pa)
    (hvars : ∀ sp : Nat → Bool, (∀ p ∈ before, sp p.block = true) → DataW.TrodVars enc P W' sp s.vars (s.fn H (ds ++ gs)).vars pv)
    (hps : before = pa ++ pv) (hb : Below W.heap.size W W')
    (hok : ∀ (j : Nat) (t : TypeId) (r : Value), f.resultTypes[j]? = some t → (v.resultList f.resultTypes.size)[j]? = some r → Value.okWide P W' .any 0 t r) :
    s.post enc P f apart fresh handsOn again W args v W' := by
  have hlt : ∀ p ∈ before, p.block < W.heap.size := fun p hp => hW.lt p hp
  have hold : ∀ p ∈ before, (fun b => decide (b < W.heap.size)) p.block = true := fun p hp => by simpa using hlt p hp
  refine ⟨ds, gs, before, [], pa, pv, hW, hres _ _ _, hargs _ hold, hvars _ hold, World.keptBut_mono (fun p hp => ⟨hp, ?_⟩) (hb.frame (· ∈ before)), fun _ => ?_⟩
  · rw [hps, List.mem_append] at hp
    exact Or.inr hp
  · obtain ⟨_, _, _, _, _, hz, hn⟩ := hW
    refine ⟨hok, _, _, ([] ++ pa) ++ pv, ⟨[] ++ pa, pv, trodAll_append (hargs _ (fun _ _ => rfl)) (hres _ _ _), hvars _ (fun _ _ => rfl), rfl, ?_, ?_⟩, ?_⟩
    · intro b off hp
      have hin : MemPlace.cell b off ∈ before := by rw [hps]; simpa using hp
      rw [hb.frozen (hlt _ hin)]
      exact hz b off hin
    · intro ha
      have := hn ha
      rw [hps] at this
      simpa using this
    · intro p hp _
      rw [hps]
      simpa using hp

/-- The last step of a law's row: it answered true, nothing that was there has turned. -/
theorem trodAll_below (hl : laidOutB P = true) {W W' : World} (hb : Below W.heap.size W W') {sp : Nat → Bool} :
    ∀ {ts : List TypeId} {vs : List Value} {ds : List (DataW H)} {ps : List MemPlace}, (∀ t ∈ ts, P.readableRec t = true ∧ t < P.types.size) →
    DataW.TrodAll enc P W 0 (fun _ => true) true ts vs ds ps → (∀ x ∈ ps, x.block < W.heap.size) → (∀ x ∈ ps, sp x.block = true) → DataW.TrodAll enc P W' 0 sp true ts vs ds ps
  | [], [], [], _, _, h, _, _ => h
  | _ :: _, _ :: _, _ :: _, _, hr, ⟨p, q, h1, h2, e⟩, hlt, hs =>
    ⟨p, q, WideElems.Trod_stays hl (hr _ (List.mem_cons.2 (Or.inl rfl))).1 (hr _ (List.mem_cons.2 (Or.inl rfl))).2 h1
        (fun x hx => hb.same (hlt x (by rw [e]; exact List.mem_append_left _ hx))) (fun x hx => hs x (by rw [e]; exact List.mem_append_left _ hx)),
      trodAll_below hl hb (fun t ht => hr t (List.mem_cons.2 (Or.inr ht))) h2 (fun x hx => hlt x (by rw [e]; exact List.mem_append_right _ hx)) (fun x hx => hs x (by rw [e]; exact List.mem_append_right _ hx)), e⟩

theorem post_law {f : Func} {s : ChangeSpec} {apart fresh handsOn again : Bool} {W W' : World} {args : Array Value} {ds : List (DataW H)} {before : List MemPlace} {tb : TypeId}
    (hl : laidOutB P = true) (hr : (f.params.toList.all fun t => P.readableRec t && decide (t < P.types.size)) = true) (hbt : f.resultTypes = #[tb]) (hub : P.underlying tb = some .bool) (hsv : s.vars = [])
    (hW : DataW.Whole enc P f.params.toList s.vars apart W args.toList ds [] before)
    (hfn : s.fn H (ds ++ []) = { results := [.lit (.bool true)], args := ds }) (hb : Below W.heap.size W W') :
    s.post enc P f apart fresh handsOn again W args (.bool true) W' := by
  have hlt : ∀ p ∈ before, p.block < W.heap.size := fun p hp => hW.lt p hp
  obtain ⟨p, q, hA, hV, hpq, _, _⟩ := id hW
  rw [hsv] at hV
  have hq : q = [] := hV
  subst hq
  rw [List.append_nil] at hpq
  subst hpq
  refine post_of_below (pa := before) (pv := []) hW ?_ ?_ ?_ (by simp) hb ?_
  · intro _ _ _
    rw [hfn, hbt]
    exact trodAll_mk1 (shut_bool hub true)
  · intro sp hsp
    rw [hfn]
    exact trodAll_below hl hb (fun t ht => by simpa using List.all_eq_true.1 hr t ht) hA hlt hsp
  · intro sp _
    rw [hfn, hsv]
    rfl
  · exact ok_one hbt rfl (okWide_bool_mk hub true)
end

end Go.Proofs.YtckbbcjbbmgmoaaGreatDoor
namespace Go.Proofs.YtckbbcjbbmgmoaaGreatDoor
open Go.RowKit

theorem i5 : (Tryz.prog.info? 5).map (fun i => (i.zero, i.size, i.bytes)) = some (some (.int .u8 0), 1, 1) := by kernel_rfl

def cl8 (k : Int) : Nat := (min (max k 0) 8).toNat
def putL (n : Nat) : Nat → List UInt8
  | 0 => []
  | i+1 => UInt8.ofNat (n / 256^i) :: putL n i

theorem cl8_le (k : Int) : cl8 k ≤ 8 := by unfold cl8; omega
theorem putL_length (n c : Nat) : (putL n c).length = c := by induction c <;> simp_all [putL]
theorem putL_get (n c t : Nat) (h : t < (putL n c).length) : (putL n c)[t] = UInt8.ofNat (n / 256 ^ (c - 1 - t)) := by
  induction c generalizing t with
  | zero => simp [putL] at h
  | succ c ih =>
    rcases t with _ | t
    · simp [putL]
    · simp only [putL, List.getElem_cons_succ]
      rw [ih]
      congr 3; omega

set_option maxRecDepth 100000 in
set_option maxHeartbeats 400000 in
theorem put_any (n : Nat) (k : Int) (w : World) (_hn : n < 18446744073709551616) :
    Calls Tryz.prog 147 #[.int .u64 n, .int .i64 k] w fun e w' => e = .returned (.string ⟨(putL n (cl8 k)).toArray⟩) ∧ Below w.heap.size w w' := by
  have h8 := cl8_le k
  have hmk := fun W => run_make_row' (P := Tryz.prog) 194 5 (.int .u8 0) 1 Tryz.underlying194 i5 rfl .i64 .i64 (cl8 k) (by omega) (by omega) W
  go_enter Tryz.func147, Tryz.ntmps147
  go_upto_region 1 with (fail)
  go_cut [1] (fun v wx => v = .int .i64 (cl8 k) ∧ w = wx)
  case first =>
    go_wp2
    all_goals (go_meet; exact ⟨by unfold cl8; go_num, rfl⟩)
  case rest =>
    obtain ⟨rfl, rfl⟩ := hcut
    generalize hc : cl8 k = c at *
    have Hc := Lib.hid hc
    clear hc
    go_wp2
    go_loopw [0, 6] (fun m i wr => ∃ j x : Nat, j ≤ c ∧ i = .int .i64 ((j : Int) - 1) ∧ m = .int .u64 (x : Int) ∧ Hid (x = n / 256 ^ (c - j)) ∧
       wr.rowIs w.heap.size 5 c (fun t => if t < j then .int .u8 0 else bcell (UInt8.ofNat (n / 256 ^ (c - 1 - t)))) ∧ Below w.heap.size w wr) (fun _ i _ => (intOf i + 1).toNat)
    case atStart =>
      refine ⟨c, n, by omega, by simp, by simp, Lib.hid (by simp), ?_, ?_⟩
      · exact (World.rowIs_made w (.int .u8 0) c 5).congr (fun i hi => by simp [hi])
      · exact (Below.refl _ _).alloc (Nat.le_refl _) _
    case round =>
      obtain ⟨j, x, hj, rfl, rfl, hx, hrow, hb⟩ := hrel
      rcases j with _ | j
      · have hconv := fun cc => conv_row (P := Tryz.prog) (src := 194) (dst := 9) (cap := cc) (putL n c) Tryz.underlying194 Tryz.underlying5 Tryz.underlying9 hrow (putL_length n c) (fun i hi => by simp [putL_get])
        go_wp2
        go_ret
        exact ⟨ret_str (by rw [Hc.out]), hb⟩
      · have hc := hrow.cell (i := j) (by omega)
        have hf := hrow.frozen j
        have hs := hrow.set j (.int .u8 ((x : Int) % 256))
        have hB := hb.setCell (p := ⟨w.heap.size, j, none⟩) (Nat.le_refl _) (.int .u8 ((x : Int) % 256))
        have h0 : ((j + 1 : Nat) : Int) - 1 = j := by omega
        rw [h0]
        simp only [Nat.lt_succ_self, if_true] at hc
        clear hrow hb h0
        go_wp2
        go_roundw
        case rel =>
          refine ⟨j, x / 256, by omega, rfl, rfl, Lib.hid ?_, hs.congr fun t ht => ?_, hB⟩
          · rw [hx.out, Nat.div_div_eq_div_mul, ← Nat.pow_succ]; congr 2; omega
          · by_cases h1 : t = j
            · subst h1; rw [if_pos rfl, if_neg (by omega), bcell_ofNat, hx.out, show c - (t + 1) = c - 1 - t by omega]
            · rw [if_neg h1]
              by_cases h2 : t < j
              · rw [if_pos h2, if_pos (by omega)]
              · rw [if_neg h2, if_neg (by omega)]
        case measure => simp [intOf] <;> omega

/-! ### Short -/
def shortL (n : Nat) : List UInt8 := if n < 128 then [UInt8.ofNat n] else UInt8.ofNat (n % 128 + 128) :: shortL (n / 128)
termination_by n
decreasing_by omega
theorem shortL_small {n : Nat} (h : n < 128) : shortL n = [UInt8.ofNat n] := by rw [shortL, if_pos h]
theorem shortL_big {n : Nat} (h : 128 ≤ n) : shortL n = UInt8.ofNat (n % 128 + 128) :: shortL (n / 128) := by rw [shortL, if_neg (by omega)]
theorem or128 (x : Nat) : bits .or .u8 ((x : Int) % 256) 128 = (x : Int) % 128 + 128 := by
  have h := u8_or_nat (x % 256) 128 (by omega) (by omega)
  have h2 : x % 256 ||| 128 = x % 128 + 128 := by
    have e1 : x % 256 = x % 128 + x / 128 % 2 * 128 := by omega
    have h3 : x / 128 % 2 = 0 ∨ x / 128 % 2 = 1 := by omega
    have j1 : ∀ y, y < 128 → 128 ||| y = 128 + y := fun y hy => nat_join 7 128 y (by decide) hy
    have e2 : ∀ y, y < 128 → (y + 128) ||| 128 = y + 128 := fun y hy => by
      rw [Nat.add_comm y 128, ← j1 y hy, Nat.or_comm 128 y, Nat.or_assoc, Nat.or_self]
    rcases h3 with h3 | h3
    · rw [e1, h3, Nat.or_comm]; simp only [Nat.zero_mul, Nat.add_zero]; rw [j1 _ (by omega)]; omega
    · rw [e1, h3, Nat.one_mul, e2 _ (by omega)]
  rw [h2] at h
  have e : (((x % 256 : Nat) : Int)) = (x : Int) % 256 := by omega
  rw [e] at h
  rw [show ((128 : Nat) : Int) = 128 from rfl] at h
  rw [h]; omega

set_option maxRecDepth 100000 in
set_option maxHeartbeats 400000 in
theorem short_any (n : Nat) (w : World) (hn : n < 18446744073709551616) :
    Calls Tryz.prog 168 #[.int .u64 n] w fun e w' => e = .returned (.string ⟨(shortL n).toArray⟩) ∧ Below w.heap.size w w' := by
  go_enter Tryz.func168, Tryz.ntmps168
  go_wp2
  refine wp_scope_again 0 (fun a' w' => Below w.heap.size w w' ∧ ∃ (x k : Nat) (v : Value) (pre : List UInt8), Hid (pre ++ shortL x = shortL n) ∧ x < 18446744073709551616 ∧ k ≤ 10 ∧ Hid (x * 128 ^ k ≤ n) ∧ w'.ownsRow w.heap.size 5 1 v k (pre.map bcell) ∧ ∃ u1 u2 u4 u5 u6 u7 u8 u9 u10 u11 u12 u13 u14 u15 u16 u17 u18 u19 : Value, a' = ⟨#[.int .u64 (x : Int), u1, u2, v, u4, u5, u6, u7, u8, u9, u10, u11, u12, u13, u14, u15, u16, u17, u18, u19], []⟩) (fun a' _ => (intOf (a'.tmps.getD 0 undef)).toNat) rfl ?_ ?_
  · rintro a' wr ⟨hb, x, k, v, pre, hpre, hx, hk, hxk, hown, u1, u2, u4, u5, u6, u7, u8, u9, u10, u11, u12, u13, u14, u15, u16, u17, u18, u19, rfl⟩
    have hor := or128 x
    have hsz := hb.size
    by_cases hlt : x < 128
    · have hx8 : ∀ w1 : World, ∀ v1, w1.ownsRow w.heap.size 5 1 v1 (k + 1) (List.map bcell pre ++ [Value.int .u8 (x : Int)]) → (convert 194 9 v1).run Tryz.prog w1 = .ok (.string ⟨(pre ++ [UInt8.ofNat x]).toArray⟩) w1 := fun w1 v1 h =>
        conv_owned (P := Tryz.prog) (src := 194) (dst := 9) (e := 5) Tryz.underlying194 Tryz.underlying5 Tryz.underlying9 (pre ++ [UInt8.ofNat x]) (by
          have e : (Value.int .u8 (x : Int)) = bcell (UInt8.ofNat x) := by rw [bcell_ofNat]; go_num
          rw [List.map_append, List.map_singleton, ← e]; exact h)
      have Hx8 := Lib.hid hx8
      clear hx8
      go_wp2_with (at_builtin; refine wpList_push _ rfl _ _ 194 rfl w.heap.size 5 (.int .u8 0) 1 Tryz.underlying194 i5 rfl _ _ _ rfl hown _ rfl rfl (by omega) (by omega) hsz ?_; intro v1 w1 hown1 hb1; have hcv := Hx8.out w1 v1 hown1; clear hown1 hown hor)
      go_ret
      exact ⟨ret_str (by rw [← hpre.out, shortL_small hlt]), hb.trans (by assumption)⟩
    · go_wp2_with (at_builtin; refine wpList_push _ rfl _ _ 194 rfl w.heap.size 5 (.int .u8 0) 1 Tryz.underlying194 i5 rfl _ _ _ rfl hown _ rfl rfl (by omega) (by omega) hsz ?_; intro v1 w1 hown1 hb1)
      go_step3
      have h128 : 128 * 128 ^ k ≤ n := Nat.le_trans (Nat.mul_le_mul_right _ (by omega)) hxk.out
      have hk9 : k + 1 ≤ 10 := by
        refine Decidable.byContradiction fun h => ?_
        have : 128 ^ 10 ≤ 128 ^ k := Nat.pow_le_pow_right (by decide) (by omega)
        have h3 : (128 : Nat) ^ 10 = 1180591620717411303424 := by decide
        omega
      exact ⟨rfl, ⟨hb.trans hb1, x / 128, k + 1, v1, pre ++ [UInt8.ofNat (x % 128 + 128)], Lib.hid (by rw [List.append_assoc, ← hpre.out, shortL_big (n := x) (by omega)]; rfl), by omega, hk9, Lib.hid (by
        rw [Nat.pow_succ]; have h4 : x / 128 * (128 ^ k * 128) ≤ x * 128 ^ k := by
          rw [Nat.mul_comm (128 ^ k) 128, ← Nat.mul_assoc]; exact Nat.mul_le_mul_right _ (by omega)
        exact Nat.le_trans h4 hxk.out), by
        rw [List.map_append, List.map_singleton, bcell_ofNat]; rw [show (((x % 128 + 128 : Nat) : Int) % 256) = (x : Int) % 128 + 128 by omega]; exact hown1, _, _, _, _, _, _, _, _, _, _, _, _, _, _, _, _, _, _, rfl⟩, by simp [intOf]; omega⟩
  · intro hP
    go_wp2
    go_step3
    simp only [Exit.then]
    apply_assumption
    exact hP.out _ _ ⟨Below.refl _ _, n, 0, _, [], Lib.hid rfl, hn, by omega, Lib.hid (by simp), World.ownsRow_nil _ _ _ _, _, _, _, _, _, _, _, _, _, _, _, _, _, _, _, _, _, _, rfl⟩

end Go.Proofs.YtckbbcjbbmgmoaaGreatDoor
namespace Go.Proofs.YtckbbcjbbmgmoaaGreatDoor
open Go.RowKit

/-! ### the walk's forms -/
/-! ### The parts: a slice of strings in memory -/
def Parts (w : World) (g : Nat) (ps : List (List UInt8)) : Prop := ∀ j (h : j < ps.length), w.cell? ⟨g, j, none⟩ = some (.string ⟨ps[j].toArray⟩)
def flat (ps : List (List UInt8)) : List UInt8 := ps.flatten
/-! ### turned, Mark, Check -/
def le4 (n : Nat) : List UInt8 := [UInt8.ofNat n, UInt8.ofNat (n / 256), UInt8.ofNat (n / 65536), UInt8.ofNat (n / 16777216)]
end Go.Proofs.YtckbbcjbbmgmoaaGreatDoor
namespace Go.Proofs.YtckbbcjbbmgmoaaGreatDoor
namespace Sy
open Go Go.RowKit
set_option maxRecDepth 100000

def putZ (e n : Int) : List UInt8 := putL e.toNat (cl8 n)
def putOk (e n : Int) : Prop := 0 ≤ e ∧ e < 18446744073709551616 ∧ -9223372036854775808 ≤ n ∧ n ≤ 9223372036854775807
def upto (n : Nat) (l : List UInt8) : Prop := l.length ≤ n
def put_s (L : Seal) : Ent1 := (147, fun xs => match xs with | [.int .u64 e, .int .i64 n] => some (L2 L putOk e n, .str (L2 L putZ e n)) | _ => none)
theorem int_r (k : IntKind) (n : Int) : ∀ h D, R h D noMu (.int k n) (.int k n) := fun _ _ => .int k n
theorem nat_of {e : Int} (h : 0 ≤ e) : ∃ n : Nat, e = n := ⟨e.toNat, by omega⟩

theorem put_good : Good Tryz.prog (put_s std) := by
  intro xs p r h hp
  dsimp only [put_s] at h ⊢
  split at h <;> cases h
  rename_i e n
  obtain ⟨h0, h1, h2, h3⟩ : putOk e n := hp
  obtain ⟨k, rfl⟩ := nat_of h0
  exact ac_of_below (fn := Tryz.f147) rfl rfl (by kernel_rfl) (args2 (tells_int _ _) (tells_int _ _)) (fun h D => str_r h D _ _) (fun w => put_any k n w (by omega))
end Sy
end Go.Proofs.YtckbbcjbbmgmoaaGreatDoor
namespace Go.Proofs.YtckbbcjbbmgmoaaGreatDoor
namespace Sy
open Go Go.RowKit
set_option maxRecDepth 100000
set_option linter.unusedSimpArgs false
set_option linter.unusedVariables false

/-! ### A text parted by a byte -/
def splitC (c : UInt8) : List UInt8 → List (List UInt8)
  | [] => [[]]
  | x :: s => if x = c then [] :: splitC c s else match splitC c s with
    | y :: r => (x :: y) :: r
    | [] => [[x]]
theorem splitC_ne (c : UInt8) : ∀ s, splitC c s ≠ []
  | [] => by simp [splitC]
  | x :: s => by
    unfold splitC
    split
    · simp
    · split <;> simp
theorem splitC_at {c : UInt8} : ∀ {s : List UInt8} {m : Nat}, (∀ k, k < m → s[k]? ≠ some c) → s[m]? = some c → splitC c s = s.take m :: splitC c (s.drop (m + 1))
  | [], m, _, h => by simp at h
  | x :: s, 0, _, h => by
    simp at h; subst h
    simp [splitC]
  | x :: s, m + 1, h0, h => by
    have hx : x ≠ c := by
      have := h0 0 (by omega)
      intro e; subst e; simp at this
    have ih := splitC_at (s := s) (m := m) (fun k hk => by have := h0 (k + 1) (by omega); simpa using this) (by simpa using h)
    rw [splitC, if_neg hx, ih]
    simp
theorem splitC_no {c : UInt8} : ∀ {s : List UInt8}, (∀ k : Nat, s[k]? ≠ some c) → splitC c s = [s]
  | [], _ => rfl
  | x :: s, h0 => by
    have hx : x ≠ c := by
      have := h0 0
      intro e; subst e; simp at this
    have ih := splitC_no (s := s) (fun k => by have := h0 (k + 1); simpa using this)
    rw [splitC, if_neg hx, ih]
theorem splitC_len (c : UInt8) : ∀ s : List UInt8, (splitC c s).length = s.count c + 1
  | [] => by simp [splitC]
  | x :: s => by
    have ih := splitC_len c s
    unfold splitC
    by_cases hx : x = c
    · rw [if_pos hx, List.length_cons, ih, hx, List.count_cons_self]
    · rw [if_neg hx, List.count_cons_of_ne (fun e => hx e)]
      cases hs : splitC c s with
      | nil => exact absurd hs (splitC_ne c s)
      | cons y r => rw [hs] at ih; simpa using ih
theorem idx_no {s : List UInt8} {c : UInt8} (h : Lib.indexByte s c < 0) : ∀ k : Nat, s[k]? ≠ some c := by
  have := Lib.indexByte_ge s c
  exact Lib.indexByte_none (by omega)
theorem idx_at {s : List UInt8} {c : UInt8} (h : ¬ Lib.indexByte s c < 0) : s[(Lib.indexByte s c).toNat]? = some c ∧ (∀ k, k < (Lib.indexByte s c).toNat → s[k]? ≠ some c) ∧ (Lib.indexByte s c).toNat < s.length := by
  obtain ⟨o, ho⟩ : ∃ o : Nat, Lib.indexByte s c = o := ⟨(Lib.indexByte s c).toNat, by omega⟩
  have h1 := Lib.indexByte_some ho
  have e : (Lib.indexByte s c).toNat = o := by omega
  rw [e]
  exact ⟨h1.1, h1.2, (List.getElem?_eq_some_iff.1 h1.1).1⟩
theorem idx_le (s : List UInt8) (c : UInt8) : -1 ≤ Lib.indexByte s c ∧ Lib.indexByte s c ≤ s.length := by
  have h0 := Lib.indexByte_ge s c
  by_cases h : Lib.indexByte s c < 0
  · omega
  · have := (idx_at h).2.2; omega
/-- The byte that parts. -/
def by1 (sep : List UInt8) : UInt8 := sep.headD 0
def oneB (sep : List UInt8) : Prop := sep.length = 1
theorem oneB_is {sep : List UInt8} (h : oneB sep) : sep = [by1 sep] := by
  match sep, h with
  | [c], _ => rfl
def idxZ (s sep : List UInt8) : Int := Lib.indexByte s (by1 sep)
def cntZ (s sep : List UInt8) : Int := s.count (by1 sep)
def splitS (s sep : List UInt8) : List (List UInt8) := splitC (by1 sep) s
def lenSt (l : List (List UInt8)) : Nat := l.length
def lstS (L : Seal) (l : List (List UInt8)) : AV := .lst 1 (L lenSt l) (fun i _ => .str (L2 L nthS l i))
def idx_s (L : Seal) : Ent1 := (208, fun xs => match xs with | [.str s, .str sep] => some (L oneB sep, .int .i64 (L2 L idxZ s sep)) | _ => none)
def idl_s (L : Seal) : Ent1 := (226, fun xs => match xs with | [.str s, .str sep] => some (L oneB sep, .int .i64 (L2 L idxZ s sep)) | _ => none)
def cnt_s (L : Seal) : Ent1 := (225, fun xs => match xs with | [.str s, .str sep] => some (L oneB sep, .int .i64 (L2 L cntZ s sep)) | _ => none)
theorem idx_good : Good Tryz.prog (idx_s std) := by
  intro xs p r h hp
  dsimp only [idx_s] at h ⊢
  split at h <;> cases h
  try simp only [L2, L3, std] at hp ⊢
  rename_i s sep
  have h1 := oneB_is (show oneB sep from hp)
  rw [h1]
  refine ac_of_below (fn := Tryz.f208) rfl rfl (by kernel_rfl) (args2 (tells_str _) (tells_str _)) (int_r _ _) (fun w => (Tryz.strings_Index_one ⟨s.toArray⟩ (by1 sep) w).mono ?_)
  rintro e w' ⟨rfl, rfl⟩
  exact ⟨rfl, Below.refl _ _⟩
theorem idl_good : Good Tryz.prog (idl_s std) := by
  intro xs p r h hp
  dsimp only [idl_s] at h ⊢
  split at h <;> cases h
  try simp only [L2, L3, std] at hp ⊢
  rename_i s sep
  have h1 := oneB_is (show oneB sep from hp)
  rw [h1]
  refine ac_of_below (fn := Tryz.f226) rfl rfl (by kernel_rfl) (args2 (tells_str _) (tells_str _)) (int_r _ _) (fun w => (Tryz.stringslite_Index_one ⟨s.toArray⟩ (by1 sep) w).mono ?_)
  rintro e w' ⟨rfl, rfl⟩
  exact ⟨rfl, Below.refl _ _⟩
theorem cnt_good : Good Tryz.prog (cnt_s std) := by
  intro xs p r h hp
  dsimp only [cnt_s] at h ⊢
  split at h <;> cases h
  try simp only [L2, L3, std] at hp ⊢
  rename_i s sep
  have h1 := oneB_is (show oneB sep from hp)
  rw [h1]
  refine ac_of_below (fn := Tryz.f225) rfl rfl (by kernel_rfl) (args2 (tells_str _) (tells_str _)) (int_r _ _) (fun w => (Tryz.strings_Count_one ⟨s.toArray⟩ (by1 sep) w).mono ?_)
  rintro e w' ⟨rfl, rfl⟩
  exact ⟨rfl, Below.refl _ _⟩
/-! ### Cut -/
def cutA (s sep : List UInt8) : List UInt8 := if idxZ s sep < 0 then s else s.take (idxZ s sep).toNat
def cutB (s sep : List UInt8) : List UInt8 := if idxZ s sep < 0 then [] else s.drop ((idxZ s sep).toNat + 1)
def cutY (s sep : List UInt8) : Bool := decide (0 ≤ idxZ s sep)
def cutL_s (L : Seal) : Ent1 := (214, fun xs => match xs with | [.str s, .str sep] => some (L oneB sep ∧ L2 L upto 1000000000 s, .tup [.str (L2 L cutA s sep), .str (L2 L cutB s sep), .bool (L2 L cutY s sep)]) | _ => none)
def cut_s (L : Seal) : Ent1 := (194, fun xs => match xs with | [.str s, .str sep] => some (L oneB sep ∧ L2 L upto 1000000000 s, .tup [.str (L2 L cutA s sep), .str (L2 L cutB s sep), .bool (L2 L cutY s sep)]) | _ => none)
theorem cutL_good : Good Tryz.prog (cutL_s std) := by
  intro xs p r h hp
  dsimp only [cutL_s] at h ⊢
  split at h <;> cases h
  try simp only [L2, L3, std] at hp ⊢
  rename_i s sep
  obtain ⟨p1, p2⟩ : oneB sep ∧ s.length ≤ 1000000000 := hp
  refine acalls_L (T := tt) (S := fun L => sumOf [idl_s L]) (lo := noA) (lb := noA) 5 (fn := Tryz.f214) rfl rfl (by kernel_rfl) (by kernel_rfl) rfl tt_ok (sumOf_ok ⟨idl_good, trivial⟩) (by kernel_rfl) ?_
  (intro L P1 Q1 hL hP hQ; cbv; subst hL; simp only [L2, L3, std, sat_need, sat_must, sat_ite, sat_done, sat_yes, sat_ex, sat_all, sat_sup, sat_and, sat_fail]; subst hQ)
  (simp only [sySet, reduceCtorEq, forall_const, Int.reduceToNat, Int.reduceAdd, Int.reduceSub, Int.cast_ofNat_Int, Int.toNat_natCast, Nat.le_eq, Nat.sub_eq, ne_eq, Decidable.not_not, implies_true, true_and, and_true, wadd, wsub, wmul, decide_eq_true_eq, decide_eq_false_iff_not, Nat.succ_eq_add_one, imp_false, not_false_eq_true, not_true_eq_false, false_imp_iff, true_imp_iff])
  have hl := idx_le s (by1 sep)
  refine ⟨p1, fun h => ?_, fun h => ?_⟩
  · have := (idx_at (c := by1 sep) (s := s) (by show ¬ idxZ s sep < 0; omega)).2.2
    have e0 : ¬ idxZ s sep < 0 := by omega
    have e1 : (sep.length : Int) = 1 := by rw [p1]; rfl
    have hl : -1 ≤ idxZ s sep ∧ idxZ s sep ≤ s.length := hl
    have this : (idxZ s sep).toNat < s.length := this
    rw [e1, show (idxZ s sep + 1 + 9223372036854775808) % 18446744073709551616 - 9223372036854775808 = idxZ s sep + 1 by omega]
    refine ⟨by omega, by omega, (if_neg e0).symm, ?_, (decide_eq_true h).symm⟩
    rw [cutB, if_neg e0, show (idxZ s sep + 1).toNat = (idxZ s sep).toNat + 1 by omega]
  · exact ⟨(if_pos (by omega)).symm, (if_pos (by omega)).symm, (decide_eq_false (by omega)).symm⟩
theorem cut_good : Good Tryz.prog (cut_s std) := by
  intro xs p r h hp
  dsimp only [cut_s] at h ⊢
  split at h <;> cases h
  try simp only [L2, L3, std] at hp ⊢
  rename_i s sep
  obtain ⟨p1, p2⟩ : oneB sep ∧ s.length ≤ 1000000000 := hp
  refine acalls_L (T := tt) (S := fun L => sumOf [cutL_s L]) (lo := noA) (lb := noA) 5 (fn := Tryz.f194) rfl rfl (by kernel_rfl) (by kernel_rfl) rfl tt_ok (sumOf_ok ⟨cutL_good, trivial⟩) (by kernel_rfl) ?_
  (intro L P1 Q1 hL hP hQ; cbv; subst hL; simp only [L2, L3, std, sat_need, sat_must, sat_ite, sat_done, sat_yes, sat_ex, sat_all, sat_sup, sat_and, sat_fail]; subst hQ)
  (simp only [sySet, reduceCtorEq, forall_const, Int.reduceToNat, Int.reduceAdd, Int.reduceSub, Int.cast_ofNat_Int, Int.toNat_natCast, Nat.le_eq, Nat.sub_eq, ne_eq, Decidable.not_not, implies_true, true_and, and_true, wadd, wsub, wmul, decide_eq_true_eq, decide_eq_false_iff_not, Nat.succ_eq_add_one, imp_false, not_false_eq_true, not_true_eq_false, false_imp_iff, true_imp_iff])
  exact ⟨p1, p2⟩
/-! ### Split -/
/-- What is left behind i parts. -/
def restC (c : UInt8) (s : List UInt8) : Nat → List UInt8
  | 0 => s
  | i + 1 => (restC c s i).drop ((Lib.indexByte (restC c s i) c).toNat + 1)
theorem restC_is (c : UInt8) (s : List UInt8) : ∀ i, i ≤ s.count c → splitC c (restC c s i) = (splitC c s).drop i ∧ (restC c s i).length ≤ s.length
  | 0, _ => by simp [restC]
  | i + 1, h => by
    obtain ⟨ih, hl⟩ := restC_is c s i (by omega)
    have hlen := congrArg List.length ih
    rw [splitC_len, List.length_drop, splitC_len] at hlen
    have hn : ¬ Lib.indexByte (restC c s i) c < 0 := by
      intro hn
      have h0 := splitC_no (idx_no hn)
      have := congrArg List.length h0
      rw [splitC_len] at this
      simp at this
      omega
    obtain ⟨h1, h2, h3⟩ := idx_at hn
    have e := splitC_at h2 h1
    rw [ih] at e
    have e2 := congrArg (List.drop 1) e
    rw [List.drop_drop, List.drop_succ_cons, List.drop_zero] at e2
    refine ⟨by rw [restC, ← e2], ?_⟩
    rw [restC, List.length_drop]; omega
theorem rest_at {c : UInt8} {s : List UInt8} {i : Nat} (h : i < s.count c) : 0 ≤ Lib.indexByte (restC c s i) c ∧ (Lib.indexByte (restC c s i) c).toNat < (restC c s i).length ∧ nthS (splitC c s) i = (restC c s i).take (Lib.indexByte (restC c s i) c).toNat := by
  obtain ⟨ih, hl⟩ := restC_is c s i (by omega)
  have hlen := congrArg List.length ih
  rw [splitC_len, List.length_drop, splitC_len] at hlen
  have hn : ¬ Lib.indexByte (restC c s i) c < 0 := by
    intro hn
    have h0 := splitC_no (idx_no hn)
    have := congrArg List.length h0
    rw [splitC_len] at this
    simp at this
    omega
  obtain ⟨h1, h2, h3⟩ := idx_at hn
  refine ⟨by omega, h3, ?_⟩
  have e := splitC_at h2 h1
  rw [ih] at e
  have hlt : i < (splitC c s).length := by rw [splitC_len]; omega
  rw [nthS, List.getD_eq_getElem?_getD, List.getElem?_eq_getElem hlt]
  rw [List.drop_eq_getElem_cons hlt] at e
  exact (List.cons.inj e).1
theorem rest_last (c : UInt8) (s : List UInt8) : nthS (splitC c s) (s.count c) = restC c s (s.count c) := by
  obtain ⟨ih, hl⟩ := restC_is c s (s.count c) (Nat.le_refl _)
  have hlen := congrArg List.length ih
  rw [splitC_len, List.length_drop, splitC_len] at hlen
  have hc : (restC c s (s.count c)).count c = 0 := by omega
  have h0 : splitC c (restC c s (s.count c)) = [restC c s (s.count c)] := splitC_no (fun k hk => by
    have := List.count_pos_iff.2 (List.mem_of_getElem? hk)
    omega)
  rw [h0] at ih
  have hlt : s.count c < (splitC c s).length := by rw [splitC_len]; omega
  rw [nthS, List.getD_eq_getElem?_getD, List.getElem?_eq_getElem hlt]
  rw [List.drop_eq_getElem_cons hlt] at ih
  exact (List.cons.inj ih).1.symm
def restS (s sep : List UInt8) (i : Nat) : List UInt8 := restC (by1 sep) s i
/-- The parts that are there behind i rounds. -/
def doneS (s sep : List UInt8) (i j : Nat) : List UInt8 := if j < i then nthS (splitS s sep) j else []
def cntB (s sep : List UInt8) : Nat := s.count (by1 sep)
theorem cnt_le (s sep : List UInt8) : cntB s sep ≤ s.length := List.count_le_length
def splA (L : Seal) (s sep : List UInt8) : Nat → St → Option Ann := fun id st => match id with
  | 0 => some ⟨Nat, fun i => [(0, .str (L3 L restS s sep i)), (10, .int .i64 (L natI i)), (9, .sl 900 1 0 (L (fun n : Nat => n + 1) (L2 L cntB s sep))), (3, .int .i64 (L natI (L2 L cntB s sep)))],
      fun i => [(900, .row 9 1 (L (fun n : Nat => n + 1) (L2 L cntB s sep)) (fun j _ => .str (L (L3 L doneS s sep i) j)))], [1, 2], [],
      fun i => L3 L (fun s sep i => i ≤ cntB s sep) s sep i, fun i => L3 L (fun s sep i => cntB s sep - i) s sep i⟩
  | _ => none
theorem over1s (q : Nat) (v : List UInt8) (f : Nat → List UInt8) (i j : Nat) (h : j < 1) : over std q 0 1 [.str v] (fun i _ => .str (f i)) i j = .str (if i = q then v else f i) := by
  have : j = 0 := by omega
  subst this
  rw [over_get, if_pos ⟨Nat.le_refl _, by omega⟩]
  by_cases h : i = q
  · subst h; simp [beq_same, sel1, L3, std, lget]
  · simp [beq_no h, sel1, L3, std, lget, h]
/-- A function that is never called here. -/
def nev (f : Nat) : Ent1 := (f, fun _ => some (False, .dead))
theorem nev_good (f : Nat) : Good Tryz.prog (nev f) := by
  intro xs p r h hp
  cases h
  exact hp.elim
def gsp_s (L : Seal) : Ent1 := (206, fun xs => match xs with
  | [.str s, .str sep, .int .i64 a, .int .i64 b] => some (L oneB sep ∧ L2 L upto 1000000000 s ∧ L2 L (fun a b : Int => a = 0 ∧ b = -1) a b, lstS L (L2 L splitS s sep))
  | _ => none)
theorem gsp_good : Good Tryz.prog (gsp_s std) := by
  intro xs p r h hp
  dsimp only [gsp_s] at h ⊢
  split at h <;> cases h
  try simp only [L2, L3, std] at hp ⊢
  rename_i s sep a b
  obtain ⟨p1, p2, rfl, rfl⟩ : oneB sep ∧ s.length ≤ 1000000000 ∧ a = 0 ∧ b = -1 := hp
  refine acalls_L (T := tt) (S := fun L => sumOf [idx_s L, cnt_s L, nev 224]) (lo := fun L => splA L s sep) (lb := noA) 5 (fn := Tryz.f206) rfl rfl (by kernel_rfl) (by kernel_rfl) rfl tt_ok (sumOf_ok ⟨idx_good, cnt_good, nev_good _, trivial⟩) (by kernel_rfl) ?_
  intro L P' Q' hL hP hQ
  (cbv; try simp only [sat_need, sat_must, sat_ite, sat_done, sat_yes, sat_ex, sat_all, sat_sup, sat_and, sat_fail, true_and, and_true])
  have hc : cntZ s sep = (cntB s sep : Int) := rfl
  have hle := cnt_le s sep
  have hsep : sep ≠ [] := fun e => by rw [e] at p1; cases p1
  refine ⟨fun h => ?_, fun h1 => ⟨fun h => ?_, fun h2 => ⟨fun h3 => ⟨?_, ?_, ⟨0, ?_⟩, fun i hi => ?_⟩, fun h3 => ?_⟩⟩⟩
  · (subst hL; subst hQ; simp only [L2, L3, std] at *; try simp only [sySet, reduceCtorEq, forall_const, Int.reduceToNat, Int.reduceAdd, Int.reduceSub, Int.cast_ofNat_Int, Int.toNat_natCast, Nat.le_eq, Nat.sub_eq, ne_eq, Decidable.not_not, implies_true, true_and, and_true, wadd, wsub, wmul, decide_eq_true_eq, decide_eq_false_iff_not, Nat.succ_eq_add_one, imp_false, not_false_eq_true, not_true_eq_false, false_imp_iff, true_imp_iff] at *)
  · (subst hL; subst hQ; simp only [L2, L3, std] at *; try simp only [sySet, reduceCtorEq, forall_const, Int.reduceToNat, Int.reduceAdd, Int.reduceSub, Int.cast_ofNat_Int, Int.toNat_natCast, Nat.le_eq, Nat.sub_eq, ne_eq, Decidable.not_not, implies_true, true_and, and_true, wadd, wsub, wmul, decide_eq_true_eq, decide_eq_false_iff_not, Nat.succ_eq_add_one, imp_false, not_false_eq_true, not_true_eq_false, false_imp_iff, true_imp_iff] at *)
    exact absurd h hsep
  · (subst hL; subst hQ; simp only [L2, L3, std] at *; try simp only [sySet, reduceCtorEq, forall_const, Int.reduceToNat, Int.reduceAdd, Int.reduceSub, Int.cast_ofNat_Int, Int.toNat_natCast, Nat.le_eq, Nat.sub_eq, ne_eq, Decidable.not_not, implies_true, true_and, and_true, wadd, wsub, wmul, decide_eq_true_eq, decide_eq_false_iff_not, Nat.succ_eq_add_one, imp_false, not_false_eq_true, not_true_eq_false, false_imp_iff, true_imp_iff] at *)
    exact p1
  · (subst hL; subst hQ; simp only [L2, L3, std] at *; try simp only [sySet, reduceCtorEq, forall_const, Int.reduceToNat, Int.reduceAdd, Int.reduceSub, Int.cast_ofNat_Int, Int.toNat_natCast, Nat.le_eq, Nat.sub_eq, ne_eq, Decidable.not_not, implies_true, true_and, and_true, wadd, wsub, wmul, decide_eq_true_eq, decide_eq_false_iff_not, Nat.succ_eq_add_one, imp_false, not_false_eq_true, not_true_eq_false, false_imp_iff, true_imp_iff] at *)
    rw [hc]
    omega
  · (cbv; try simp only [sat_need, sat_must, sat_ite, sat_done, sat_yes, sat_ex, sat_all, sat_sup, sat_and, sat_fail, true_and, and_true])
    (subst hL; subst hQ; simp only [L2, L3, std] at *; try simp only [sySet, reduceCtorEq, forall_const, Int.reduceToNat, Int.reduceAdd, Int.reduceSub, Int.cast_ofNat_Int, Int.toNat_natCast, Nat.le_eq, Nat.sub_eq, ne_eq, Decidable.not_not, implies_true, true_and, and_true, wadd, wsub, wmul, decide_eq_true_eq, decide_eq_false_iff_not, Nat.succ_eq_add_one, imp_false, not_false_eq_true, not_true_eq_false, false_imp_iff, true_imp_iff] at *)
    rw [hc, show min (((cntB s sep : Nat) + 1 + 9223372036854775808 : Int) % 18446744073709551616 - 9223372036854775808) (((s.length : Nat) + 1 + 9223372036854775808 : Int) % 18446744073709551616 - 9223372036854775808) = (cntB s sep : Nat) + 1 by omega]
    refine ⟨⟨by omega, fun k j hk hj => ?_⟩, by omega, by omega, rfl, Nat.zero_le _⟩
    rw [doneS, if_neg (by omega)]
    match j, hj with
    | 0, _ => rfl
  · cbv at hi
    (cbv; try simp only [sat_need, sat_must, sat_ite, sat_done, sat_yes, sat_ex, sat_all, sat_sup, sat_and, sat_fail, true_and, and_true])
    refine ⟨fun h4 => ⟨?_, fun h5 => ?_, fun h5 => ⟨?_, ?_, ?_, i + 1, ?_⟩⟩, fun h4 => ⟨?_, ?_, ?_⟩⟩
    · (subst hL; subst hQ; simp only [L2, L3, std] at *; try simp only [sySet, reduceCtorEq, forall_const, Int.reduceToNat, Int.reduceAdd, Int.reduceSub, Int.cast_ofNat_Int, Int.toNat_natCast, Nat.le_eq, Nat.sub_eq, ne_eq, Decidable.not_not, implies_true, true_and, and_true, wadd, wsub, wmul, decide_eq_true_eq, decide_eq_false_iff_not, Nat.succ_eq_add_one, imp_false, not_false_eq_true, not_true_eq_false, false_imp_iff, true_imp_iff] at *)
      exact p1
    · (subst hL; subst hQ; simp only [L2, L3, std] at *; try simp only [sySet, reduceCtorEq, forall_const, Int.reduceToNat, Int.reduceAdd, Int.reduceSub, Int.cast_ofNat_Int, Int.toNat_natCast, Nat.le_eq, Nat.sub_eq, ne_eq, Decidable.not_not, implies_true, true_and, and_true, wadd, wsub, wmul, decide_eq_true_eq, decide_eq_false_iff_not, Nat.succ_eq_add_one, imp_false, not_false_eq_true, not_true_eq_false, false_imp_iff, true_imp_iff] at *)
      obtain ⟨r1, r2, r3⟩ := rest_at (c := by1 sep) (s := s) (i := i) (show i < cntB s sep by omega)
      exfalso
      have h5 : Lib.indexByte (restC (by1 sep) s i) (by1 sep) < 0 := h5
      omega
    · (subst hL; subst hQ; simp only [L2, L3, std] at *; try simp only [sySet, reduceCtorEq, forall_const, Int.reduceToNat, Int.reduceAdd, Int.reduceSub, Int.cast_ofNat_Int, Int.toNat_natCast, Nat.le_eq, Nat.sub_eq, ne_eq, Decidable.not_not, implies_true, true_and, and_true, wadd, wsub, wmul, decide_eq_true_eq, decide_eq_false_iff_not, Nat.succ_eq_add_one, imp_false, not_false_eq_true, not_true_eq_false, false_imp_iff, true_imp_iff] at *)
      obtain ⟨r1, r2, r3⟩ := rest_at (c := by1 sep) (s := s) (i := i) (show i < cntB s sep by omega)
      obtain ⟨q1, q2⟩ := restC_is (by1 sep) s i hi
      have r1 : 0 ≤ idxZ (restS s sep i) sep := r1
      have r2 : (idxZ (restS s sep i) sep).toNat < (restS s sep i).length := r2
      have q2 : (restS s sep i).length ≤ s.length := q2
      omega
    · (subst hL; subst hQ; simp only [L2, L3, std] at *; try simp only [sySet, reduceCtorEq, forall_const, Int.reduceToNat, Int.reduceAdd, Int.reduceSub, Int.cast_ofNat_Int, Int.toNat_natCast, Nat.le_eq, Nat.sub_eq, ne_eq, Decidable.not_not, implies_true, true_and, and_true, wadd, wsub, wmul, decide_eq_true_eq, decide_eq_false_iff_not, Nat.succ_eq_add_one, imp_false, not_false_eq_true, not_true_eq_false, false_imp_iff, true_imp_iff] at *)
      omega
    · (subst hL; subst hQ; simp only [L2, L3, std] at *; try simp only [sySet, reduceCtorEq, forall_const, Int.reduceToNat, Int.reduceAdd, Int.reduceSub, Int.cast_ofNat_Int, Int.toNat_natCast, Nat.le_eq, Nat.sub_eq, ne_eq, Decidable.not_not, implies_true, true_and, and_true, wadd, wsub, wmul, decide_eq_true_eq, decide_eq_false_iff_not, Nat.succ_eq_add_one, imp_false, not_false_eq_true, not_true_eq_false, false_imp_iff, true_imp_iff] at *)
      obtain ⟨r1, r2, r3⟩ := rest_at (c := by1 sep) (s := s) (i := i) (show i < cntB s sep by omega)
      obtain ⟨q1, q2⟩ := restC_is (by1 sep) s i hi
      have r1 : 0 ≤ idxZ (restS s sep i) sep := r1
      have r2 : (idxZ (restS s sep i) sep).toNat < (restS s sep i).length := r2
      have q2 : (restS s sep i).length ≤ s.length := q2
      have e1 : (sep.length : Int) = 1 := by rw [p1]; rfl
      omega
    · (cbv; try simp only [sat_need, sat_must, sat_ite, sat_done, sat_yes, sat_ex, sat_all, sat_sup, sat_and, sat_fail, true_and, and_true])
      (subst hL; subst hQ; simp only [L2, L3, std] at *; try simp only [sySet, reduceCtorEq, forall_const, Int.reduceToNat, Int.reduceAdd, Int.reduceSub, Int.cast_ofNat_Int, Int.toNat_natCast, Nat.le_eq, Nat.sub_eq, ne_eq, Decidable.not_not, implies_true, true_and, and_true, wadd, wsub, wmul, decide_eq_true_eq, decide_eq_false_iff_not, Nat.succ_eq_add_one, imp_false, not_false_eq_true, not_true_eq_false, false_imp_iff, true_imp_iff] at *)
      obtain ⟨r1, r2, r3⟩ := rest_at (c := by1 sep) (s := s) (i := i) (show i < cntB s sep by omega)
      obtain ⟨q1, q2⟩ := restC_is (by1 sep) s i hi
      have r1 : 0 ≤ idxZ (restS s sep i) sep := r1
      have r2 : (idxZ (restS s sep i) sep).toNat < (restS s sep i).length := r2
      have q2 : (restS s sep i).length ≤ s.length := q2
      have e1 : (sep.length : Int) = 1 := by rw [p1]; rfl
      refine ⟨fun k j hk hj => ?_, by omega, ?_, by omega, by omega⟩
      · rw [over1s _ _ _ _ _ hj]
        congr 1
        by_cases hki : k = i
        · subst hki
          rw [if_pos rfl, doneS, if_pos (by omega), show (idxZ (restS s sep k) sep + 0 + 9223372036854775808) % 18446744073709551616 - 9223372036854775808 = idxZ (restS s sep k) sep by omega]
          exact r3.symm
        · rw [if_neg hki, doneS, doneS]
          by_cases hlt : k < i
          · rw [if_pos hlt, if_pos (by omega)]
          · rw [if_neg hlt, if_neg (by omega)]
      · rw [e1, show ((idxZ (restS s sep i) sep + 1 + 9223372036854775808) % 18446744073709551616 - 9223372036854775808).toNat = (idxZ (restS s sep i) sep).toNat + 1 by omega]
        rfl
    · (subst hL; subst hQ; simp only [L2, L3, std] at *; try simp only [sySet, reduceCtorEq, forall_const, Int.reduceToNat, Int.reduceAdd, Int.reduceSub, Int.cast_ofNat_Int, Int.toNat_natCast, Nat.le_eq, Nat.sub_eq, ne_eq, Decidable.not_not, implies_true, true_and, and_true, wadd, wsub, wmul, decide_eq_true_eq, decide_eq_false_iff_not, Nat.succ_eq_add_one, imp_false, not_false_eq_true, not_true_eq_false, false_imp_iff, true_imp_iff] at *)
      omega
    · (subst hL; subst hQ; simp only [L2, L3, std] at *; try simp only [sySet, reduceCtorEq, forall_const, Int.reduceToNat, Int.reduceAdd, Int.reduceSub, Int.cast_ofNat_Int, Int.toNat_natCast, Nat.le_eq, Nat.sub_eq, ne_eq, Decidable.not_not, implies_true, true_and, and_true, wadd, wsub, wmul, decide_eq_true_eq, decide_eq_false_iff_not, Nat.succ_eq_add_one, imp_false, not_false_eq_true, not_true_eq_false, false_imp_iff, true_imp_iff] at *)
      omega
    · (subst hL; subst hQ; simp only [L2, L3, std] at *; try simp only [sySet, reduceCtorEq, forall_const, Int.reduceToNat, Int.reduceAdd, Int.reduceSub, Int.cast_ofNat_Int, Int.toNat_natCast, Nat.le_eq, Nat.sub_eq, ne_eq, Decidable.not_not, implies_true, true_and, and_true, wadd, wsub, wmul, decide_eq_true_eq, decide_eq_false_iff_not, Nat.succ_eq_add_one, imp_false, not_false_eq_true, not_true_eq_false, false_imp_iff, true_imp_iff] at *)
      have hi' : i = cntB s sep := by omega
      subst hi'
      rw [show ((cntB s sep : Nat) + 1 + 9223372036854775808 : Int) % 18446744073709551616 - 9223372036854775808 = ((cntB s sep + 1 : Nat) : Int) by omega, Int.toNat_natCast]
      show fits (.lst 1 (splitC (by1 sep) s).length _) _
      rw [fits_lst, splitC_len]
      refine ⟨rfl, fun k j hk hj => ?_⟩
      rw [over1s _ _ _ _ _ hj]
      congr 1
      by_cases hki : k = cntB s sep
      · rw [if_pos hki, hki]; exact (rest_last _ _).symm
      · have hk : k < cntB s sep + 1 := hk
        rw [if_neg hki, doneS, if_pos (by omega)]
        rfl
  · (subst hL; subst hQ; simp only [L2, L3, std] at *; try simp only [sySet, reduceCtorEq, forall_const, Int.reduceToNat, Int.reduceAdd, Int.reduceSub, Int.cast_ofNat_Int, Int.toNat_natCast, Nat.le_eq, Nat.sub_eq, ne_eq, Decidable.not_not, implies_true, true_and, and_true, wadd, wsub, wmul, decide_eq_true_eq, decide_eq_false_iff_not, Nat.succ_eq_add_one, imp_false, not_false_eq_true, not_true_eq_false, false_imp_iff, true_imp_iff] at *)
    exact absurd h3 (by decide)
def spl_s (L : Seal) : Ent1 := (175, fun xs => match xs with | [.str s, .str sep] => some (L oneB sep ∧ L2 L upto 1000000000 s, lstS L (L2 L splitS s sep)) | _ => none)
theorem spl_good : Good Tryz.prog (spl_s std) := by
  intro xs p r h hp
  dsimp only [spl_s] at h ⊢
  split at h <;> cases h
  try simp only [L2, L3, std] at hp ⊢
  rename_i s sep
  obtain ⟨p1, p2⟩ : oneB sep ∧ s.length ≤ 1000000000 := hp
  refine acalls_L (T := tt) (S := fun L => sumOf [gsp_s L]) (lo := noA) (lb := noA) 5 (fn := Tryz.f175) rfl rfl (by kernel_rfl) (by kernel_rfl) rfl tt_ok (sumOf_ok ⟨gsp_good, trivial⟩) (by kernel_rfl) ?_
  (intro L P1 Q1 hL hP hQ; cbv; subst hL; simp only [L2, L3, std, sat_need, sat_must, sat_ite, sat_done, sat_yes, sat_ex, sat_all, sat_sup, sat_and, sat_fail]; subst hQ)
  (simp only [sySet, reduceCtorEq, forall_const, Int.reduceToNat, Int.reduceAdd, Int.reduceSub, Int.cast_ofNat_Int, Int.toNat_natCast, Nat.le_eq, Nat.sub_eq, ne_eq, Decidable.not_not, implies_true, true_and, and_true, wadd, wsub, wmul, decide_eq_true_eq, decide_eq_false_iff_not, Nat.succ_eq_add_one, imp_false, not_false_eq_true, not_true_eq_false, false_imp_iff, true_imp_iff])
  refine ⟨⟨p1, p2⟩, ?_⟩
  show fits (.lst 1 (lenSt (splitS s sep)) _) _
  rw [fits_lst]
  exact ⟨rfl, fun i j hi hj => rfl⟩
/-! ### Join -/
def toS : AV → List UInt8
  | .str s => s
  | _ => []
/-- The parts of a list of texts, one behind the other. -/
def partsOf (n : Nat) (get : Nat → Nat → AV) : List (List UInt8) := (List.range n).map fun i => toS (get i 0)
def jnZ (sep : List UInt8) (x : AV) : List UInt8 := match x with
  | .lst _ n get => Lib.join (partsOf n get) sep
  | _ => []
def jnOk (sep : List UInt8) (x : AV) : Prop := match x with
  | .lst 1 n get => (∀ i, i < n → ∃ s, get i 0 = .str s) ∧ n ≤ 1000000 ∧ (Lib.join (partsOf n get) sep).length ≤ 140737488355328
  | .nils => True
  | _ => False
def jn_s (L : Seal) : Ent1 := (127, fun xs => match xs with | [x, .str sep] => some (L2 L jnOk sep x, .str (L2 L jnZ sep x)) | _ => none)
theorem args_2 {h : Array Obj} {D : Nat → Prop} {x y : AV} {vs : Array Value} (hr : RL h D noMu [x, y] vs) : ∃ a b, vs = #[a, b] ∧ R h D noMu x a ∧ R h D noMu y b := by
  obtain ⟨hl, hr⟩ := hr
  obtain ⟨a, b, ha⟩ : ∃ a b, vs.toList = [a, b] := by
    have hl : vs.toList.length = 2 := by simpa using hl.symm
    match vs.toList, hl with
    | [a, b], _ => exact ⟨a, b, rfl⟩
  have : vs = #[a, b] := by rw [← Array.toArray_toList (xs := vs), ha]
  subst this
  exact ⟨a, b, rfl, hr 0 x a rfl rfl, hr 1 y b rfl rfl⟩
theorem jn_good : Good Tryz.prog (jn_s std) := by
  intro xs p r h hp
  dsimp only [jn_s] at h ⊢
  split at h <;> cases h
  try simp only [L2, L3, std] at hp ⊢
  rename_i x sep
  have hp : jnOk sep x := hp
  intro D w vs hD hxs hg
  obtain ⟨a, b, rfl, rx, ry⟩ := args_2 hxs
  obtain rfl := str_eq ry
  unfold CallTo
  rw [callFunc_run (fn := Tryz.f127) rfl (by kernel_rfl) rfl]
  have fin : ∀ (l : List UInt8), l = jnZ sep x → (∀ w', Below w.heap.size w w' → ∃ v D', Ending.returned (.string ⟨l.toArray⟩) = .returned v ∧ Below w.heap.size w w' ∧ (∀ b, D b → D' b) ∧ (∀ b, D' b → D b ∨ (w.heap.size ≤ b ∧ b < w'.heap.size)) ∧ R w'.heap D' noMu (.str (jnZ sep x)) v) := by
    rintro l rfl w' hw
    exact ⟨_, D, rfl, hw, fun _ h => h, fun b hb => .inl hb, str_r _ _ _ _⟩
  have none_ : jnZ sep x = [] → ∀ (a : Option Addr) (c : Nat), Calls Tryz.prog 127 #[.slice a 0 c, .string ⟨sep.toArray⟩] w fun e w' => ∃ v D', e = .returned v ∧ Below w.heap.size w w' ∧ (∀ b, D b → D' b) ∧ (∀ b, D' b → D b ∨ (w.heap.size ≤ b ∧ b < w'.heap.size)) ∧ R w'.heap D' noMu (.str (jnZ sep x)) v := by
    intro h0 a c
    refine (Tryz.strings_Join_none a c ⟨sep.toArray⟩ w).mono ?_
    rintro e w' ⟨rfl, rfl⟩
    exact fin [] h0.symm _ (Below.refl _ _)
  unfold jnOk at hp
  split at hp
  · rename_i n get _
    obtain ⟨h1, h2, h3⟩ := hp
    cases rx with
    | lst0 => exact none_ rfl _ _
    | lst _ _ _ b o cap us hD0 hc hv h1' hr =>
      have hl : (partsOf n get).length = n := by rw [partsOf, List.length_map, List.length_range]
      have hq : ∀ j x, ((partsOf n get).map (fun s : List UInt8 => (⟨s.toArray⟩ : ByteArray)))[j]? = some x → w.cell? ⟨b, o + j, none⟩ = some (.string x) := by
        intro j x hj
        have hjn : j < n := by
          have := (List.getElem?_eq_some_iff.1 hj).1
          rw [List.length_map, hl] at this
          exact this
        obtain ⟨s, hs⟩ := h1 j hjn
        have r := hr j 0 hjn (by omega)
        rw [hs] at r
        have hv := hv j 0 hjn (by omega)
        rw [str_eq r, Nat.mul_one, Nat.add_zero] at hv
        rw [cell_h, hv]
        have e2 : (partsOf n get)[j]? = some s := by rw [partsOf, List.getElem?_map, List.getElem?_range hjn, Option.map_some, hs]; rfl
        rw [List.getElem?_map, e2] at hj
        cases hj
        rfl
      have hm : ((partsOf n get).map (fun s : List UInt8 => (⟨s.toArray⟩ : ByteArray))).map (·.data.toList) = partsOf n get := by
        rw [List.map_map]
        exact List.map_id' _
      have := Tryz.strings_Join b o cap ((partsOf n get).map (fun s : List UInt8 => (⟨s.toArray⟩ : ByteArray))) ⟨sep.toArray⟩ w hq (hD b hD0) (by rw [List.length_map, hl]; omega) (by rw [List.length_map, hl]; exact hc) (by rw [hm]; exact h3)
      rw [hm, List.length_map, hl] at this
      refine this.mono ?_
      rintro e w' ⟨rfl, hw⟩
      exact fin _ rfl _ hw
  · cases rx
    exact none_ rfl _ _
  · exact hp.elim
end Sy
end Go.Proofs.YtckbbcjbbmgmoaaGreatDoor
namespace Go.Proofs.YtckbbcjbbmgmoaaGreatDoor
open Go Go.RowKit Go.Sort Go.Lib
set_option maxRecDepth 100000
set_option linter.unusedSimpArgs false
set_option linter.unusedVariables false

set_option maxHeartbeats 6400000 in
theorem fmt_in (u : Nat) (hu : u < 18446744073709551616) (w : World) (htab : Lib.TabIs Tryz.prog w "internal/strconv.uint64pow10" .u64 Lib.pow10Tab) :
    Calls Tryz.prog 203 #[.int .u64 u, .int .i64 10] w fun e w' => e = .returned (.string ⟨(Lib.decDigits u).toArray⟩) ∧ Below w.heap.size w w' := by
  by_cases hs : u < 100
  · have hw : IntKind.i64.wrap (u : Int) = (u : Int) := by rw [IntKind.wrap_i64]; omega
    go_enter Tryz.func203, Tryz.ntmps203
    go_wp2_with (go_at_call 219; refine (Tryz.internal_strconv_small u hs _).mono ?_; rintro e w' ⟨rfl, rfl⟩)
    go_ret
    exact ⟨rfl, Below.refl _ _⟩
  · have hu1 : 1 ≤ u := by omega
    have hnd20 : Lib.nDigits u ≤ 20 := by have := Lib.numDigits_eq u hu1 hu; split at this <;> omega
    have hal : Tryz.prog.arrayLen 273 = 24 := by kernel_rfl
    have hsl1 : ∀ W, (Instr.sliceAt 273 (.pointer (some ⟨w.heap.size, 0, none⟩)) none (some (.int .i64 (Lib.nDigits u : Int))) none).run Tryz.prog W = .ok (.slice (some ⟨w.heap.size, 0, none⟩) (Lib.nDigits u) 24) W := fun W => by
      rw [run_sliceAt_array_h W 273 ⟨w.heap.size, 0, none⟩ (by simp [Program.arrayLen, Program.elem, Tryz.underlying273]) .i64 (Lib.nDigits u : Int) (by omega) (by rw [hal]; omega)]
      go_simp
      first | done | omega
    have hH0 := Lib.holds_zero0 w 273 (Lib.nDigits u) (by omega)
    have hfmt := Tryz.internal_strconv_formatBase10 w.heap.size 0 24 u (Array.replicate (Lib.nDigits u) 0) (w.alloc (.cells Lib.zeros24 273)) hH0 (by rw [Array.size_replicate]; exact Lib.lt_pow_nDigits u) hu (by rw [Array.size_replicate]; omega)
    rw [Array.size_replicate] at hfmt
    have HH0 := Lib.hid hH0
    clear hH0 hal
    go_enter Tryz.func203, Tryz.ntmps203
    go_wp2_with (first
      | (go_at_call 220; refine (Tryz.internal_strconv_numDigits u hu1 hu _ (Lib.tabIs_alloc htab _)).mono ?_; rintro e w' ⟨rfl, rfl⟩))
    refine hfmt.mono ?_
    rintro e w' ⟨rfl, k, v', dk, rfl, hF⟩
    have hcv : (convert 194 9 (.slice (some ⟨w.heap.size, 0, none⟩) (Lib.nDigits u) 24)).run Tryz.prog ((putRow (fun (b : UInt8) => Value.int .u8 (b.toNat : Int)) (w.alloc (.cells Lib.zeros24 273)) w.heap.size 0 dk).drewN k) = .ok (.string ⟨(Lib.decDigits u).toArray⟩) ((putRow (fun (b : UInt8) => Value.int .u8 (b.toNat : Int)) (w.alloc (.cells Lib.zeros24 273)) w.heap.size 0 dk).drewN k) := by
      have h := run_convert_bytes_back (P := Tryz.prog) ((putRow (fun (b : UInt8) => Value.int .u8 (b.toNat : Int)) (w.alloc (.cells Lib.zeros24 273)) w.heap.size 0 dk).drewN k) 194 9 5 ⟨w.heap.size, 0, none⟩ 24 (Lib.decDigits u) Tryz.underlying194 Tryz.underlying5 Tryz.underlying9 (fun j hj => by
        rw [Lib.row_is_numeral hF j hj, Lib.add_plain, World.cell?_drewN]
        exact cell?_putRow (fun (b : UInt8) => Value.int .u8 (b.toNat : Int)) _ w.heap.size 0 _ dk HH0.out (by rw [hF.size, Array.size_replicate]) j (by rw [hF.size]; rw [Lib.decDigits_length] at hj; exact hj))
      rw [Lib.decDigits_length] at h
      exact h
    go_wp2
    go_ret
    obtain ⟨os, eo⟩ := Lib.fin_at w (.cells Lib.zeros24 273) dk k 0
    refine ⟨rfl, ?_⟩
    have := Lib.below_grow w.heap.size w (Nat.le_refl _) k os
    rw [← eo] at this
    exact this
theorem fmt_out (u : Nat) (hu : u < 18446744073709551616) (w : World) (htab : Lib.TabIs Tryz.prog w "internal/strconv.uint64pow10" .u64 Lib.pow10Tab) :
    Calls Tryz.prog 171 #[.int .u64 u, .int .i64 10] w fun e w' => e = .returned (.string ⟨(Lib.decDigits u).toArray⟩) ∧ Below w.heap.size w w' := by
  go_enter Tryz.func171, Tryz.ntmps171
  go_wp2_with (go_at_call 203; refine (fmt_in u hu _ htab).mono ?_; rintro e w' ⟨rfl, hw⟩)
  go_ret
  exact ⟨rfl, hw⟩
end Go.Proofs.YtckbbcjbbmgmoaaGreatDoor
namespace Go.Proofs.YtckbbcjbbmgmoaaGreatDoor
namespace Sy
open Go Go.RowKit
set_option maxRecDepth 100000
set_option linter.unusedSimpArgs false
set_option linter.unusedVariables false

/-- A contract that asks what package variables hold. -/
theorem ac_of_belowG {P : Program} {f : FuncId} {fn : Func} {c : Code} {xs : List AV} {args : Array Value} {r : AV} (hf : P.funcs[f]? = some fn) (hb : fn.body = some c) (hn : (fn.name == "runtime.NumGoroutine") = false)
    (ha : ∀ h D vs, RL h D noMu xs vs → vs = args) (h : ∀ w, GOk w → Calls P f args w fun e w' => ∃ v, e = .returned v ∧ Below w.heap.size w w' ∧ ∀ h D, R h D noMu r v) : ACalls P f xs r := by
  intro D w vs hD hxs hg
  have := ha _ _ _ hxs
  subst this
  unfold CallTo
  rw [callFunc_run hf hn hb]
  refine (h w hg).mono ?_
  rintro e w' ⟨v, rfl, hw, hv⟩
  exact ⟨v, D, rfl, hw, fun _ h => h, fun b hb => .inl hb, hv _ _⟩
theorem args3 {x y z : AV} {v u t : Value} (hx : Tells x v) (hy : Tells y u) (hz : Tells z t) : ∀ h D vs, RL h D noMu [x, y, z] vs → vs = #[v, u, t] := by
  intro h D vs ⟨hl, hr⟩
  obtain ⟨a, b, c, ha⟩ : ∃ a b c, vs.toList = [a, b, c] := by
    have hl : vs.toList.length = 3 := by simpa using hl.symm
    match vs.toList, hl with
    | [a, b, c], _ => exact ⟨a, b, c, rfl⟩
  have : vs = #[a, b, c] := by rw [← Array.toArray_toList (xs := vs), ha]
  subst this
  rw [hx _ _ a (hr 0 x a rfl rfl), hy _ _ b (hr 1 y b rfl rfl), hz _ _ c (hr 2 z c rfl rfl)]
def digZ (n : Int) : List UInt8 := Lib.decDigits n.toNat
def u64In (n : Int) : Prop := 0 ≤ n ∧ n < 18446744073709551616
def fmt_s (L : Seal) : Ent1 := (171, fun xs => match xs with | [.int .u64 n, .int .i64 b] => some (L2 L (fun n b : Int => u64In n ∧ b = 10) n b, .str (L digZ n)) | _ => none)
theorem fmt_good : Good Tryz.prog (fmt_s std) := by
  intro xs p r h hp
  dsimp only [fmt_s] at h ⊢
  split at h <;> cases h
  try simp only [L2, L3, std] at hp ⊢
  rename_i n b
  obtain ⟨⟨h0, h1⟩, h2⟩ : u64In n ∧ b = 10 := hp
  subst h2
  obtain ⟨u, rfl⟩ := nat_of h0
  refine ac_of_belowG (fn := Tryz.f171) rfl rfl (by kernel_rfl) (args2 (tells_int _ _) (tells_int _ _)) (fun w hg => (fmt_out u (by omega) w hg.2.1).mono ?_)
  rintro e w' ⟨rfl, hw⟩
  exact ⟨_, rfl, hw, fun h D => str_r h D _ _⟩
/-- What ParseUint answers. -/
def prsV (s : List UInt8) : Int := match Lib.parseUintB 64 s with | .ok u => u | .syntax => 0 | .range => 18446744073709551615
def prsN (s : List UInt8) : Bool := match Lib.parseUintB 64 s with | .ok _ => true | _ => false
def prs_s (L : Seal) : Ent1 := (215, fun xs => match xs with | [.str s, .int .i64 b, .int .i64 z] => some (L3 L (fun (s : List UInt8) (b z : Int) => s.length ≤ 140737488355328 ∧ b = 10 ∧ z = 64) s b z, .tup [.int .u64 (L prsV s), .ifb (L prsN s)]) | _ => none)
theorem tup2_R {x y : AV} {v u : Value} {h : Array Obj} {D : Nat → Prop} (hx : R h D noMu x v) (hy : R h D noMu y u) : R h D noMu (.tup [x, y]) (.tuple #[v, u]) := by
  refine .tup _ _ rfl ?_
  intro i z t hz ht
  match i with
  | 0 => simp at hz ht; subst hz ht; exact hx
  | 1 => simp at hz ht; subst hz ht; exact hy
  | i + 2 => simp at hz
theorem prs_good : Good Tryz.prog (prs_s std) := by
  intro xs p r h hp
  dsimp only [prs_s] at h ⊢
  split at h <;> cases h
  try simp only [L2, L3, std] at hp ⊢
  rename_i s b z
  obtain ⟨h0, h1, h2⟩ : s.length ≤ 140737488355328 ∧ b = 10 ∧ z = 64 := hp
  subst h1; subst h2
  have hs : (⟨s.toArray⟩ : ByteArray).size = s.length := by show s.toArray.size = s.length; simp
  have hd : (⟨s.toArray⟩ : ByteArray).data.toList = s := rfl
  refine ac_of_belowG (fn := Tryz.f215) rfl rfl (by kernel_rfl) (args3 (tells_str _) (tells_int _ _) (tells_int _ _)) (fun w hg => ?_)
  obtain ⟨-, -, ⟨t2, p2, g2⟩, t3, p3, g3⟩ := hg
  cases hq : Lib.parseUintB 64 s with
  | ok u =>
    refine (Tryz.strconv_ParseUint_10_at64_ok ⟨s.toArray⟩ (by rw [hs]; omega) u (by rw [hd]; exact hq) w).mono ?_
    rintro e w' ⟨rfl, hw⟩
    refine ⟨_, rfl, ?_, fun h D => tup2_R ?_ ?_⟩
    · rcases hw with rfl | rfl
      · exact Below.refl _ _
      · exact Lib.bytesWorld_below _ _ _
    · show R h D noMu (.int .u64 (prsV s)) _
      rw [prsV, hq]; exact .int _ _
    · show R h D noMu (.ifb (prsN s)) _
      rw [prsN, hq]; exact .ifn
  | «syntax» =>
    refine (Tryz.strconv_ParseUint_10_at64_syntax_var ⟨s.toArray⟩ (by rw [hs]; omega) (by rw [hd]; exact hq) t2 p2 w g2).mono ?_
    rintro e w' ⟨N, rfl, hN, hc, hw⟩
    refine ⟨_, rfl, hw, fun h D => tup2_R ?_ ?_⟩
    · show R h D noMu (.int .u64 (prsV s)) _
      rw [prsV, hq]; exact .int _ _
    · show R h D noMu (.ifb (prsN s)) _
      rw [prsN, hq]; exact .ifs _ _
  | range =>
    refine (Tryz.strconv_ParseUint_10_at64_range_var ⟨s.toArray⟩ (by rw [hs]; omega) (by rw [hd]; exact hq) t3 p3 w g3).mono ?_
    rintro e w' ⟨N, rfl, hN, hc, hw⟩
    refine ⟨_, rfl, hw, fun h D => tup2_R ?_ ?_⟩
    · show R h D noMu (.int .u64 (prsV s)) _
      rw [prsV, hq]; exact .int _ _
    · show R h D noMu (.ifb (prsN s)) _
      rw [prsN, hq]; exact .ifs _ _
end Sy
end Go.Proofs.YtckbbcjbbmgmoaaGreatDoor
namespace Go.Proofs.YtckbbcjbbmgmoaaGreatDoor
namespace Sy
open Go Go.RowKit
set_option maxRecDepth 100000
set_option linter.unusedSimpArgs false
set_option linter.unusedVariables false

def shortOk (n : Int) : Prop := 0 ≤ n ∧ n < 18446744073709551616
def shortZ (n : Int) : List UInt8 := shortL n.toNat
def short_s (L : Seal) : Ent1 := (168, fun xs => match xs with | [.int .u64 n] => some (L shortOk n, .str (L shortZ n)) | _ => none)
theorem short_good : Good Tryz.prog (short_s std) := by
  intro xs p r h hp
  dsimp only [short_s] at h ⊢
  split at h <;> cases h
  try simp only [L2, L3, std] at hp ⊢
  rename_i n
  obtain ⟨h0, h1⟩ : shortOk n := hp
  obtain ⟨k, rfl⟩ := nat_of h0
  exact ac_of_below (fn := Tryz.f168) rfl rfl (by kernel_rfl) (args1 (tells_int _ _)) (fun h D => str_r h D _ _) (fun w => short_any k w (by omega))
theorem awake01_ac : ACalls Tryz.prog 196 [] (.bool true) := by
  refine acalls_L (T := tt) (S := fun L => sumOf [short_s L, put_s L]) (lo := noA) (lb := noA) 5 (fn := Tryz.f196) rfl rfl (by kernel_rfl) (by kernel_rfl) rfl tt_ok (sumOf_ok ⟨short_good, put_good, trivial⟩) (by kernel_rfl) ?_
  (intro L P1 Q1 hL hP hQ; cbv; subst hL; simp only [L2, L3, std, sat_need, sat_must, sat_ite, sat_done, sat_yes, sat_ex, sat_all, sat_sup, sat_and, sat_fail]; subst hQ)
  (simp only [sySet, reduceCtorEq, forall_const, Int.reduceToNat, Int.reduceAdd, Int.reduceSub, Int.cast_ofNat_Int, Int.toNat_natCast, Nat.le_eq, Nat.sub_eq, ne_eq, Decidable.not_not, implies_true, true_and, and_true, wadd, wsub, wmul, decide_eq_true_eq, decide_eq_false_iff_not, Nat.succ_eq_add_one, imp_false, not_false_eq_true, not_true_eq_false, false_imp_iff, true_imp_iff])
  exact ⟨by unfold shortOk; omega, fun _ => ⟨by unfold putOk; omega, by decide +kernel⟩, by rw [shortZ, show (300 : Int).toNat = 300 from rfl, shortL_big (by decide), shortL_small (by decide)]; rfl⟩
/-- A function without arguments that answers true. -/
def tru (f : Nat) : Ent1 := (f, fun xs => match xs with | [] => some (True, .bool true) | _ => none)
theorem tru_good {P : Program} {f : Nat} (h : ACalls P f [] (.bool true)) : Good P (tru f) := by
  intro xs p r h' hp
  match xs with
  | [] => cases h'; exact h
  | x :: xs => cases h'
theorem Awake01_ac : ACalls Tryz.prog 159 [] (.bool true) := by
  refine acalls_L (T := tt) (S := fun L => sumOf [tru 196]) (lo := noA) (lb := noA) 5 (fn := Tryz.f159) rfl rfl (by kernel_rfl) (by kernel_rfl) rfl tt_ok (sumOf_ok ⟨tru_good awake01_ac, trivial⟩) (by kernel_rfl) ?_
  (intro L P1 Q1 hL hP hQ; cbv; subst hL; simp only [L2, L3, std, sat_need, sat_must, sat_ite, sat_done, sat_yes, sat_ex, sat_all, sat_sup, sat_and, sat_fail]; subst hQ)
  (simp only [sySet, reduceCtorEq, forall_const, Int.reduceToNat, Int.reduceAdd, Int.reduceSub, Int.cast_ofNat_Int, Int.toNat_natCast, Nat.le_eq, Nat.sub_eq, ne_eq, Decidable.not_not, implies_true, true_and, and_true, wadd, wsub, wmul, decide_eq_true_eq, decide_eq_false_iff_not, Nat.succ_eq_add_one, imp_false, not_false_eq_true, not_true_eq_false, false_imp_iff, true_imp_iff])
end Sy
end Go.Proofs.YtckbbcjbbmgmoaaGreatDoor
namespace Go.Proofs.YtckbbcjbbmgmoaaGreatDoor
namespace Sy
open Go Go.RowKit
set_option maxRecDepth 100000
set_option linter.unusedSimpArgs false
set_option linter.unusedVariables false

/-! ### Decimal numbers -/
def isD (c : UInt8) : Bool := decide (48 ≤ c.toNat) && decide (c.toNat ≤ 57)
def dcS (a : Nat) (c : UInt8) : Nat := a * 10 + (c.toNat - 48)
def decV (a : Nat) (l : List UInt8) : Nat := l.foldl dcS a
theorem decV_nil (a : Nat) : decV a [] = a := by unfold decV; exact List.foldl_nil
theorem decV_cons (a : Nat) (c : UInt8) (r : List UInt8) : decV a (c :: r) = decV (a * 10 + (c.toNat - 48)) r := by unfold decV; exact List.foldl_cons ..
theorem decV_app (l : List UInt8) (c : UInt8) (a : Nat) : decV a (l ++ [c]) = decV a l * 10 + (c.toNat - 48) := by
  unfold decV
  rw [List.foldl_append, List.foldl_cons, List.foldl_nil, dcS]
theorem decV_ge : ∀ (l : List UInt8) (a : Nat), a ≤ decV a l
  | [], a => by rw [decV_nil]; exact Nat.le_refl _
  | c :: r, a => by rw [decV_cons]; exact Nat.le_trans (by omega) (decV_ge r _)
theorem isD_iff {c : UInt8} : isD c = true ↔ 48 ≤ c.toNat ∧ c.toNat ≤ 57 := by
  simp [isD]
theorem prs_is : ∀ (l : List UInt8) (a : Nat), l.all isD = true → a < 18446744073709551616 → Lib.parseUintM 18446744073709551615 a l = if decV a l < 18446744073709551616 then .ok (decV a l) else .range
  | [], a, _, ha => by
    rw [decV_nil, if_pos ha, Lib.parseUintM]
  | c :: r, a, h, ha => by
    rw [List.all_cons, Bool.and_eq_true] at h
    obtain ⟨h1, h2⟩ := h
    rw [isD_iff] at h1
    rw [Lib.parseUintM, if_pos h1, decV_cons]
    have hge := decV_ge r (a * 10 + (c.toNat - 48))
    split
    · rw [if_neg (by omega)]
    · split
      · rw [if_neg (by omega)]
      · exact prs_is r _ h2 (by omega)
theorem prsB_is {l : List UInt8} (h : l.all isD = true) (h0 : l ≠ []) : Lib.parseUintB 64 l = if decV 0 l < 18446744073709551616 then .ok (decV 0 l) else .range := by
  rw [Lib.parseUintB, if_neg h0]
  exact prs_is l 0 h (by decide)
/-- Is a text a number's? -/
def numO (s : List UInt8) : Bool := s.all isD && !(s == []) && (!(sidx s 0 == 48) || s == [48])
def numE (s : List UInt8) : Int := if numO s = true then (if decV 0 s < 18446744073709551616 then 0 else 7) else 4
def wnV (s : List UInt8) : Int := if numE s = 0 then decV 0 s else 0

/-! ### The walks -/
def dig_s (L : Seal) : Ent1 := (126, fun xs => match xs with | [.int .u64 n] => some (L u64In n, .str (L digZ n)) | _ => none)
theorem dig_good : Good Tryz.prog (dig_s std) := by
  intro xs p r h hp
  dsimp only [dig_s] at h ⊢
  split at h <;> cases h
  try simp only [L2, L3, std] at hp ⊢
  rename_i n
  have hn : u64In n := hp
  refine acalls_L (T := tt) (S := fun L => sumOf [fmt_s L]) (lo := noA) (lb := noA) 5 (fn := Tryz.f126) rfl rfl (by kernel_rfl) (by kernel_rfl) rfl tt_ok (sumOf_ok ⟨fmt_good, trivial⟩) (by kernel_rfl) ?_
  (intro L P1 Q1 hL hP hQ; cbv; subst hL; simp only [L2, L3, std, sat_need, sat_must, sat_ite, sat_done, sat_yes, sat_ex, sat_all, sat_sup, sat_and, sat_fail]; subst hQ)
  refine ⟨⟨hn, trivial⟩, ?_⟩
  rw [fits_str]
def nuInv (s : List UInt8) (i : Nat) : Prop := i ≤ s.length ∧ (s.take i).all isD = true
theorem fits_vi (a b c d : Int) : fits (.tup [.int .u64 a, .int .i64 b]) (.tup [.int .u64 c, .int .i64 d]) = (c = a ∧ d = b) := by
  simp [sySet]
theorem num_bad {s : List UInt8} (h : numO s = false) : 0 = wnV s ∧ 4 = numE s := by
  have e : numE s = 4 := by rw [numE, if_neg (by rw [h]; decide)]
  exact ⟨by rw [wnV, if_neg (by rw [e]; decide)], e.symm⟩
theorem not_all {s : List UInt8} {i : Nat} (hi : i < s.length) (h : sidx s (natI i) < 48 ∨ 57 < sidx s (natI i)) : numO s = false := by
  have : s.all isD = false := by
    rw [List.all_eq_false]
    refine ⟨s[i], List.getElem_mem hi, ?_⟩
    rw [isD_iff]
    rw [sidx, natI, Int.toNat_natCast, List.getD_eq_getElem?_getD, List.getElem?_eq_getElem hi, Option.getD_some] at h
    omega
  rw [numO, this]; rfl
theorem nu_step {s : List UInt8} {i i' : Nat} (hi' : i' = i + 1) (h : nuInv s i) (hi : i < s.length) (h1 : ¬ sidx s (natI i) < 48) (h2 : ¬ 57 < sidx s (natI i)) : nuInv s i' := by
  subst hi'
  refine ⟨hi, ?_⟩
  rw [List.take_succ_eq_append_getElem hi, List.all_append, h.2, List.all_cons, List.all_nil]
  rw [sidx, natI, Int.toNat_natCast, List.getD_eq_getElem?_getD, List.getElem?_eq_getElem hi, Option.getD_some] at h1 h2
  have : isD s[i] = true := isD_iff.2 (by omega)
  rw [this]; rfl
theorem nu_all {s : List UInt8} {i : Nat} (h : nuInv s i) (hi : ¬ i < s.length) : s.all isD = true := by
  have := h.2
  rw [List.take_of_length_le (by omega)] at this
  exact this
/-- A text of digits that may be a number's. -/
theorem num_fine {s : List UInt8} (h : s.all isD = true) (h0 : s ≠ []) (h1 : sidx s 0 ≠ 48 ∨ s = [48]) : ((!prsN s) = true → 0 = wnV s ∧ 7 = numE s) ∧ ((!prsN s) = false → prsV s = wnV s ∧ 0 = numE s) := by
  have ho : numO s = true := by
    rw [numO, h]
    rcases h1 with h1 | h1
    · simp [h0, h1]
    · subst h1; rfl
  have hB := prsB_is h h0
  rw [wnV, numE, if_pos ho, prsN, prsV, hB]
  by_cases hl : decV 0 s < 18446744073709551616
  · rw [if_pos hl, if_pos hl]
    exact ⟨fun h => by simp at h, fun _ => ⟨rfl, rfl⟩⟩
  · rw [if_neg hl, if_neg hl]
    exact ⟨fun _ => ⟨rfl, rfl⟩, fun h => by simp at h⟩
def nuA (L : Seal) (s : List UInt8) : Nat → St → Option Ann := fun id st => match id with
  | 0 => some ⟨Nat, fun i => [(9, .int .i64 (L natI i))], fun _ => [], [0, 8], [], fun i => L2 L nuInv s i, fun i => L2 L (fun (s : List UInt8) (i : Nat) => s.length - i) s i⟩
  | _ => none
def wnum_s (L : Seal) : Ent1 := (195, fun xs => match xs with | [.str s] => some (L2 L upto 1000000 s, .tup [.int .u64 (L wnV s), .int .i64 (L numE s)]) | _ => none)
theorem lt_of_ilt {n k : Nat} (h : ilt (natI n) (natI k) = true) : n < k := by
  have := of_decide_eq_true h
  unfold natI at this; omega
theorem ge_of_ilt {n k : Nat} (h : ilt (natI n) (natI k) = false) : ¬ n < k := by
  have := of_decide_eq_false h
  unfold natI at this; omega
theorem inR_nat {n k : Nat} (h : n < k) : inR (natI n) (natI k) = true := by rw [inR_t]; exact ⟨Int.natCast_nonneg _, by unfold natI; omega⟩
theorem natI_up' {n n' : Nat} (h : n' = n + 1) (h2 : n < 100000000) : wadd .i64 (natI n) 1 = natI n' := by
  subst h; unfold natI; rw [wadd, w_i64]; omega
theorem num_ne {s : List UInt8} (h : seq s [] = false) : s ≠ [] := by
  intro e; subst e; exact absurd h (by decide)
theorem num_e1 {s : List UInt8} (h : seq s [] = true) : numO s = false := by
  have : s = [] := by simpa [seq] using h
  subst this; rfl
theorem num_in {s : List UInt8} (h : seq s [] = false) : inR 0 (slen s) = true := by
  have := num_ne h
  rw [inR_t, slen]
  have : 0 < s.length := List.length_pos_iff.2 this
  omega
theorem num_z {s : List UInt8} (h : (!seq s [48]) = false) : s = [48] := by
  have : seq s [48] = true := by simpa using h
  simpa [seq] using this
theorem num_nz {s : List UInt8} (h : ieq (sidx s 0) 48 = false) : sidx s 0 ≠ 48 := by
  simpa [ieq] using h
theorem num_e2 {s : List UInt8} (h : ieq (sidx s 0) 48 = true) (h2 : (!seq s [48]) = true) : numO s = false := by
  have h1 : sidx s 0 = 48 := by simpa [ieq] using h
  have h3 : ¬ s = [48] := by
    intro e; subst e; exact absurd h2 (by decide)
  rw [numO, h1]
  simp [h3]
theorem wnum_good : Good Tryz.prog (wnum_s std) := by
  intro xs p r h hp
  dsimp only [wnum_s] at h ⊢
  split at h <;> cases h
  try simp only [L2, L3, std] at hp ⊢
  rename_i s
  have hs : s.length ≤ 1000000 := hp
  refine acalls_L (T := tt) (S := fun L => sumOf [prs_s L]) (lo := fun L => nuA L s) (lb := noA) 5 (fn := Tryz.f195) rfl rfl (by kernel_rfl) (by kernel_rfl) rfl tt_ok (sumOf_ok ⟨prs_good, trivial⟩) (by kernel_rfl) ?_
  obtain ⟨n0, hn0⟩ : ∃ n : Nat, n = 0 := ⟨_, rfl⟩
  intro L P' Q' hL hP hQ
  (cbv; try simp only [sat_need, sat_must, sat_ite, sat_done, sat_yes, sat_ex, sat_all, sat_sup, sat_and, sat_fail, true_and, and_true])
  refine ⟨⟨n0, ?_⟩, fun i hi => ?_⟩
  · (cbv; try simp only [sat_need, sat_must, sat_ite, sat_done, sat_yes, sat_ex, sat_all, sat_sup, sat_and, sat_fail, true_and, and_true])
    subst hL; subst hQ; subst hn0
    exact ⟨rfl, Nat.zero_le _, by rw [List.take_zero]; rfl⟩
  obtain ⟨i', hi'⟩ : ∃ i' : Nat, i' = i + 1 := ⟨_, rfl⟩
  (cbv; try simp only [sat_need, sat_must, sat_ite, sat_done, sat_yes, sat_ex, sat_all, sat_sup, sat_and, sat_fail, true_and, and_true])
  refine ⟨fun h1 => ⟨?_, fun h2 => ?_, fun h2 => ⟨?_, fun h3 => ?_, fun h3 => ⟨i', ?_⟩⟩⟩, fun h1 => ⟨fun h2 => ?_, fun h2 => ⟨?_, fun h3 => ⟨fun h4 => ?_, fun h4 => ⟨?_, fun h5 => ?_, fun h5 => ?_⟩⟩, fun h3 => ⟨?_, fun h5 => ?_, fun h5 => ?_⟩⟩⟩⟩
  all_goals (try (cbv; try simp only [sat_need, sat_must, sat_ite, sat_done, sat_yes, sat_ex, sat_all, sat_sup, sat_and, sat_fail, true_and, and_true]))
  all_goals (subst hL; subst hQ)
  all_goals (try rw [fits_vi])
  · exact inR_nat (k := s.length) (lt_of_ilt h1)
  · exact num_bad (not_all (lt_of_ilt (k := s.length) h1) (.inl (of_decide_eq_true h2)))
  · exact inR_nat (k := s.length) (lt_of_ilt h1)
  · exact num_bad (not_all (lt_of_ilt (k := s.length) h1) (.inr (of_decide_eq_true h3)))
  · have hlt : i < s.length := lt_of_ilt (k := s.length) h1
    refine ⟨natI_up' hi' (by omega), nu_step hi' hi hlt (of_decide_eq_false h2) (of_decide_eq_false h3), ?_⟩
    show s.length - i' + 1 ≤ s.length - i
    omega
  · exact num_bad (num_e1 h2)
  · exact num_in h2
  · exact num_bad (num_e2 h3 h4)
  · exact ⟨by omega, rfl, rfl⟩
  · exact (num_fine (nu_all hi (ge_of_ilt (k := s.length) h1)) (num_ne h2) (.inr (num_z h4))).1 h5
  · exact (num_fine (nu_all hi (ge_of_ilt (k := s.length) h1)) (num_ne h2) (.inr (num_z h4))).2 h5
  · exact ⟨by omega, rfl, rfl⟩
  · exact (num_fine (nu_all hi (ge_of_ilt (k := s.length) h1)) (num_ne h2) (.inl (num_nz h3))).1 h5
  · exact (num_fine (nu_all hi (ge_of_ilt (k := s.length) h1)) (num_ne h2) (.inl (num_nz h3))).2 h5

/-! ### The document's -/
theorem u64_nat {N : Nat} (h : (N : Int) < 18446744073709551616) : N < 18446744073709551616 := by omega
end Sy
end Go.Proofs.YtckbbcjbbmgmoaaGreatDoor
namespace Go.Proofs.YtckbbcjbbmgmoaaGreatDoor
namespace Sy
open Go Go.RowKit
set_option maxRecDepth 100000
set_option linter.unusedSimpArgs false
set_option linter.unusedVariables false

theorem dig_c {n : Nat} (h : n < 10) : (UInt8.ofNat (48 + n)).toNat = 48 + n := by
  rw [UInt8.toNat_ofNat']; omega
/-- A number's digits. -/
theorem dec_is (u : Nat) : (Lib.decDigits u).all isD = true ∧ Lib.decDigits u ≠ [] ∧ decV 0 (Lib.decDigits u) = u ∧ (1 ≤ u → sidx (Lib.decDigits u) 0 ≠ 48) := by
  induction u using Nat.strongRecOn with
  | _ u ih =>
    by_cases h : u < 10
    · rw [Lib.decDigits_one h]
      have hc := dig_c h
      refine ⟨?_, by simp, ?_, fun h1 => ?_⟩
      · rw [List.all_cons, List.all_nil, Bool.and_true, isD_iff, hc]; omega
      · rw [decV_cons, decV_nil, hc]; omega
      · show ((UInt8.ofNat (48 + u)).toNat : Int) ≠ 48
        rw [hc]; omega
    · obtain ⟨a1, a2, a3, a4⟩ := ih (u / 10) (by omega)
      have hc := dig_c (show u % 10 < 10 by omega)
      rw [Lib.decDigits, dif_neg h]
      refine ⟨?_, by simp, ?_, fun _ => ?_⟩
      · rw [List.all_append, a1, List.all_cons, List.all_nil, Bool.and_true, Bool.true_and, isD_iff, hc]; omega
      · rw [decV_app, a3, hc]; omega
      · have := a4 (by omega)
        have h0 : 0 < (Lib.decDigits (u / 10)).length := List.length_pos_iff.2 a2
        rw [sidx, List.getD_eq_getElem?_getD] at this ⊢
        rw [List.getElem?_append_left (by simpa using h0)]
        exact this
theorem num_of_dig {n : Int} (h : u64In n) : numE (digZ n) = 0 ∧ wnV (digZ n) = n := by
  obtain ⟨u, rfl⟩ := nat_of h.1
  have hu : u < 18446744073709551616 := u64_nat h.2
  obtain ⟨a1, a2, a3, a4⟩ := dec_is u
  have ho : numO (digZ (u : Int)) = true := by
    rw [digZ, Int.toNat_natCast, numO, a1]
    by_cases h0 : 1 ≤ u
    · simp [a2, a4 h0]
    · have : u = 0 := by omega
      subst this
      rw [Lib.decDigits_one (by decide)]; rfl
  have e : numE (digZ (u : Int)) = 0 := by
    rw [numE, if_pos ho, digZ, Int.toNat_natCast, a3, if_pos hu]
  refine ⟨e, ?_⟩
  rw [wnV, if_pos e, digZ, Int.toNat_natCast, a3]
theorem dec_of : ∀ (n : Nat) (s : List UInt8), s.length = n → s.all isD = true → s ≠ [] → (sidx s 0 ≠ 48 ∨ s = [48]) → Lib.decDigits (decV 0 s) = s
  | 0, s, hl, _, h0, _ => absurd (List.eq_nil_of_length_eq_zero hl) h0
  | n + 1, s, hl, ha, h0, hz => by
    obtain ⟨t, c, rfl⟩ : ∃ t c, s = t ++ [c] := ⟨s.dropLast, s.getLast h0, (List.dropLast_concat_getLast h0).symm⟩
    rw [List.all_append, List.all_cons, List.all_nil, Bool.and_true, Bool.and_eq_true] at ha
    obtain ⟨ht, hc⟩ := ha
    rw [isD_iff] at hc
    rw [decV_app]
    have back : UInt8.ofNat (48 + (c.toNat - 48)) = c := by
      apply UInt8.toNat_inj.1
      rw [UInt8.toNat_ofNat']
      have := c.toNat_lt
      omega
    by_cases htn : t = []
    · subst htn
      rw [decV_nil, Nat.zero_mul, Nat.zero_add, Lib.decDigits_one (by omega), back]; rfl
    · have hlt : t.length = n := by simpa using hl
      obtain ⟨x, r, rfl⟩ := List.exists_cons_of_ne_nil htn
      have hx : sidx (x :: r) 0 ≠ 48 := by
        rcases hz with hz | hz
        · exact hz
        · have := congrArg List.length hz
          simp at this
      have h1 : 1 ≤ decV 0 (x :: r) := by
        rw [decV_cons]
        refine Nat.le_trans ?_ (decV_ge r _)
        rw [List.all_cons, Bool.and_eq_true, isD_iff] at ht
        have : x.toNat ≠ 48 := fun e => hx (by show ((x.toNat : Nat) : Int) = 48; omega)
        omega
      have ih := dec_of n (x :: r) hlt ht htn (.inl hx)
      generalize decV 0 (x :: r) = v at h1 ih ⊢
      rw [Lib.decDigits, dif_neg (by omega), show (v * 10 + (c.toNat - 48)) / 10 = v by omega, show (v * 10 + (c.toNat - 48)) % 10 = c.toNat - 48 by omega, ih, back]
theorem num_o {s : List UInt8} (h : numO s = true) : s.all isD = true ∧ s ≠ [] ∧ (sidx s 0 ≠ 48 ∨ s = [48]) := by
  simp only [numO, Bool.and_eq_true, Bool.not_eq_true', Bool.or_eq_true, beq_iff_eq, beq_eq_false_iff_ne, ne_eq] at h
  exact ⟨h.1.1, h.1.2, h.2⟩
theorem dig_of_num {s : List UInt8} (h : numE s = 0) : digZ (wnV s) = s ∧ u64In (wnV s) := by
  have ho : numO s = true := by
    cases hq : numO s with
    | true => rfl
    | false => rw [numE, hq, if_neg (by decide)] at h; exact absurd h (by decide)
  have hl : decV 0 s < 18446744073709551616 := by
    rw [numE, if_pos ho] at h
    split at h
    · assumption
    · exact absurd h (by decide)
  obtain ⟨h1, h2, h3⟩ := num_o ho
  rw [wnV, if_pos h, digZ, Int.toNat_natCast, dec_of _ s rfl h1 h2 h3]
  exact ⟨rfl, by unfold u64In; omega⟩
theorem dig_len {n : Int} (h : u64In n) : (digZ n).length ≤ 20 := by
  obtain ⟨u, rfl⟩ := nat_of h.1
  have hu : u < 18446744073709551616 := u64_nat h.2
  rw [digZ, Int.toNat_natCast, Lib.decDigits_length]
  by_cases h0 : u = 0
  · subst h0; rw [Lib.nDigits_small (by decide)]; decide
  · have := Lib.numDigits_eq u (by omega) hu
    split at this <;> omega
end Sy
end Go.Proofs.YtckbbcjbbmgmoaaGreatDoor
