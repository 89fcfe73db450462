/-The symbolic executor: regions, in the order of the text and in any. The symbolic executor: a state that is one of a template's. The symbolic executor: sequences, branches, loops, scopes. The symbolic executor: functions. The symbolic executor: what the leaf operations say, in plain Lean. The symbolic executor: functions that turn blocks of their caller's. The symbolic executor: at this seat's program. Small facts on worlds, strings as lists of bytes, rows of bytes: used by every walk of this seat; no statement of the seat is proved here. What the functions of package word, and the reference's, compute: one contract a function. What the functions of package sum, and the reference's, compute: one contract a function. Chapters 1 and 2: what their functions compute, as summaries for the executor. Chapters 1 and 2: CRC of parts, and the examples that each law of these chapters asks first. Chapter 8 (frame): what its functions compute. Chapter 8 (frame), plain: what a frame's text begins with. Chapter 8 (frame): Next, Parse, the document's Next. The law FrameBytes: any frame as bytes, and back.-/
import Derived.Test.YthlggigjnpldcaaM2
import Derived.Deep.LoopGhost
import Derived.IntWalk
import Derived.Test.YthlggigjnpldcaaRows
import Derived.WalkKit
import Derived.WalkSpells
import Derived.WalkLawsBesides
import Derived.Deep.DeepCutAuto
import Derived.Deep.OwnRows
import Derived.Laws.IdiomStrings
import Derived.Lib.Hide
import Derived.Below
import Derived.ChangeSame
import Derived.ScopeJumps
import Derived.ProofKit
import Derived.OpenShut
import Derived.Carry
import Derived.Lib.SmallJoins
import Derived.RegionTactic
import Derived.BigRegion
namespace Go.Proofs.Ythlggigjnpldcaa
namespace Sy
open Go Go.RowKit
set_option linter.unusedSimpArgs false
set_option linter.unusedVariables false
set_option linter.unusedSectionVars false

/-! ### the static look -/
def tmpsL : List Operand → List Nat
  | [] => []
  | .tmp t :: r => t :: tmpsL r
  | _ :: r => tmpsL r
def opOk (nt : Nat) (o : Oper) : Bool :=
  (match o.dst with | some d => nblt d nt | none => true) && (opnds o.op).all fun x => match x with | .const v => plainC v | _ => true
def pairOk (i : Nat) (o : Oper) (ts : List Nat) : Nat → List Oper → Bool
  | _, [] => true
  | j, o' :: r => (match o'.dst with
    | none => true
    | some d => (nbeq j i || (match o.dst with | some d' => !nbeq d' d | none => true)) &&
      (!lhas ts d || (nblt j i && direct1 o.after.toList j) || (nblt i j && direct1 o'.after.toList i))) && pairOk i o ts (j + 1) r
def drawOk (ops : List Oper) : Nat → List Oper → Bool
  | _, [] => true
  | i, o :: r => (o.after.toList.all fun e => !Region.binds .any e || nblt e.on i) && (match o.guard with | none => true | some (g, _) => direct1 o.after.toList g) &&
    pairOk i o (tmpsL (opnds o.op)) 0 ops && drawOk ops (i + 1) r

structure OpOk (nt : Nat) (o : Oper) : Prop where
  dst : ∀ d, o.dst = some d → d < nt
  pl : ∀ x ∈ opnds o.op, ∀ v, x = .const v → plainC v = true
theorem opOk_of {nt : Nat} {o : Oper} (h : opOk nt o = true) : OpOk nt o := by
  unfold opOk at h
  simp only [Bool.and_eq_true] at h
  refine ⟨fun d hd => ?_, fun x hx v hv => ?_⟩
  · have h1 := h.1
    rw [hd] at h1
    exact blt_lt h1
  · have h2 := List.all_eq_true.1 h.2 x hx
    rw [hv] at h2
    exact h2
theorem mem_tmpsL {l : List Operand} {t : Nat} (h : Operand.tmp t ∈ l) : t ∈ tmpsL l := by
  induction l with
  | nil => cases h
  | cons x l ih =>
    rcases List.mem_cons.1 h with rfl | h'
    · simp [tmpsL]
    · cases x <;> simp [tmpsL, ih h']
structure DrawOk (ops : List Oper) : Prop where
  back : ∀ (i : Nat) (o : Oper) (e : Edge), ops[i]? = some o → e ∈ o.after → Region.binds .any e = true → e.on < i
  guard : ∀ (i : Nat) (o : Oper) g b, ops[i]? = some o → o.guard = some (g, b) → direct1 o.after.toList g = true
  once : ∀ (i j : Nat) (o o' : Oper) d, ops[i]? = some o → ops[j]? = some o' → o.dst = some d → o'.dst = some d → i = j
  reads : ∀ (i j : Nat) (o o' : Oper) d, ops[i]? = some o → ops[j]? = some o' → o'.dst = some d → Operand.tmp d ∈ opnds o.op →
    (j < i ∧ direct1 o.after.toList j = true) ∨ (i < j ∧ direct1 o'.after.toList i = true)
theorem pairOk_at {i : Nat} {o : Oper} {ts : List Nat} : ∀ (l : List Oper) (j : Nat), pairOk i o ts j l = true → ∀ (k : Nat) (o' : Oper), l[k]? = some o' → ∀ d, o'.dst = some d →
    (nbeq (j + k) i || (match o.dst with | some d' => !nbeq d' d | none => true)) = true ∧ (!lhas ts d || (nblt (j + k) i && direct1 o.after.toList (j + k)) || (nblt i (j + k) && direct1 o'.after.toList i)) = true
  | [], _, _, k, o', hk, _, _ => by simp at hk
  | x :: l, j, h, k, o', hk, d, hd => by
    unfold pairOk at h
    rw [Bool.and_eq_true] at h
    cases k with
    | zero =>
      simp only [List.getElem?_cons_zero, Option.some.injEq] at hk
      subst hk
      have h1 := h.1
      rw [hd] at h1
      simp only [Bool.and_eq_true] at h1
      exact h1
    | succ k =>
      have := pairOk_at l (j + 1) h.2 k o' (by simpa using hk) d hd
      rw [show j + 1 + k = j + (k + 1) by omega] at this
      exact this
theorem drawOk_at {ops : List Oper} : ∀ (l : List Oper) (i : Nat), drawOk ops i l = true → ∀ (k : Nat) (o : Oper), l[k]? = some o →
    ((o.after.toList.all fun e => !Region.binds .any e || nblt e.on (i + k)) && (match o.guard with | none => true | some (g, _) => direct1 o.after.toList g)) = true ∧ pairOk (i + k) o (tmpsL (opnds o.op)) 0 ops = true
  | [], _, _, k, o, hk => by simp at hk
  | x :: l, i, h, k, o, hk => by
    unfold drawOk at h
    rw [Bool.and_eq_true, Bool.and_eq_true] at h
    cases k with
    | zero =>
      simp only [List.getElem?_cons_zero, Option.some.injEq] at hk
      subst hk
      exact ⟨h.1.1, h.1.2⟩
    | succ k =>
      have := drawOk_at l (i + 1) h.2 k o (by simpa using hk)
      rw [show i + 1 + k = i + (k + 1) by omega] at this
      exact this
theorem drawOk_of {ops : List Oper} (h : drawOk ops 0 ops = true) : DrawOk ops := by
  have H := drawOk_at ops 0 h
  simp only [Nat.zero_add] at H
  refine ⟨fun i o e ho he hb => ?_, fun i o g b ho hg => ?_, fun i j o o' d ho ho' hd hd' => ?_, fun i j o o' d ho ho' hd hr => ?_⟩
  · have h1 := (H i o ho).1
    rw [Bool.and_eq_true, List.all_eq_true] at h1
    have h2 := h1.1 e (Array.mem_toList_iff.2 he)
    rw [hb] at h2
    exact blt_lt (by simpa using h2)
  · have h1 := (H i o ho).1
    rw [Bool.and_eq_true] at h1
    have h2 := h1.2
    rw [hg] at h2
    exact h2
  · have h1 := (pairOk_at ops 0 (H i o ho).2 j o' ho' d hd').1
    rw [hd, Nat.zero_add] at h1
    simp only [beq_same, Bool.not_true, Bool.or_false] at h1
    exact (beq_eq h1).symm
  · have h1 := (pairOk_at ops 0 (H i o ho).2 j o' ho' d hd).2
    rw [Nat.zero_add, lhas_mem.2 (mem_tmpsL hr)] at h1
    simp only [Bool.not_true, Bool.false_or, Bool.or_eq_true, Bool.and_eq_true] at h1
    rcases h1 with h1 | h1
    · exact .inl ⟨blt_lt h1.1, h1.2⟩
    · exact .inr ⟨blt_lt h1.1, h1.2⟩

/-! ### one operation, in any state -/
section
variable {P : Program} {T : TT} {base : Nat} {M : Two} {W : World} {nt : Nat} {ops : List Oper}

theorem wanted_of {f : Nat → Option AV} {g : Nat → Option Ob} {c : Nat → Bool} {a : Act} {w : World} {o : Oper} {e : Ev} (hs : SimE base M W nt f g c a w) (hops : ∀ o ∈ ops, OpOk nt o)
    (hg : match guardOf ops o with
      | none => e.want = true
      | some (some t, w) => (∃ b, f t = some (.bool b) ∧ e.want = (b == w)) ∨ (f t = some (.tup []) ∧ e.want = false)
      | some (none, _) => False) : Region.wanted o (yielded ops.toArray a.tmps) = e.want := by
  obtain ⟨D, μ, h⟩ := hs
  unfold Region.wanted
  unfold guardOf at hg
  cases e1 : o.guard with
  | none => rw [e1] at hg; simp only at hg ⊢; exact hg.symm
  | some x =>
    obtain ⟨j, wt⟩ := x
    rw [e1] at hg
    simp only at hg ⊢
    cases e2 : ops[j]? with
    | none => rw [e2] at hg; exact hg.elim
    | some o' =>
      rw [e2] at hg
      simp only at hg
      cases e3 : o'.dst with
      | none => rw [e3] at hg; exact hg.elim
      | some t =>
        rw [e3] at hg
        simp only at hg
        rcases hg with ⟨b, hb, hw⟩ | ⟨hb, hw⟩
        rotate_left
        · have ht : t < a.tmps.size := by rw [h.tmps]; exact (hops o' (List.mem_of_getElem? e2)).dst t e3
          obtain ⟨us, hu, l1, _⟩ := (h.slots t _ hb).inv_tup
          have hus : us = #[] := Array.eq_empty_of_size_eq_zero (by simpa using l1.symm)
          have hx : a.tmps[t]? = some (.tuple #[]) := by
            rw [hus] at hu
            rw [← hu]; simp [ht]
          unfold yielded
          simp only [List.getElem?_toArray, e2, Option.bind_some, e3, hx]
          rw [hw]; cases wt <;> rfl
        have ht : t < a.tmps.size := by rw [h.tmps]; exact (hops o' (List.mem_of_getElem? e2)).dst t e3
        have hr := (h.slots t _ hb).inv_bool
        have hx : a.tmps[t]? = some (.bool b) := by rw [← hr]; simp [ht]
        unfold yielded
        simp only [List.getElem?_toArray, e2, Option.bind_some, e3, hx]
        rw [hw]
        cases b <;> cases wt <;> rfl

theorem op_go {f : Nat → Option AV} {g : Nat → Option Ob} {c : Nat → Bool} {a : Act} {w : World} {o : Oper} {e : Ev} {i : Nat} {Q : Exit → Act → World → Prop} {K : Act → World → Prop} (hT : TsOk P T)
    (hs : SimE base M W nt f g c a w) (hops : ∀ o ∈ ops, OpOk nt o) (ho : ops[i]? = some o) (he : EvOk P T ops f g c o e)
    (hK : ∀ a' w', SimE base M W nt (fput f o.dst e.v) (gput g e.os) (cput c e.ice) a' w' → K a' w') : wpOp P ops.toArray Q i K a w := by
  have hw := wanted_of hs hops he.guard
  have hok := hops o (List.mem_of_getElem? ho)
  obtain ⟨D, μ, h⟩ := hs
  unfold wpOp
  rw [List.getElem?_toArray, ho]
  simp only
  rw [hw]
  cases e1 : e.want with
  | true =>
    rw [if_pos rfl]
    rcases he.yes e1 with h1 | ⟨h1, h2⟩
    · exact .inl (adv_of h1 (says h hok.dst hT hok.pl (fun t b ht => by simp [aget] at ht)) K Q hK)
    · rw [h2] at hK
      exact .inl (adv_M h hok.dst hok.pl h1 K Q hK)
  | false =>
    rw [if_neg (by simp)]
    obtain ⟨h1, h2, h3, _⟩ := he.no e1
    rw [h1, h2, h3] at hK
    exact hK _ _ ⟨D, μ, h.put hok.dst (.tup [] #[] rfl (fun i x v hx => by simp at hx))⟩

/-! ### in the order of the text -/
theorem text_go (hT : TsOk P T) (hops : ∀ o ∈ ops, OpOk nt o) {Q : Exit → Act → World → Prop} {draw : Bool} : ∀ (r : List Oper) (i : Nat) (f : Nat → Option AV) (g : Nat → Option Ob) (c : Nat → Bool) (acc : List (Nat × Ent)) (es : List Ev) (f' : Nat → Option AV) (g' : Nat → Option Ob) (c' : Nat → Bool) (a : Act) (w : World),
    (∀ k, r[k]? = ops[i + k]?) → Walk P T draw ops r i f g c acc es f' g' c' → SimE base M W nt f g c a w → (∀ a' w', SimE base M W nt f' g' c' a' w' → Q .normal a' w') →
    wpOps P ops.toArray Q (List.range' i r.length) a w
  | [], i, f, g, c, acc, es, f', g', c', a, w, hr, hW, hs, hQ => by
    cases es with
    | nil => obtain ⟨rfl, rfl, rfl⟩ := hW; exact hQ a w hs
    | cons _ _ => exact hW.elim
  | o :: r, i, f, g, c, acc, [], f', g', c', a, w, hr, hW, hs, hQ => hW.elim
  | o :: r, i, f, g, c, acc, e :: es, f', g', c', a, w, hr, hW, hs, hQ => by
    have ho : ops[i]? = some o := by have := hr 0; simpa using this.symm
    rw [List.length_cons, List.range'_succ, wpOps_cons]
    exact op_go hT hs hops ho hW.1 fun a' w' hs' => text_go hT hops r (i + 1) _ _ _ _ es f' g' c' a' w' (fun k => by have := hr (k + 1); rw [List.getElem?_cons_succ] at this; rw [this]; congr 1; omega) hW.2.2 hs' hQ

/-! ### in any order -/
def fhit (ops : List Oper) (E : Nat → Ev) (t : Nat) (j : Nat) : Option AV := match ops[j]? with
  | some o => if o.dst = some t then some (E j).v else none
  | none => none
theorem fput_hit (f : Nat → Option AV) (o : Oper) (v : AV) (t : Nat) : fput f o.dst v t = match (if o.dst = some t then some v else none) with | some x => some x | none => f t := by
  unfold fput
  cases e : o.dst with
  | none => simp
  | some d =>
    by_cases h : t = d
    · subst h; simp
    · simp [h]; rw [if_neg (fun h' => h h'.symm)]
section
variable (ops : List Oper) (E : Nat → Ev) (f0 : Nat → Option AV) (g0 : Nat → Option Ob) (c0 : Nat → Bool)
def fL (L : Nat → Bool) (n : Nat) : Nat → Option AV := fun t => last L (fhit ops E t) (f0 t) n
def gL (L : Nat → Bool) (n : Nat) : Nat → Option Ob := fun id => last L (fun j => aget (E j).os id) (g0 id) n
def cL (L : Nat → Bool) (n : Nat) : Nat → Bool := fun id => anyL L (fun j => lhas (E j).ice id) (c0 id) n
end
abbrev allL : Nat → Bool := fun _ => true

variable {E : Nat → Ev} {f0 : Nat → Option AV} {g0 : Nat → Option Ob} {c0 : Nat → Bool}
theorem fL_succ {i : Nat} {o : Oper} (ho : ops[i]? = some o) : fL ops E f0 allL (i + 1) = fput (fL ops E f0 allL i) o.dst (E i).v := by
  funext t
  rw [fput_hit]
  show last allL (fhit ops E t) (f0 t) (i + 1) = _
  rw [last_succ, if_pos rfl]
  have : fhit ops E t i = if o.dst = some t then some (E i).v else none := by unfold fhit; rw [ho]
  rw [this]
  cases (if o.dst = some t then some (E i).v else none) <;> rfl
theorem gL_succ {i : Nat} : gL E g0 allL (i + 1) = gput (gL E g0 allL i) (E i).os := by
  funext id
  show last allL _ (g0 id) (i + 1) = _
  rw [last_succ, if_pos rfl]
  unfold gput
  cases aget (E i).os id <;> rfl
theorem cL_succ {i : Nat} : cL E c0 allL (i + 1) = cput (cL E c0 allL i) (E i).ice := by
  funext id
  show anyL allL _ (c0 id) (i + 1) = _
  rw [anyL_succ]
  rfl

def noted (E : Nat → Ev) (acc : List (Nat × Ent)) (i : Nat) : Prop := ∀ k, k < i → (E k).ent = ⟨[], []⟩ ∨ (k, (E k).ent) ∈ acc
theorem noted_step {acc : List (Nat × Ent)} {i : Nat} (h : noted E acc i) (hno : (E i).want = false → (E i).ent = ⟨[], []⟩) : noted E (note2 acc i (E i)) (i + 1) := by
  intro k hk
  unfold note2
  by_cases hi : k = i
  · subst hi
    cases hw : (E k).want with
    | false => exact .inl (hno hw)
    | true =>
      rw [if_pos rfl]
      unfold noteOf
      generalize (E k).ent = x
      obtain ⟨a, b⟩ := x
      cases a with
      | nil => cases b with
        | nil => exact .inl rfl
        | cons _ _ => exact .inr (by simp)
      | cons _ _ => exact .inr (by simp)
  · rcases h k (by omega) with h | h
    · exact .inl h
    · refine .inr ?_
      split
      · unfold noteOf
        split
        · split
          · exact h
          · exact List.mem_cons_of_mem _ h
        · exact List.mem_cons_of_mem _ h
      · exact h

/-- What the walk says of each operation, in the states of the text. -/
structure At (P : Program) (T : TT) (ops : List Oper) (E : Nat → Ev) (f0 : Nat → Option AV) (g0 : Nat → Option Ob) (c0 : Nat → Bool) (j : Nat) (o : Oper) : Prop where
  ev : EvOk P T ops (fL ops E f0 allL j) (gL E g0 allL j) (cL E c0 allL j) o (E j)
  ent : EntOk (fL ops E f0 allL j) o (E j)
  ord : ∃ acc, noted E acc j ∧ OrdOk ops o (E j) acc

theorem walk_at : ∀ (r : List Oper) (i : Nat) (f : Nat → Option AV) (g : Nat → Option Ob) (c : Nat → Bool) (acc : List (Nat × Ent)) (es : List Ev) (f' : Nat → Option AV) (g' : Nat → Option Ob) (c' : Nat → Bool),
    (∀ k, r[k]? = ops[i + k]?) → (∀ k e, es[k]? = some e → E (i + k) = e) → f = fL ops E f0 allL i → g = gL E g0 allL i → c = cL E c0 allL i → noted E acc i → Walk P T true ops r i f g c acc es f' g' c' →
    (∀ j o, i ≤ j → ops[j]? = some o → At P T ops E f0 g0 c0 j o) ∧ f' = fL ops E f0 allL (i + r.length) ∧ g' = gL E g0 allL (i + r.length) ∧ c' = cL E c0 allL (i + r.length)
  | [], i, f, g, c, acc, es, f', g', c', hr, hE, ef, eg, ec, hn, hW => by
    cases es with
    | nil =>
      obtain ⟨rfl, rfl, rfl⟩ := hW
      refine ⟨fun j o hj ho => ?_, ef, eg, ec⟩
      have := hr (j - i)
      rw [show i + (j - i) = j by omega, ho] at this
      simp at this
    | cons _ _ => exact hW.elim
  | o :: r, i, f, g, c, acc, [], f', g', c', hr, hE, ef, eg, ec, hn, hW => hW.elim
  | o :: r, i, f, g, c, acc, e :: es, f', g', c', hr, hE, ef, eg, ec, hn, hW => by
    have ho : ops[i]? = some o := by have := hr 0; simpa using this.symm
    obtain ⟨h1, h2, h3⟩ := hW
    obtain ⟨h2, h2'⟩ := h2 rfl
    have hEi : E i = e := hE 0 e rfl
    rw [if_pos rfl] at h3
    have ih := walk_at r (i + 1) _ _ _ _ es f' g' c' (fun k => by have := hr (k + 1); rw [List.getElem?_cons_succ] at this; rw [this]; congr 1; omega) (fun k x hx => by rw [show i + 1 + k = i + (k + 1) by omega]; exact hE (k + 1) x (by simpa using hx))
      (by rw [fL_succ ho, hEi, ef]) (by rw [gL_succ, hEi, eg]) (by rw [cL_succ, hEi, ec]) (by rw [← hEi]; exact noted_step hn (by rw [hEi]; exact fun hw => (h1.no hw).2.2.2)) h3
    obtain ⟨i1, i2, i3, i4⟩ := ih
    rw [show i + 1 + r.length = i + (o :: r).length by simp; omega] at i2 i3 i4
    refine ⟨fun j o' hj ho' => ?_, i2, i3, i4⟩
    by_cases e1 : j = i
    · subst e1
      rw [ho] at ho'
      cases ho'
      subst hEi; subst ef; subst eg; subst ec
      exact ⟨h1, h2, acc, hn, h2'⟩
    · exact i1 j o' (by omega) ho'

theorem meets_mem {xs ys : List Nat} {id : Nat} (h1 : id ∈ xs) (h2 : id ∈ ys) : meets xs ys = true := by
  induction xs with
  | nil => cases h1
  | cons x xs ih =>
    unfold meets
    rcases List.mem_cons.1 h1 with rfl | h1
    · rw [lhas_mem.2 h2]
    · split
      · rfl
      · exact ih h1
theorem clash_1 {a b : Ent} {id : Nat} (h1 : id ∈ a.wr) (h2 : id ∈ b.ids ∨ id ∈ b.wr) : clash a b = true := by
  unfold clash
  rw [meets_mem h1 (by rw [lapp_eq, List.mem_append]; exact h2)]
theorem clash_2 {a b : Ent} {id : Nat} (h1 : id ∈ b.wr) (h2 : id ∈ a.ids) : clash a b = true := by
  unfold clash
  split
  · rfl
  · exact meets_mem h1 h2
theorem orderly_mem {es : List Edge} {x : Ent} {acc : List (Nat × Ent)} (h : orderly ops es x acc = true) {k : Nat} {y : Ent} (hm : (k, y) ∈ acc) (hc : clash x y = true) : ahead ops 4 es k = true := by
  induction acc with
  | nil => cases hm
  | cons z acc ih =>
    obtain ⟨j, z⟩ := z
    unfold orderly at h
    rcases List.mem_cons.1 hm with e | hm
    · cases e
      rw [hc] at h
      simp only at h
      split at h
      · assumption
      · cases h
    · refine ih ?_ hm
      split at h
      · split at h
        · exact h
        · cases h
      · exact h

/-- The operations that are through: none before those it waits for. -/
def Closed (ops : List Oper) (L : Nat → Bool) : Prop := ∀ (k : Nat) (o : Oper) (e : Edge), ops[k]? = some o → L k = true → e ∈ o.after → Region.binds .any e = true → L e.on = true
theorem direct_in {L : Nat → Bool} {es : List Edge} {j : Nat} (h : ∀ e ∈ es, Region.binds .any e = true → L e.on = true) (hd : direct1 es j = true) : L j = true := by
  induction es with
  | nil => simp [direct1] at hd
  | cons e es ih =>
    have ih := ih fun x hx => h x (by simp [hx])
    unfold direct1 at hd
    split at hd
    · rename_i hb
      split at hd
      · rename_i he
        rw [← beq_eq he]; exact h e (by simp) hb
      · exact ih hd
    · exact ih hd
theorem ahead_in {L : Nat → Bool} (hc : Closed ops L) {j : Nat} : ∀ (n : Nat) (es : List Edge), (∀ e ∈ es, Region.binds .any e = true → L e.on = true) → ahead ops n es j = true → L j = true
  | 0, es, h, hd => direct_in h hd
  | n + 1, es, h, hd => by
    unfold ahead at hd
    split at hd
    · rename_i h'; exact direct_in h h'
    · rw [List.any_eq_true] at hd
      obtain ⟨e, he, hd⟩ := hd
      split at hd
      · rename_i hb
        split at hd
        · cases hd
        · split at hd
          · rename_i o ho
            exact ahead_in hc n o.after.toList (fun x hx hxb => hc e.on o x ho (h e he hb) (Array.mem_toList_iff.1 hx) hxb) hd
          · cases hd
      · cases hd

structure Ready (ops : List Oper) (L : Nat → Bool) (i : Nat) (o : Oper) : Prop where
  at_ : ops[i]? = some o
  not : L i = false
  go : ∀ e ∈ o.after.toList, Region.binds .any e = true → L e.on = true

variable {L : Nat → Bool} {i : Nat} {o : Oper}
theorem ent_no (h : At P T ops E f0 g0 c0 i o) {id : Nat} (hid : id ∈ (E i).ent.ids ∨ id ∈ (E i).ent.wr) : (E i).want = true := by
  cases hw : (E i).want with
  | true => rfl
  | false =>
    have := (h.ev.no hw).2.2.2
    rw [this] at hid
    simp at hid
/-- Of two that clash the later waits for the earlier. -/
theorem order_of (hA : ∀ j o, ops[j]? = some o → At P T ops E f0 g0 c0 j o) {j k : Nat} {o : Oper} (ho : ops[k]? = some o) (hjk : j < k) {id : Nat} (h : (id ∈ (E k).ent.wr ∧ (id ∈ (E j).ent.ids ∨ id ∈ (E j).ent.wr)) ∨ (id ∈ (E j).ent.wr ∧ id ∈ (E k).ent.ids)) : ahead ops 4 o.after.toList j = true := by
  have A := hA k o ho
  have hw : (E k).want = true := ent_no A (id := id) (by rcases h with h | h; exact .inr h.1; exact .inl h.2)
  obtain ⟨acc, hn, ho'⟩ := A.ord
  have hor := ho' hw
  have hcl : clash (E k).ent (E j).ent = true := by
    rcases h with h | h
    · exact clash_1 h.1 h.2
    · exact clash_2 h.1 h.2
  rcases hn j hjk with h0 | h0
  · rw [h0] at h; simp at h
  · exact orderly_mem hor h0 hcl
theorem side (hA : ∀ j o, ops[j]? = some o → At P T ops E f0 g0 c0 j o) (hC : Closed ops L) (hR : Ready ops L i o) {j : Nat} (hj : j < ops.length) {id : Nat}
    (h : (id ∈ (E j).ent.wr ∧ (id ∈ (E i).ent.ids ∨ id ∈ (E i).ent.wr)) ∨ (id ∈ (E i).ent.wr ∧ id ∈ (E j).ent.ids)) : L j = decide (j < i) := by
  obtain ⟨oj, hoj⟩ : ∃ oj, ops[j]? = some oj := ⟨_, List.getElem?_eq_getElem hj⟩
  rcases Nat.lt_trichotomy j i with hlt | heq | hgt
  · have := order_of hA hR.at_ hlt (id := id) (by
      rcases h with ⟨h1, h2 | h2⟩ | ⟨h1, h2⟩
      · exact .inr ⟨h1, h2⟩
      · exact .inl ⟨h2, .inr h1⟩
      · exact .inl ⟨h1, .inl h2⟩)
    rw [ahead_in hC 4 _ hR.go this]; simp [hlt]
  · subst heq
    rw [hR.not]; simp
  · have := order_of hA hoj hgt (id := id) (by
      rcases h with ⟨h1, h2 | h2⟩ | ⟨h1, h2⟩
      · exact .inl ⟨h1, .inl h2⟩
      · exact .inl ⟨h1, .inr h2⟩
      · exact .inr ⟨h1, h2⟩)
    have hn : L j = false := by
      cases hL : L j with
      | false => rfl
      | true =>
        have h2 := ahead_in hC 4 _ (fun e he hb => hC j oj e hoj hL (Array.mem_toList_iff.1 he) hb) this
        rw [hR.not] at h2; cases h2
    rw [hn]; simp; omega
theorem f_same (hD : DrawOk ops) (hC : Closed ops L) (hR : Ready ops L i o) {t : Nat} (ht : Operand.tmp t ∈ opnds o.op ∨ ∃ g b og, o.guard = some (g, b) ∧ ops[g]? = some og ∧ og.dst = some t) : fL ops E f0 L ops.length t = fL ops E f0 allL i t := by
  have hi : i < ops.length := (List.getElem?_eq_some_iff.1 hR.at_).1
  show last L (fhit ops E t) (f0 t) ops.length = last allL (fhit ops E t) (f0 t) i
  rw [← last_full i ops.length (by omega)]
  refine last_agree _ fun j hj hh => ?_
  obtain ⟨oj, hoj⟩ : ∃ oj, ops[j]? = some oj := ⟨_, List.getElem?_eq_getElem hj⟩
  have hdj : oj.dst = some t := by
    unfold fhit at hh
    rw [hoj] at hh
    simp only at hh
    split at hh
    · assumption
    · exact absurd rfl hh
  rcases ht with ht | ⟨g, b, og, h1, h2, h3⟩
  · rcases hD.reads i j o oj t hR.at_ hoj hdj ht with h | h
    · rw [direct_in hR.go h.2]; simp [h.1]
    · have hn : L j = false := by
        cases hL : L j with
        | false => rfl
        | true =>
          have h2 := direct_in (fun e he hb => hC j oj e hoj hL (Array.mem_toList_iff.1 he) hb) h.2
          rw [hR.not] at h2; cases h2
      rw [hn]; simp; omega
  · have := hD.once j g oj og t hoj h2 hdj h3
    subst this
    have hd := hD.guard i o j b hR.at_ h1
    rw [direct_in hR.go hd]
    have : j < i := by
      have key : ∀ es : List Edge, (∀ e ∈ es, Region.binds .any e = true → e.on < i) → direct1 es j = true → j < i := by
        intro es
        induction es with
        | nil => intro _ h; simp [direct1] at h
        | cons e es ih =>
          intro h hd
          have ih := ih fun x hx => h x (by simp [hx])
          unfold direct1 at hd
          split at hd
          · rename_i hb
            split at hd
            · rename_i he; rw [← beq_eq he]; exact h e (by simp) hb
            · exact ih hd
          · exact ih hd
      exact key _ (fun e he hb => hD.back i o e hR.at_ (Array.mem_toList_iff.1 he) hb) hd
    simp [this]

theorem keys_mem {α : Type} {l : List (Nat × α)} {id : Nat} (h : aget l id ≠ none) : id ∈ keys l := by
  induction l with
  | nil => simp [aget] at h
  | cons x l ih =>
    obtain ⟨k, v⟩ := x
    unfold aget at h
    unfold keys
    cases e : nbeq k id with
    | true => simp [beq_eq e]
    | false => rw [e] at h; simp [ih h]
theorem os_wr (h : At P T ops E f0 g0 c0 i o) {id : Nat} (hh : aget (E i).os id ≠ none) : id ∈ (E i).ent.wr := by
  cases hw : (E i).want with
  | true => exact (h.ent hw).2.2.2.1 id (keys_mem hh)
  | false => rw [(h.ev.no hw).2.1] at hh; simp [aget] at hh
theorem ice_ids (h : At P T ops E f0 g0 c0 i o) {id : Nat} (hh : lhas (E i).ice id = true) : id ∈ (E i).ent.ids := by
  cases hw : (E i).want with
  | true => exact (h.ent hw).2.2.1 id (lhas_mem.1 hh)
  | false => rw [(h.ev.no hw).2.2.1] at hh; simp [lhas] at hh

/-- The operation finds what it found in the text's order. -/
theorem ev_any (hD : DrawOk ops) (hA : ∀ j o, ops[j]? = some o → At P T ops E f0 g0 c0 j o) (hC : Closed ops L) (hR : Ready ops L i o) :
    EvOk P T ops (fL ops E f0 L ops.length) (gL E g0 L ops.length) (cL E c0 L ops.length) o (E i) := by
  have A := hA i o hR.at_
  have hi : i < ops.length := (List.getElem?_eq_some_iff.1 hR.at_).1
  refine ⟨?_, A.ev.no, fun hw => ?_⟩
  · have hg := A.ev.guard
    unfold guardOf at hg ⊢
    cases e1 : o.guard with
    | none => rw [e1] at hg; exact hg
    | some x =>
      obtain ⟨j, b⟩ := x
      rw [e1] at hg
      simp only at hg ⊢
      cases e2 : ops[j]? with
      | none => rw [e2] at hg; exact hg
      | some o' =>
        rw [e2] at hg
        simp only at hg ⊢
        cases e3 : o'.dst with
        | none => rw [e3] at hg; exact hg
        | some t =>
          rw [e3] at hg
          simp only at hg ⊢
          rw [f_same hD hC hR (.inr ⟨j, b, o', e1, e2, e3⟩)]
          exact hg
  · have h1 := A.ev.yes hw
    obtain ⟨n1, n2, n3, n4, n5⟩ := A.ent hw
    have hv : lmap (evf (fL ops E f0 L ops.length) []) (opnds o.op) = lmap (evf (fL ops E f0 allL i) []) (opnds o.op) := by
      refine lmap_congr fun x hx => ?_
      cases x with
      | tmp t => simp only [evf, aget]; rw [f_same hD hC hR (.inl hx)]
      | _ => rfl
    have hg : ∀ id, id ∈ (E i).ent.ids → gL E g0 L ops.length id = gL E g0 allL i id := by
      intro id hid
      show last L _ (g0 id) ops.length = last allL _ (g0 id) i
      rw [← last_full i ops.length (by omega)]
      refine last_agree _ fun j hj hh => ?_
      obtain ⟨oj, hoj⟩ : ∃ oj, ops[j]? = some oj := ⟨_, List.getElem?_eq_getElem hj⟩
      exact side hA hC hR hj (id := id) (.inl ⟨os_wr (hA j oj hoj) hh, .inl hid⟩)
    have hgw : ∀ id, id ∈ (E i).ent.wr → gL E g0 L ops.length id = gL E g0 allL i id := by
      intro id hid
      show last L _ (g0 id) ops.length = last allL _ (g0 id) i
      rw [← last_full i ops.length (by omega)]
      refine last_agree _ fun j hj hh => ?_
      obtain ⟨oj, hoj⟩ : ∃ oj, ops[j]? = some oj := ⟨_, List.getElem?_eq_getElem hj⟩
      exact side hA hC hR hj (id := id) (.inl ⟨os_wr (hA j oj hoj) hh, .inr hid⟩)
    have hc : ∀ id, id ∈ (E i).ent.wr → cL E c0 L ops.length id = cL E c0 allL i id := by
      intro id hid
      show anyL L _ (c0 id) ops.length = anyL allL _ (c0 id) i
      rw [← anyL_full i ops.length (by omega)]
      refine anyL_agree _ fun j hj hh => ?_
      obtain ⟨oj, hoj⟩ : ∃ oj, ops[j]? = some oj := ⟨_, List.getElem?_eq_getElem hj⟩
      exact side hA hC hR hj (id := id) (.inr ⟨hid, ice_ids (hA j oj hoj) hh⟩)
    rcases h1 with h1 | ⟨h1, h2⟩
    · left
      rw [stepV_congr (f' := fL ops E f0 allL i) (g' := gL E g0 allL i) (c' := cL E c0 allL i) (kn' := []) hv (fun id hid => hg id (n1 id hid)) (fun hcr d hd => hg d (n2 hcr d hd)) (fun hwr id hid => hc id (n5 hwr id hid))]
      exact h1
    · right
      refine ⟨?_, h2⟩
      obtain ⟨fo, xs, ts, k, first, caps, zs, F, fr, T', e, hvals, hM, hm, q1, q2⟩ := h1
      refine ⟨fo, xs, ts, k, first, caps, zs, F, fr, T', e, by rw [hv]; exact hvals, hM, hm.congr (fun id hid => hgw id (n4 id (by rw [q2]; exact hid))) (fun id hid => hc id (n4 id (by rw [q2]; exact hid))), q1, q2⟩

/-- Its effect comes on top. -/
theorem add_any (hD : DrawOk ops) (hA : ∀ j o, ops[j]? = some o → At P T ops E f0 g0 c0 j o) (hC : Closed ops L) (hR : Ready ops L i o) {L' : Nat → Bool} (h1 : L' i = true) (hne : ∀ j, j ≠ i → L' j = L j) :
    fput (fL ops E f0 L ops.length) o.dst (E i).v = fL ops E f0 L' ops.length ∧ gput (gL E g0 L ops.length) (E i).os = gL E g0 L' ops.length ∧ cput (cL E c0 L ops.length) (E i).ice = cL E c0 L' ops.length := by
  have A := hA i o hR.at_
  have hi : i < ops.length := (List.getElem?_eq_some_iff.1 hR.at_).1
  refine ⟨?_, ?_, ?_⟩
  · funext t
    rw [fput_hit]
    have hf : fhit ops E t i = if o.dst = some t then some (E i).v else none := by unfold fhit; rw [hR.at_]
    have := last_add (hit := fhit ops E t) (s := f0 t) h1 hR.not hne ops.length hi (fun hh j hij hj hLj => by
      rw [hf] at hh
      have hd : o.dst = some t := by
        split at hh
        · assumption
        · exact absurd rfl hh
      obtain ⟨oj, hoj⟩ : ∃ oj, ops[j]? = some oj := ⟨_, List.getElem?_eq_getElem hj⟩
      unfold fhit
      rw [hoj]
      simp only
      rw [if_neg]
      intro hdj
      have := hD.once i j o oj t hR.at_ hoj hd hdj
      omega)
    rw [hf] at this
    show _ = last L' (fhit ops E t) (f0 t) ops.length
    rw [this]
    cases (if o.dst = some t then some (E i).v else none) <;> rfl
  · funext id
    have := last_add (hit := fun j => aget (E j).os id) (s := g0 id) h1 hR.not hne ops.length hi (fun hh j hij hj hLj => by
      refine Decidable.byContradiction fun hjn => ?_
      obtain ⟨oj, hoj⟩ : ∃ oj, ops[j]? = some oj := ⟨_, List.getElem?_eq_getElem hj⟩
      have := side hA hC hR hj (id := id) (.inl ⟨os_wr (hA j oj hoj) (by intro e; rw [e] at hjn; exact hjn rfl), .inr (os_wr A hh)⟩)
      rw [hLj] at this
      simp at this
      omega)
    show _ = last L' (fun j => aget (E j).os id) (g0 id) ops.length
    rw [this]
    unfold gput
    cases aget (E i).os id <;> rfl
  · funext id
    have := anyL_add (p := fun j => lhas (E j).ice id) (s := c0 id) h1 hR.not hne ops.length hi
    show _ = anyL L' _ (c0 id) ops.length
    rw [this]
    rfl

def left (L : Array Bool) : Nat := L.toList.count false
theorem left_set {L : Array Bool} {i : Nat} (h : L.getD i true = false) (hi : i < L.size) : left (L.setIfInBounds i true) + 1 = left L := by
  have hget : L[i] = false := by simpa [hi] using h
  unfold left
  have hc : 0 < List.count false L.toList := List.count_pos_iff.2 (by rw [← hget]; simp)
  have h2 := List.count_set (a := true) (b := false) (l := L.toList) (i := i) (by simpa using hi)
  rw [Array.toList_setIfInBounds, h2]
  have e1 : (L.toList[i]'(by simpa using hi)) = false := by simpa using hget
  rw [e1]
  have e2 : ((false == false) = true) := rfl
  have e3 : ¬ ((true == false) = true) := by decide
  rw [if_pos e2, if_neg e3]
  omega
theorem getD_lt {L : Array Bool} {i : Nat} (h : i < L.size) (d d' : Bool) : L.getD i d = L.getD i d' := by simp [h]
theorem all_ready (hD : DrawOk ops) {L : Array Bool} (hs : L.size = ops.length) (hn : Region.ready .any ops.toArray L = []) : ∀ j, j < ops.length → L.getD j true = true := by
  intro j
  induction j using Nat.strongRecOn with
  | _ j ih =>
    intro hj
    refine Decidable.byContradiction fun h => ?_
    have hm : j ∈ Region.ready .any ops.toArray L := by
      rw [mem_ready]
      refine ⟨by simpa using h, ops[j], by simp [hj], fun e he hb => ?_⟩
      have hlt := hD.back j ops[j] e (List.getElem?_eq_getElem hj) he hb
      rw [getD_lt (by omega) false true]
      exact ih e.on hlt (by omega)
    rw [hn] at hm; cases hm

structure InvA (base : Nat) (M : Two) (W : World) (nt : Nat) (ops : List Oper) (E : Nat → Ev) (f0 : Nat → Option AV) (g0 : Nat → Option Ob) (c0 : Nat → Bool) (L : Array Bool) (a : Act) (w : World) : Prop where
  size : L.size = ops.length
  closed : Closed ops (fun i => L.getD i false)
  sim : SimE base M W nt (fL ops E f0 (fun i => L.getD i false) ops.length) (gL E g0 (fun i => L.getD i false) ops.length) (cL E c0 (fun i => L.getD i false) ops.length) a w

theorem full_same {L : Array Bool} (hs : L.size = ops.length) (h : ∀ j, j < ops.length → L.getD j true = true) :
    fL ops E f0 (fun i => L.getD i false) ops.length = fL ops E f0 allL ops.length ∧ gL E g0 (fun i => L.getD i false) ops.length = gL E g0 allL ops.length ∧ cL E c0 (fun i => L.getD i false) ops.length = cL E c0 allL ops.length := by
  have hj : ∀ j, j < ops.length → L.getD j false = allL j := fun j hj => by rw [getD_lt (by omega) false true]; exact h j hj
  exact ⟨funext fun t => last_agree _ fun j h _ => hj j h, funext fun t => last_agree _ fun j h _ => hj j h, funext fun t => anyL_agree _ fun j h _ => hj j h⟩

theorem any_go (hT : TsOk P T) (hops : ∀ o ∈ ops, OpOk nt o) (hD : DrawOk ops) (hA : ∀ j o, ops[j]? = some o → At P T ops E f0 g0 c0 j o) {Q : Exit → Act → World → Prop}
    (hQ : ∀ a w, SimE base M W nt (fL ops E f0 allL ops.length) (gL E g0 allL ops.length) (cL E c0 allL ops.length) a w → Q .normal a w) :
    ∀ (fuel : Nat) (L : Array Bool) (a : Act) (w : World), left L ≤ fuel → InvA base M W nt ops E f0 g0 c0 L a w → wpAny P .any ops.toArray Q fuel L a w
  | 0, L, a, w, hf, I => by
    have hall : ∀ j, j < ops.length → L.getD j true = true := fun j hj => by
      refine Decidable.byContradiction fun h => ?_
      have hm : false ∈ L.toList := by
        have hjL : j < L.size := by rw [I.size]; exact hj
        have : L[j] = false := by simpa [hjL] using h
        rw [← this]; simp
      have := List.count_pos_iff.2 hm
      unfold left at hf; omega
    obtain ⟨e1, e2, e3⟩ := full_same (E := E) (f0 := f0) (g0 := g0) (c0 := c0) I.size hall
    refine ⟨?_, hQ a w (by have := I.sim; rwa [e1, e2, e3] at this)⟩
    refine List.eq_nil_iff_forall_not_mem.2 fun j hj => ?_
    rw [mem_ready] at hj
    obtain ⟨h1, o, ho, _⟩ := hj
    have hj : j < ops.length := by
      rw [List.getElem?_toArray] at ho
      exact (List.getElem?_eq_some_iff.1 ho).1
    rw [hall j hj] at h1; cases h1
  | fuel + 1, L, a, w, hf, I => by
    refine ⟨fun hn => ?_, fun i hi => ?_⟩
    · obtain ⟨e1, e2, e3⟩ := full_same (E := E) (f0 := f0) (g0 := g0) (c0 := c0) I.size (all_ready hD I.size hn)
      exact hQ a w (by have := I.sim; rwa [e1, e2, e3] at this)
    · rw [mem_ready] at hi
      obtain ⟨hun, o, ho, hed⟩ := hi
      rw [List.getElem?_toArray] at ho
      have hil : i < ops.length := (List.getElem?_eq_some_iff.1 ho).1
      have hiL : i < L.size := by rw [I.size]; exact hil
      have hR : Ready ops (fun i => L.getD i false) i o := ⟨ho, by rw [getD_lt hiL false true]; exact hun, fun e he hb => hed e (Array.mem_toList_iff.1 he) hb⟩
      have hleft := left_set hun hiL
      have h1 : (fun j => (L.setIfInBounds i true).getD j false) i = true := by simp [hiL]
      have hne : ∀ j, j ≠ i → (fun j => (L.setIfInBounds i true).getD j false) j = (fun j => L.getD j false) j := fun j hj => by
        simp only [Array.getD_eq_getD_getElem?, Array.getElem?_setIfInBounds_ne (fun e => hj e.symm)]
      obtain ⟨q1, q2, q3⟩ := add_any hD hA I.closed hR h1 hne
      refine op_go hT I.sim hops ho (ev_any hD hA I.closed hR) fun a' w' hs => any_go hT hops hD hA hQ fuel _ a' w' (by omega) ⟨by simpa using I.size, ?_, ?_⟩
      · intro k ok e hk hL he hb
        by_cases hki : k = i
        · subst hki
          rw [ho] at hk; cases hk
          have := hR.go e (Array.mem_toList_iff.2 he) hb
          by_cases hei : e.on = k
          · rw [hei]; exact h1
          · have := hne e.on hei; simp only at this ⊢; rw [this]; exact hR.go e (Array.mem_toList_iff.2 he) hb
        · have h2 := hne k hki
          simp only at h2 hL
          rw [h2] at hL
          have := I.closed k ok e hk hL he hb
          by_cases hei : e.on = i
          · rw [hei]; exact h1
          · have h3 := hne e.on hei; simp only at h3 ⊢; rw [h3]; exact this
      · rw [q1, q2, q3] at hs
        exact hs

/-! ### a region that chooses -/
theorem evOk_ops {f : Nat → Option AV} {g : Nat → Option Ob} {c : Nat → Bool} {o : Oper} {e : Ev} {ops' : List Oper} (hn : o.guard = none) (h : EvOk P T ops f g c o e) : EvOk P T ops' f g c o e := by
  refine ⟨?_, h.no, h.yes⟩
  have := h.guard
  unfold guardOf at this ⊢
  rw [hn] at this ⊢
  exact this
theorem ready_in {L : Array Bool} {i : Nat} (h : i ∈ Region.ready .any ops.toArray L) : ∃ o, ops[i]? = some o ∧ L.getD i true = false ∧ ∀ j, direct1 o.after.toList j = true → L.getD j false = true := by
  rw [mem_ready] at h
  obtain ⟨h1, o, ho, h2⟩ := h
  rw [List.getElem?_toArray] at ho
  refine ⟨o, ho, h1, fun j hj => ?_⟩
  have : ∀ es : List Edge, direct1 es j = true → ∃ e, e ∈ es ∧ Region.binds .any e = true ∧ e.on = j := by
    intro es
    induction es with
    | nil => intro h; cases h
    | cons x es ih =>
      intro h
      unfold direct1 at h
      split at h
      · rename_i hb
        split at h
        · rename_i he; exact ⟨x, by simp, hb, beq_eq he⟩
        · obtain ⟨e, e1, e2, e3⟩ := ih h; exact ⟨e, by simp [e1], e2, e3⟩
      · obtain ⟨e, e1, e2, e3⟩ := ih h; exact ⟨e, by simp [e1], e2, e3⟩
  obtain ⟨e, e1, e2, e3⟩ := this _ hj
  rw [← e3]
  exact h2 e (Array.mem_toList_iff.1 e1) e2
theorem choice_go {o0 o1 o2 o3 : Oper} (hT : TsOk P T) (hops : ∀ o ∈ [o0, o1, o2, o3], OpOk nt o) (hD : DrawOk [o0, o1, o2, o3])
    (d1 : direct1 o1.after.toList 0 = true) (d2 : direct1 o2.after.toList 0 = true) (d3 : direct1 o3.after.toList 1 = true) (d4 : direct1 o3.after.toList 2 = true) {Q : Exit → Act → World → Prop}
    {f f1 f2 f3 f4 f2' f3' f4' : Nat → Option AV} {g g1 g2 g3 g4 g2' g3' g4' : Nat → Option Ob} {c c1 c2 c3 c4 c2' c3' c4' : Nat → Bool}
    (h0 : ∀ a w K, SimE base M W nt f g c a w → (∀ a w, SimE base M W nt f1 g1 c1 a w → K a w) → wpOp P [o0, o1, o2, o3].toArray Q 0 K a w)
    (h1 : ∀ a w K, SimE base M W nt f1 g1 c1 a w → (∀ a w, SimE base M W nt f2 g2 c2 a w → K a w) → wpOp P [o0, o1, o2, o3].toArray Q 1 K a w)
    (h2 : ∀ a w K, SimE base M W nt f2 g2 c2 a w → (∀ a w, SimE base M W nt f3 g3 c3 a w → K a w) → wpOp P [o0, o1, o2, o3].toArray Q 2 K a w)
    (h3 : ∀ a w K, SimE base M W nt f3 g3 c3 a w → (∀ a w, SimE base M W nt f4 g4 c4 a w → K a w) → wpOp P [o0, o1, o2, o3].toArray Q 3 K a w)
    (h1' : ∀ a w K, SimE base M W nt f1 g1 c1 a w → (∀ a w, SimE base M W nt f2' g2' c2' a w → K a w) → wpOp P [o0, o1, o2, o3].toArray Q 2 K a w)
    (h2' : ∀ a w K, SimE base M W nt f2' g2' c2' a w → (∀ a w, SimE base M W nt f3' g3' c3' a w → K a w) → wpOp P [o0, o1, o2, o3].toArray Q 1 K a w)
    (h3' : ∀ a w K, SimE base M W nt f3' g3' c3' a w → (∀ a w, SimE base M W nt f4' g4' c4' a w → K a w) → wpOp P [o0, o1, o2, o3].toArray Q 3 K a w)
    (hQ : ∀ a w, SimE base M W nt f4 g4 c4 a w → Q .normal a w) (hQ' : ∀ a w, SimE base M W nt f4' g4' c4' a w → Q .normal a w)
    {a : Act} {w : World} (hs : SimE base M W nt f g c a w) : wpAny P .any [o0, o1, o2, o3].toArray Q 4 #[false, false, false, false] a w := by
  have nd : ∀ (L : Array Bool), L.size = 4 → (∃ j, j < 4 ∧ L.getD j true = false) → Region.ready .any [o0, o1, o2, o3].toArray L = [] → False := by
    intro L hL hj hn
    obtain ⟨j, hj1, hj2⟩ := hj
    have := all_ready hD (L := L) hL hn j hj1
    rw [this] at hj2; cases hj2
  have four : ∀ {i : Nat} {o : Oper}, [o0, o1, o2, o3][i]? = some o → (i = 0 ∧ o = o0) ∨ (i = 1 ∧ o = o1) ∨ (i = 2 ∧ o = o2) ∨ (i = 3 ∧ o = o3) := by
    intro i o h
    match i, h with
    | 0, h => cases h; simp
    | 1, h => cases h; simp
    | 2, h => cases h; simp
    | 3, h => cases h; simp
    | i + 4, h => simp at h
  refine ⟨fun hn => (nd _ rfl ⟨0, by omega, rfl⟩ hn).elim, fun i hi => ?_⟩
  obtain ⟨o, ho, hL, hd⟩ := ready_in hi
  rcases four ho with ⟨rfl, rfl⟩ | ⟨rfl, rfl⟩ | ⟨rfl, rfl⟩ | ⟨rfl, rfl⟩
  rotate_left
  · cases hd 0 d1
  · cases hd 0 d2
  · cases hd 1 d3
  refine h0 a w _ hs fun a w hs => ?_
  refine ⟨fun hn => (nd _ rfl ⟨1, by omega, rfl⟩ hn).elim, fun i hi => ?_⟩
  obtain ⟨o, ho, hL, hd⟩ := ready_in hi
  rcases four ho with ⟨rfl, rfl⟩ | ⟨rfl, rfl⟩ | ⟨rfl, rfl⟩ | ⟨rfl, rfl⟩
  · cases hL
  · refine h1 a w _ hs fun a w hs => ?_
    refine ⟨fun hn => (nd _ rfl ⟨2, by omega, rfl⟩ hn).elim, fun i hi => ?_⟩
    obtain ⟨o, ho, hL, hd⟩ := ready_in hi
    rcases four ho with ⟨rfl, rfl⟩ | ⟨rfl, rfl⟩ | ⟨rfl, rfl⟩ | ⟨rfl, rfl⟩
    · cases hL
    · cases hL
    · refine h2 a w _ hs fun a w hs => ?_
      refine ⟨fun hn => (nd _ rfl ⟨3, by omega, rfl⟩ hn).elim, fun i hi => ?_⟩
      obtain ⟨o, ho, hL, hd⟩ := ready_in hi
      rcases four ho with ⟨rfl, rfl⟩ | ⟨rfl, rfl⟩ | ⟨rfl, rfl⟩ | ⟨rfl, rfl⟩
      · cases hL
      · cases hL
      · cases hL
      · refine h3 a w _ hs fun a w hs => ?_
        refine ⟨?_, hQ a w hs⟩
        refine List.eq_nil_iff_forall_not_mem.2 fun i hi => ?_
        obtain ⟨o, ho, hL, hd⟩ := ready_in hi
        rcases four ho with ⟨rfl, rfl⟩ | ⟨rfl, rfl⟩ | ⟨rfl, rfl⟩ | ⟨rfl, rfl⟩ <;> cases hL
    · cases hd 2 d4
  · refine h1' a w _ hs fun a w hs => ?_
    refine ⟨fun hn => (nd _ rfl ⟨1, by omega, rfl⟩ hn).elim, fun i hi => ?_⟩
    obtain ⟨o, ho, hL, hd⟩ := ready_in hi
    rcases four ho with ⟨rfl, rfl⟩ | ⟨rfl, rfl⟩ | ⟨rfl, rfl⟩ | ⟨rfl, rfl⟩
    · cases hL
    · refine h2' a w _ hs fun a w hs => ?_
      refine ⟨fun hn => (nd _ rfl ⟨3, by omega, rfl⟩ hn).elim, fun i hi => ?_⟩
      obtain ⟨o, ho, hL, hd⟩ := ready_in hi
      rcases four ho with ⟨rfl, rfl⟩ | ⟨rfl, rfl⟩ | ⟨rfl, rfl⟩ | ⟨rfl, rfl⟩
      · cases hL
      · cases hL
      · cases hL
      · refine h3' a w _ hs fun a w hs => ?_
        refine ⟨?_, hQ' a w hs⟩
        refine List.eq_nil_iff_forall_not_mem.2 fun i hi => ?_
        obtain ⟨o, ho, hL, hd⟩ := ready_in hi
        rcases four ho with ⟨rfl, rfl⟩ | ⟨rfl, rfl⟩ | ⟨rfl, rfl⟩ | ⟨rfl, rfl⟩ <;> cases hL
    · cases hL
    · cases hd 1 d3
  · cases hd 1 d3

def regOk (nt : Nat) (draw : Bool) (ops : List Oper) : Bool := ops.all (opOk nt) && (!draw || drawOk ops 0 ops)

theorem knowK_path {Q1 : AV → Prop} {v : Nat} {k : St → Tree} {s : St} (hk : KnOk (aget s.slots) s.kn) (h : Sat P Q1 (knowK v k s)) : ∃ s' : St, s'.slots = s.slots ∧ s'.objs = s.objs ∧ s'.ice = s.ice ∧ KnOk (aget s'.slots) s'.kn ∧ Sat P Q1 (k s') := by
  unfold knowK at h
  split at h
  · rename_i b hb
    exact ⟨s.know v b, rfl, rfl, rfl, knOk_know hk hb, h⟩
  · cases h
theorem region_go1 {S : Sums} {Q1 : AV → Prop} (hT : TsOk P T) (hS : SumsOk P S) (hm : P.follows .mixedOrders = true) {draw : Bool} (hB : regOk nt draw ops = true) {id : Nat} {s : St} {a : Act} {w : World} (hs : SimS base M W nt s a w)
    {k : St → Tree} (h : Sat P Q1 (runOps T std S draw ops ops 0 s [] k)) {Q : Exit → Act → World → Prop} (hQ : ∀ s' a' w', SimS base M W nt s' a' w' → Sat P Q1 (k s') → Q .normal a' w') :
    (Code.region id ops.toArray draw).wp P Q a w := by
  unfold regOk at hB
  rw [Bool.and_eq_true, List.all_eq_true] at hB
  have hops : ∀ o ∈ ops, OpOk nt o := fun o ho => opOk_of (hB.1 o ho)
  obtain ⟨es, s', hW, hk', h'⟩ := walk_path hS ops 0 s [] hs.2 h
  cases draw with
  | false =>
    refine wp_region ?_
    have := text_go (base := base) (M := M) (W := W) hT hops (Q := Q) ops 0 _ _ _ _ es _ _ _ a w (fun k => by simp) hW hs.1 fun a' w' hs' => hQ s' a' w' ⟨hs', hk'⟩ h'
    rw [List.range_eq_range']
    simpa using this
  | true =>
    refine wp_region_any hm ?_
    have hD := drawOk_of (by simpa using hB.2 : drawOk ops 0 ops = true)
    obtain ⟨hA, e1, e2, e3⟩ := walk_at (ops := ops) (E := fun j => es.getD j nothing) (f0 := aget s.slots) (g0 := aget s.objs) (c0 := lhas s.ice) ops 0 _ _ _ _ es _ _ _ (fun k => by simp) (fun k e he => by simp [he]) rfl rfl rfl (fun k hk => by omega) hW
    rw [Nat.zero_add] at e1 e2 e3
    have hl : left (Array.replicate ops.length false) ≤ ops.toArray.size := by
      unfold left; simp
    have hsz : ops.toArray.size = ops.length := by simp
    rw [hsz] at hl ⊢
    refine any_go (E := fun j => es.getD j nothing) hT hops hD (fun j o ho => hA j o (by omega) ho) (fun a' w' hs' => hQ s' a' w' ⟨by rw [e1, e2, e3]; exact hs', hk'⟩ h') ops.length _ a _ hl ⟨by simp, ?_, ?_⟩
    · intro k o e hk hL _ _
      have hk : k < ops.length := (List.getElem?_eq_some_iff.1 hk).1
      simp [hk] at hL
    · have z : ∀ j, j < ops.length → (fun i => (Array.replicate ops.length false).getD i false) j = false := fun j hj => by simp [hj]
      have h1 : fL ops (fun j => es.getD j nothing) (aget s.slots) (fun i => (Array.replicate ops.length false).getD i false) ops.length = aget s.slots := by
        funext t
        exact last_none 0 ops.length (fun j _ hj hL => by have := z j hj; simp only at this; rw [this] at hL; cases hL) (by omega)
      have h2 : gL (fun j => es.getD j nothing) (aget s.objs) (fun i => (Array.replicate ops.length false).getD i false) ops.length = aget s.objs := by
        funext t
        exact last_none 0 ops.length (fun j _ hj hL => by have := z j hj; simp only at this; rw [this] at hL; cases hL) (by omega)
      have h3 : cL (fun j => es.getD j nothing) (lhas s.ice) (fun i => (Array.replicate ops.length false).getD i false) ops.length = lhas s.ice := by
        funext t
        exact anyL_none 0 ops.length (fun j _ hj => z j hj) (by omega)
      rw [h1, h2, h3]
      obtain ⟨D, μ, hs⟩ := hs.1
      exact ⟨D, μ, hs.drew⟩
/-- **A region**: what stands behind it is what the executor goes on with. -/
theorem region_go {S : Sums} {Q1 : AV → Prop} (hT : TsOk P T) (hS : SumsOk P S) (hm : P.follows .mixedOrders = true) {draw : Bool} (hB : regOk nt draw ops = true) {id : Nat} {s : St} {a : Act} {w : World} (hs : SimS base M W nt s a w)
    {k : St → Tree} (h : Sat P Q1 (regionT T std S draw ops s k)) {Q : Exit → Act → World → Prop} (hQ : ∀ s' a' w', SimS base M W nt s' a' w' → Sat P Q1 (k s') → Q .normal a' w') :
    (Code.region id ops.toArray draw).wp P Q a w := by
  unfold regionT at h
  split at h
  rotate_left
  · exact region_go1 hT hS hm hB hs h hQ
  rename_i v hch
  cases draw with
  | false => cases hch
  | true =>
    simp only [cond_true] at hch
    unfold choiceV at hch
    split at hch
    rotate_left
    · cases hch
    rename_i o0 o1 o2 o3
    split at hch
    rotate_left
    · cases hch
    split at hch
    rotate_left
    · cases hch
    rename_i d1 d2 d3 d4 hng
    unfold regOk at hB
    rw [Bool.and_eq_true, List.all_eq_true] at hB
    have hops : ∀ o ∈ [o0, o1, o2, o3], OpOk nt o := fun o ho => opOk_of (hB.1 o ho)
    have hD := drawOk_of (by simpa using hB.2 : drawOk [o0, o1, o2, o3] 0 [o0, o1, o2, o3] = true)
    obtain ⟨n0, n1, n2, n3⟩ : o0.guard = none ∧ o1.guard = none ∧ o2.guard = none ∧ o3.guard = none := by
      simp only [noGuard] at hng
      cases e0 : o0.guard <;> cases e1 : o1.guard <;> cases e2 : o2.guard <;> cases e3 : o3.guard <;> simp_all
    obtain ⟨es, s1, hW, hk1, h⟩ := walk_path hS [o0] 0 s [] hs.2 h
    cases h with
    | and hA hB2 =>
      obtain ⟨esA, sA, hWA, hkA, hA⟩ := walk_path hS [o1, o2, o3] 1 s1 [] hk1 hA
      obtain ⟨esB, sB, hWB, hkB, hB2⟩ := walk_path hS [o2, o1, o3] 1 s1 [] hk1 hB2
      obtain ⟨sA', q1, q2, q3, hkA', hA⟩ := knowK_path hkA hA
      obtain ⟨sB', p1, p2, p3, hkB', hB2⟩ := knowK_path hkB hB2
      match es, hW with
      | [e0], ⟨x0, _, w0, w0', w0''⟩ =>
        match esA, hWA with
        | [a1, a2, a3], ⟨xa1, _, xa2, _, xa3, _, wa, wa', wa''⟩ =>
          match esB, hWB with
          | [b1, b2, b3], ⟨xb1, _, xb2, _, xb3, _, wb, wb', wb''⟩ =>
            refine wp_region_any hm ?_
            obtain ⟨D, μ, hs0⟩ := hs.1
            rw [w0, w0', w0''] at xa1 xa2 xa3 xb1 xb2 xb3
            rw [w0] at wa wb
            rw [w0'] at wa' wb'
            rw [w0''] at wa'' wb''
            refine choice_go hT hops hD d1 d2 d3 d4
              (h0 := fun a w K hs hK => op_go hT hs hops rfl x0 hK)
              (h1 := fun a w K hs hK => op_go hT hs hops rfl xa1 hK)
              (h2 := fun a w K hs hK => op_go hT hs hops rfl xa2 hK)
              (h3 := fun a w K hs hK => op_go hT hs hops rfl xa3 hK)
              (h1' := fun a w K hs hK => op_go hT hs hops rfl xb1 hK)
              (h2' := fun a w K hs hK => op_go hT hs hops rfl xb2 hK)
              (h3' := fun a w K hs hK => op_go hT hs hops rfl xb3 hK)
              (hQ := fun a w hs => hQ sA' a w ⟨?_, hkA'⟩ hA) (hQ' := fun a w hs => hQ sB' a w ⟨?_, hkB'⟩ hB2) ⟨D, μ, hs0.drew⟩
            · rw [q1, q2, q3, wa, wa', wa'']; exact hs
            · rw [p1, p2, p3, wb, wb', wb'']; exact hs
end
end Sy
end Go.Proofs.Ythlggigjnpldcaa
namespace Go.Proofs.Ythlggigjnpldcaa
namespace Sy
open Go Go.RowKit
set_option linter.unusedSimpArgs false
set_option linter.unusedVariables false
set_option linter.unusedSectionVars false

def frozenIn (ice : List Nat) : List (Nat × Option Nat) → List Nat
  | [] => []
  | (t, some id) :: r => if lhas ice t = true then id :: frozenIn ice r else frozenIn ice r
  | _ :: r => frozenIn ice r
theorem frozenIn_mem {ice : List Nat} : ∀ {l : List (Nat × Option Nat)} {id : Nat}, id ∈ frozenIn ice l → ∃ t, (t, some id) ∈ l ∧ lhas ice t = true
  | [], id, h => by cases h
  | (t, some k) :: r, id, h => by
    unfold frozenIn at h
    split at h
    · rename_i e
      rcases List.mem_cons.1 h with rfl | h
      · exact ⟨t, by simp, e⟩
      · obtain ⟨t', h1, h2⟩ := frozenIn_mem h; exact ⟨t', List.mem_cons_of_mem _ h1, h2⟩
    · obtain ⟨t', h1, h2⟩ := frozenIn_mem h; exact ⟨t', List.mem_cons_of_mem _ h1, h2⟩
  | (t, none) :: r, id, h => by
    obtain ⟨t', h1, h2⟩ := frozenIn_mem (l := r) h; exact ⟨t', List.mem_cons_of_mem _ h1, h2⟩

section
variable {P : Program} {Q : AV → Prop} {base : Nat} {M : Two} {W : World} {nt : Nat} {s tm : St} {a : Act} {w : World} {hold : List Nat} {next : Tree}
/-- The ids that the template freezes, as the state names them. -/
def frz (ice : List Nat) (objs : List (Nat × Ob)) (F : List (Nat × Option Nat)) : List Nat := match objs with
  | [] => []
  | (t, _) :: r => match aget F t with
    | some (some id) => if lhas ice t = true then id :: frz ice r F else frz ice r F
    | _ => frz ice r F
theorem frz_mem {ice : List Nat} {F : List (Nat × Option Nat)} : ∀ {objs : List (Nat × Ob)} {id : Nat}, id ∈ frz ice objs F → ∃ t, aget F t = some (some id) ∧ lhas ice t = true ∧ aget objs t ≠ none
  | [], id, h => by cases h
  | (t, o) :: r, id, h => by
    unfold frz at h
    have up : ∀ {t'}, aget r t' ≠ none → aget ((t, o) :: r) t' ≠ none := by
      intro t' h
      unfold aget
      split
      · simp
      · exact h
    split at h
    · rename_i k hk
      split at h
      · rename_i e
        rcases List.mem_cons.1 h with rfl | h
        · exact ⟨t, hk, e, by simp [aget, beq_same]⟩
        · obtain ⟨t', h1, h2, h3⟩ := frz_mem h; exact ⟨t', h1, h2, up h3⟩
      · obtain ⟨t', h1, h2, h3⟩ := frz_mem h; exact ⟨t', h1, h2, up h3⟩
    · obtain ⟨t', h1, h2, h3⟩ := frz_mem h; exact ⟨t', h1, h2, up h3⟩
theorem mem_frz {ice : List Nat} {F : List (Nat × Option Nat)} : ∀ {objs : List (Nat × Ob)} {id t : Nat}, aget F t = some (some id) → lhas ice t = true → aget objs t ≠ none → id ∈ frz ice objs F
  | [], id, t, _, _, h => by simp [aget] at h
  | (k, o) :: r, id, t, h1, h2, h3 => by
    unfold frz
    unfold aget at h3
    cases e : nbeq k t with
    | true =>
      have := beq_eq e; subst this
      rw [h1]
      simp only
      rw [if_pos h2]
      simp
    | false =>
      rw [e] at h3
      have ih := mem_frz (objs := r) h1 h2 h3
      split
      · split
        · exact List.mem_cons_of_mem _ ih
        · exact ih
      · exact ih

theorem pinOk_get : ∀ {F : List (Nat × Option Nat)}, pinOk F = true → ∀ t x, aget F t = some x → isPin t = true → x = some t
  | [], _, t, x, h, _ => by cases h
  | (k, y) :: r, e, t, x, h, hp => by
    unfold pinOk at e
    unfold aget at h
    split at h
    · rename_i hb
      have hk := beq_eq hb; subst hk
      cases h
      rw [hp] at e
      simp only at e
      split at e
      · rename_i hi; exact isId_eq hi
      · cases e
    · have e' : pinOk r = true := by
        split at e
        · split at e
          · exact e
          · cases e
        · exact e
      exact pinOk_get e' t x h hp
theorem pin_of {pin : Nat → Option (Nat × Nat × Nat)} {μ : Mu} {F : List (Nat × Option Nat)} (h : ∀ id y, isPin id = true → μ id = some y → y = pin id) (hF : pinOk F = true) {id : Nat} {y : Option (Nat × Nat × Nat)} (hp : isPin id = true) (hy : muOf μ F id = some y) : y = pin id := by
  unfold muOf at hy
  split at hy
  · rename_i k hk
    have := pinOk_get hF id _ hk hp
    cases this
    exact h id y hp hy
  · rename_i hk
    have := pinOk_get hF id _ hk hp
    cases this
  · cases hy
theorem meet_go (hs : SimS base M W nt s a w) (h : Sat P Q (meetT s tm hold next)) (hkn : tm.kn = []) : SimS base M W nt tm a w ∧ Sat P Q next := by
  unfold meetT at h
  split at h
  · rename_i m1 e1
    split at h
    · rename_i m2 e2
      split at h
      · rename_i hin hice hpin
        obtain ⟨hps, hnext⟩ := sat_mustL h
        refine ⟨?_, hnext⟩
        obtain ⟨⟨D, μ, S⟩, _⟩ := hs
        let F := m2.ids
        obtain ⟨x2, -⟩ := meetObs_ok (h := w.heap) (D := D) (μ := μ) e2
        obtain ⟨x1, -⟩ := meetSlots_ok (h := w.heap) (D := D) (μ := μ) (a := a) e1
        have hF2 : Fin m2 F := ⟨fun _ _ h => h, hps⟩
        have hF1 : Fin m1 F := hF2.of x2
        have hInj : Inj F := x2.inj (x1.inj fun t t' id h1 h2 => by
          have q1 := same1_get h1; have q2 := same1_get h2
          simp only [Option.some.injEq] at q1 q2
          rw [← q1, ← q2])
        -- the template's frozen blocks are frozen
        have hal : ∀ id, id ∈ frz tm.ice tm.objs F → ∃ o, aget s.objs id = some o ∧ o ≠ .gone := by
          intro id hid
          obtain ⟨t, h1, h2, h3⟩ := frz_mem hid
          obtain ⟨o, ho⟩ := Option.ne_none_iff_exists'.1 h3
          obtain ⟨x2', r2⟩ := meetObs_ok (h := w.heap) (D := D) (μ := μ) e2
          obtain ⟨x, hx, hp⟩ := (r2 F hF2 t o ho).pair
          rw [h1] at hx
          cases hx
          obtain ⟨_, o', ho', hne, _⟩ := hp
          exact ⟨o', ho', hne⟩
        have S' := S.freeze (frz tm.ice tm.objs F) hal
        obtain ⟨_, r1⟩ := meetSlots_ok (h := w.heap) (D := fun b => D b ∨ ∃ id z m, id ∈ frz tm.ice tm.objs F ∧ μ id = some (some (b, z, m))) (μ := μ) (a := a) e1
        obtain ⟨_, r2⟩ := meetObs_ok (h := w.heap) (D := fun b => D b ∨ ∃ id z m, id ∈ frz tm.ice tm.objs F ∧ μ id = some (some (b, z, m))) (μ := μ) e2
        generalize hDD : (fun b => D b ∨ ∃ id z m, id ∈ frz tm.ice tm.objs F ∧ μ id = some (some (b, z, m))) = D' at S' r1 r2
        have r1 := r1 F hF1 S'.slots
        have r2 := r2 F hF2
        -- a template's block that has a place is a block of the state's
        have pl : ∀ tid b z, muOf μ F tid = some (some (b, z)) → ∃ id, aget F tid = some (some id) ∧ μ id = some (some (b, z)) := by
          intro tid b z hm
          unfold muOf at hm
          split at hm
          · rename_i id hid; exact ⟨id, hid, hm⟩
          · cases hm
          · cases hm
        have obj : ∀ tid id, aget F tid = some (some id) → ∃ o', aget s.objs id = some o' ∧ o' ≠ .gone ∧ (lhas s.ice id = true → lhas tm.ice tid = true) := by
          intro tid id hid
          obtain ⟨o, ho⟩ := Option.ne_none_iff_exists'.1 (inObs_get hin tid _ hid)
          obtain ⟨x, hx, hp⟩ := (r2 tid o ho).pair
          rw [show aget F tid = aget m2.ids tid from rfl, hx] at hid
          cases hid
          obtain ⟨h1, o', ho', hne, _⟩ := hp
          exact ⟨o', ho', hne, h1⟩
        refine ⟨⟨D', muOf μ F, { S' with slots := r1, dom := fun id => ?_, obs := fun id o x h1 h2 => ?_, inj := ?_, own := fun id b z hm => ?_, kd := ?_, icy := fun id hc => iceIn_get hice id hc, pin := fun id y hp hy => pin_of S.pin hpin hp hy }⟩, fun t b ht => by rw [hkn] at ht; cases ht⟩
        · constructor
          · intro hm
            refine Decidable.byContradiction fun ho => ?_
            obtain ⟨o, ho⟩ := Option.ne_none_iff_exists'.1 ho
            obtain ⟨x, hx, hp⟩ := (r2 id o ho).pair
            unfold muOf at hm
            rw [hx] at hm
            cases x with
            | none => cases hm
            | some k =>
              simp only at hm hp
              obtain ⟨_, o', ho', _, _⟩ := hp
              have := (S.dom k).1 hm
              rw [ho'] at this; cases this
          · intro ho
            unfold muOf
            cases hf : aget F id with
            | none => rfl
            | some x => exact absurd ho (inObs_get hin id x hf)
        · obtain ⟨y, hy, hp⟩ := (r2 id o h1).pair
          unfold muOf at h2
          rw [hy] at h2
          cases y with
          | none => cases h2; exact hp
          | some k =>
            simp only at h2 hp
            obtain ⟨_, o', ho', _, hr⟩ := hp
            exact hr x (S'.obs k o' x ho' h2)
        · intro id id' b z z' o o' h1 h2 _ _ _ _
          obtain ⟨k, hk, hm⟩ := pl id b z h1
          obtain ⟨k', hk', hm'⟩ := pl id' b z' h2
          obtain ⟨q, hq, hqn, _⟩ := obj id k hk
          obtain ⟨q', hq', hqn', _⟩ := obj id' k' hk'
          have := S.inj k k' b z z' q q' hm hm' hq hq' hqn hqn'
          subst this
          exact hInj _ _ _ hk hk'
        · obtain ⟨k, hk, hm⟩ := pl id b z hm
          exact S.own k b z hm
        · intro id b z o h1 h2 h3
          obtain ⟨k, hk, hm⟩ := pl id b z h1
          obtain ⟨q, hq, hqn, hic⟩ := obj id k hk
          have K := S'.kd k b z q hm hq hqn
          refine ⟨fun hc => K.1 ?_, fun hc => K.2 ?_⟩
          · unfold cput
            rw [lhas_mem.2 (mem_frz hk hc (by rw [h2]; simp))]; rfl
          · unfold cput
            rw [Bool.or_eq_false_iff]
            refine ⟨?_, ?_⟩
            · cases hl : lhas (frz tm.ice tm.objs F) k with
              | false => rfl
              | true =>
                obtain ⟨t, t1, t2, _⟩ := frz_mem (lhas_mem.1 hl)
                have := hInj _ _ _ t1 hk
                subst this
                rw [hc] at t2; cases t2
            · cases hl : lhas s.ice k with
              | false => rfl
              | true => have := hic hl; rw [hc] at this; cases this
      · cases h
    · cases h
  · cases h
/-- The template's blocks are alive. -/
theorem meet_live (hs : SimS base M W nt s a w) (h : Sat P Q (meetT s tm hold next)) : ∀ n o, aget tm.objs n = some o → o ≠ .gone := by
  unfold meetT at h
  split at h
  · rename_i m1 e1
    split at h
    · rename_i m2 e2
      split at h
      · obtain ⟨hps, hnext⟩ := sat_mustL h
        intro n o ho
        obtain ⟨x2, r2⟩ := meetObs_ok (h := #[]) (D := fun _ => False) (μ := noMu) e2
        exact (r2 m2.ids ⟨fun _ _ h => h, hps⟩ n o ho).live
      · cases h
    · cases h
  · cases h
end
end Sy
end Go.Proofs.Ythlggigjnpldcaa
namespace Go.Proofs.Ythlggigjnpldcaa
namespace Sy
open Go Go.RowKit
set_option linter.unusedSimpArgs false
set_option linter.unusedVariables false
set_option linter.unusedSectionVars false

def toExit : Ex → Exit
  | .normal => .normal
  | .exit id => .exit id
  | .goto l => .goto l
  | .ret => .ret
/-- A code's steps in a row. -/
def flatC : Code → List Code
  | .seq a b => flatC a ++ flatC b
  | .skip => []
  | .label _ => []
  | c => [c]
def WPl (P : Program) : List Code → (Exit → Act → World → Prop) → Act → World → Prop
  | [], Q, a, w => Q .normal a w
  | c :: cs, Q, a, w => c.wp P (Exit.then (WPl P cs Q) Q) a w
theorem then_nil {P : Program} {Q : Exit → Act → World → Prop} : Exit.then (WPl P [] Q) Q = Q := by
  funext e a w; cases e <;> rfl
theorem wpl_app {P : Program} {ys : List Code} {Q : Exit → Act → World → Prop} : ∀ {xs : List Code}, WPl P (xs ++ ys) Q = WPl P xs (Exit.then (WPl P ys Q) Q)
  | [] => rfl
  | c :: xs => by
    funext a w
    show c.wp P (Exit.then (WPl P (xs ++ ys) Q) Q) a w = c.wp P (Exit.then (WPl P xs (Exit.then (WPl P ys Q) Q)) (Exit.then (WPl P ys Q) Q)) a w
    rw [wpl_app (xs := xs)]
    congr 1
    funext e a w
    cases e <;> rfl
theorem wp_of_one {P : Program} {c : Code} {Q : Exit → Act → World → Prop} {a : Act} {w : World} (h : WPl P [c] Q a w) : c.wp P Q a w := by
  have : c.wp P (Exit.then (WPl P [] Q) Q) a w := h
  rwa [then_nil] at this
theorem wp_of_wpl {P : Program} : ∀ {c : Code} {Q : Exit → Act → World → Prop} {a : Act} {w : World}, WPl P (flatC c) Q a w → c.wp P Q a w := by
  intro c
  induction c with
  | seq x y ih1 ih2 =>
    intro Q a w h
    unfold flatC at h
    rw [wpl_app] at h
    refine wp_seq (wp_mono (ih1 h) fun e a w hq => ?_)
    cases e with
    | normal => exact ih2 hq
    | _ => exact hq
  | skip => intro Q a w h; exact wp_skip h
  | label l => intro Q a w h; exact wp_label h
  | _ => intro Q a w h; exact wp_of_one h

def nodupL : List Nat → Bool
  | [] => true
  | x :: xs => !lhas xs x && nodupL xs
def codeOk (nt : Nat) : Code → Bool
  | .region _ ops d => regOk nt d ops.toList
  | .seq a b => codeOk nt a && codeOk nt b
  | .cond _ a b => codeOk nt a && codeOk nt b
  | .block _ b => codeOk nt b
  | .loop b => codeOk nt b
  | .scope b => nodupL (labelsOf b) && codeOk nt b
  | _ => true
theorem find_lab : ∀ {c : Code} {l : Nat} {r : Code}, findLabel c l = some r → l ∈ labelsOf c := by
  intro c
  induction c with
  | seq a b ih1 ih2 =>
    intro l r h
    unfold findLabel at h
    simp only [labelsOf, lapp_eq, List.mem_append]
    cases e : findLabel a l with
    | some x => exact .inl (ih1 e)
    | none => rw [e] at h; exact .inr (ih2 h)
  | label l' =>
    intro l r h
    unfold findLabel at h
    split at h
    · rename_i e; simp [labelsOf, beq_iff_eq.1 e]
    · cases h
  | _ => intro l r h; simp [findLabel] at h
theorem find_ok {nt : Nat} : ∀ {c : Code} {l : Nat} {r : Code}, findLabel c l = some r → codeOk nt c = true → codeOk nt r = true := by
  intro c
  induction c with
  | seq a b ih1 ih2 =>
    intro l r h hc
    unfold codeOk at hc
    rw [Bool.and_eq_true] at hc
    unfold findLabel at h
    cases e : findLabel a l with
    | some x =>
      rw [e] at h
      cases h
      unfold codeOk
      rw [Bool.and_eq_true]
      exact ⟨ih1 e hc.1, hc.2⟩
    | none => rw [e] at h; exact ih2 h hc.2
  | label l' =>
    intro l r h _
    unfold findLabel at h
    split at h
    · cases h; rfl
    · cases h
  | _ => intro l r h; simp [findLabel] at h
theorem nodup_app {xs ys : List Nat} (h : nodupL (xs ++ ys) = true) : nodupL xs = true ∧ nodupL ys = true ∧ ∀ l, l ∈ xs → l ∉ ys := by
  induction xs with
  | nil => exact ⟨rfl, h, fun l hl => by cases hl⟩
  | cons x xs ih =>
    simp only [List.cons_append, nodupL, Bool.and_eq_true, Bool.not_eq_true'] at h ⊢
    obtain ⟨h1, h2⟩ := h
    obtain ⟨i1, i2, i3⟩ := ih h2
    have hx : x ∉ xs ++ ys := fun hm => by rw [lhas_mem.2 hm] at h1; cases h1
    simp only [List.mem_append, not_or] at hx
    refine ⟨⟨?_, i1⟩, i2, fun l hl => ?_⟩
    · cases e : lhas xs x with
      | false => rfl
      | true => exact absurd (lhas_mem.1 e) hx.1
    · rcases List.mem_cons.1 hl with rfl | hl
      · exact hx.2
      · exact i3 l hl
/-- Behind a label the labels lead where they lead in the whole. -/
theorem find_find : ∀ {c : Code} {l0 l : Nat} {r c' : Code}, nodupL (labelsOf c) = true → findLabel c l0 = some r → findLabel r l = some c' → ∃ c'', findLabel c l = some c'' ∧ flatC c'' = flatC c' := by
  intro c
  induction c with
  | seq a b ih1 ih2 =>
    intro l0 l r c' hn h h'
    simp only [labelsOf, lapp_eq] at hn
    obtain ⟨n1, n2, n3⟩ := nodup_app hn
    have none_of : ∀ {x}, findLabel b l = some x → findLabel a l = none := by
      intro x hx
      cases e : findLabel a l with
      | none => rfl
      | some y => exact absurd (find_lab hx) (n3 l (find_lab e))
    unfold findLabel at h
    cases e : findLabel a l0 with
    | some x =>
      rw [e] at h
      cases h
      unfold findLabel at h'
      cases e' : findLabel x l with
      | some y =>
        rw [e'] at h'
        cases h'
        obtain ⟨c'', h1, h2⟩ := ih1 n1 e e'
        exact ⟨.seq c'' b, by simp [findLabel, h1], by simp [flatC, h2]⟩
      | none =>
        rw [e'] at h'
        exact ⟨c', by simp only [findLabel]; rw [none_of h']; exact h', rfl⟩
    | none =>
      rw [e] at h
      obtain ⟨c'', h1, h2⟩ := ih2 n2 h h'
      exact ⟨c'', by simp only [findLabel]; rw [none_of h1]; exact h1, h2⟩
  | label l' =>
    intro l0 l r c' _ h h'
    unfold findLabel at h
    split at h
    · cases h; simp [findLabel] at h'
    · cases h
  | _ => intro l0 l r c' _ h; simp [findLabel] at h

/-! ### scopes -/
inductive Goes (P : Program) (Q : Exit → Act → World → Prop) (body : Code) : Code → Act → World → Prop
  | mk {c : Code} {a : Act} {w : World} (R : Exit → Act → World → Prop) (h : c.wp P R a w)
      (hn : ∀ e a' w', R e a' w' → (∀ l rest, e = .goto l → findLabel body l = some rest → False) → Q e a' w')
      (hg : ∀ l rest a' w', R (.goto l) a' w' → findLabel body l = some rest → Goes P Q body rest a' w') : Goes P Q body c a w
def Qg (P : Program) (Q : Exit → Act → World → Prop) (body : Code) : Exit → Act → World → Prop
  | .goto l, a, w => match findLabel body l with
    | some rest => Goes P Q body rest a w
    | none => Q (.goto l) a w
  | e, a, w => Q e a w
theorem goes_of {P : Program} {Q : Exit → Act → World → Prop} {body c : Code} {a : Act} {w : World} (h : c.wp P (Qg P Q body) a w) : Goes P Q body c a w := by
  refine .mk _ h (fun e a' w' hq hno => ?_) (fun l rest a' w' hq hf => ?_)
  · cases e with
    | goto l =>
      simp only [Qg] at hq
      split at hq
      · rename_i rest hf; exact (hno l rest rfl hf).elim
      · exact hq
    | _ => exact hq
  · simp only [Qg] at hq
    rw [hf] at hq
    exact hq
theorem goes_in {P : Program} {Q : Exit → Act → World → Prop} {body : Code} {c : Code} {a : Act} {w : World} (g : Goes P Q body c a w) :
    ∀ (b : Frame) (k : List Item) (cs : List Frame), ∃ e a' w', Q e a' w' ∧ Arrives P (lone (b.at a (.code c :: .inScope body :: k)) cs w) b k cs e a' w' := by
  induction g with
  | mk R h hn hg ih =>
    intro b k cs
    obtain ⟨e, a₁, w₁, hq, harr⟩ := h b (.inScope body :: k) cs
    cases e with
    | normal => exact ⟨.normal, a₁, w₁, hn _ _ _ hq (fun _ _ h => by cases h), Steps.trans harr (.one step_inScope)⟩
    | exit id => exact ⟨.exit id, a₁, w₁, hn _ _ _ hq (fun _ _ h => by cases h), fun k' hk => harr k' (by simp [exitTo, hk])⟩
    | goto l =>
      cases hf : findLabel body l with
      | some rest =>
        obtain ⟨e₂, a₂, w₂, hq₂, harr₂⟩ := ih l rest a₁ w₁ hq hf b k cs
        exact ⟨e₂, a₂, w₂, hq₂, .of_steps (harr _ (by simp [gotoIn, hf])) harr₂⟩
      | none =>
        refine ⟨.goto l, a₁, w₁, hn _ _ _ hq (fun l' r h hf' => by cases h; rw [hf] at hf'; cases hf'), fun k' hk => harr k' (by simp [gotoIn, hf, hk])⟩
    | ret => exact ⟨_, a₁, w₁, hn _ _ _ hq (fun _ _ h => by cases h), harr⟩
    | panic ch => exact ⟨_, a₁, w₁, hn _ _ _ hq (fun _ _ h => by cases h), harr⟩
    | outgrown => exact ⟨_, a₁, w₁, hn _ _ _ hq (fun _ _ h => by cases h), harr⟩
theorem wp_scope_goes {P : Program} {Q : Exit → Act → World → Prop} {body : Code} {a : Act} {w : World} (g : Goes P Q body body a w) : (Code.scope body).wp P Q a w := by
  intro b k cs
  obtain ⟨e, a₁, w₁, hq, harr⟩ := goes_in g b k cs
  exact ⟨e, a₁, w₁, hq, .of_steps (.one step_scope) harr⟩

/-! ### the run -/
section
variable {P : Program} {T : TT} {S : Sums} {lo lb : Nat → St → Option Ann} {base : Nat} {M : Two} {W : World} {nt : Nat} {Q1 : AV → Prop}

/-- What the executor goes on with holds. -/
def Kon (P : Program) (base : Nat) (M : Two) (W : World) (nt : Nat) (Q1 : AV → Prop) (k : K) (Q : Exit → Act → World → Prop) : Prop := ∀ e s a w, SimS base M W nt s a w → Sat P Q1 (k e s) → Q (toExit e) a w
def ScOk (P : Program) (base : Nat) (M : Two) (W : World) (nt : Nat) (Q1 : AV → Prop) (sc : Code → St → K → Tree) : Prop :=
  ∀ body s k Q a w, codeOk nt (.scope body) = true → SimS base M W nt s a w → Sat P Q1 (sc body s k) → Kon P base M W nt Q1 k Q → (Code.scope body).wp P Q a w

theorem loopEnd_go {an : Ann} {ks : List (Nat × AV)} {ko : List (Nat × Ob)} {ice : List Nat} {m : Option Nat} {s : St} {a : Act} {w : World} (hs : SimS base M W nt s a w) (h : Sat P Q1 (loopEnd an ks ko ice m s)) :
    ∃ x, an.inv x ∧ (∀ m0, m = some m0 → an.mu x < m0) ∧ SimS base M W nt (an.st ks ko ice x) a w := by
  unfold loopEnd at h
  cases h with
  | ex x h =>
    obtain ⟨h1, h2⟩ := meet_go hs h rfl
    cases h2 with
    | must h3 h4 =>
      refine ⟨x, h3, fun m0 hm => ?_, h1⟩
      subst hm
      cases h4 with | must h5 _ => exact h5

theorem run_block {sc : Code → St → K → Tree} {A : Nat → Bool} {id : Nat} {b : Code} (hb : ∀ body, b ≠ .loop body) {s : St} {k : K} :
    run T std S lo sc A (.block id b) s k = run T std S lo sc noL b s (fun e s' => match e with
    | .exit j => match nbeq j id with
      | true => k .normal s'
      | false => k (.exit j) s'
    | e => k e s') := by
  cases b <;> first | rfl | exact absurd rfl (hb _)

/-- The run of a code, what follows it in the row, and the labels at which it is cut. -/
def RunOk (P : Program) (T : TT) (S : Sums) (lo : Nat → St → Option Ann) (base : Nat) (M : Two) (W : World) (nt : Nat) (Q1 : AV → Prop) (sc : Code → St → K → Tree) (c : Code) : Prop := codeOk nt c = true →
    ∀ (A : Nat → Bool) (s : St) (k : K) (Q : Exit → Act → World → Prop) (ys : List Code) (a : Act) (w : World), SimS base M W nt s a w → Sat P Q1 (run T std S lo sc A c s k) →
    Kon P base M W nt Q1 k (Exit.then (WPl P ys Q) Q) →
    (∀ l c' s' a' w', A l = true → findLabel c l = some c' → SimS base M W nt s' a' w' → Sat P Q1 (k (.goto l) s') → WPl P (flatC c' ++ ys) Q a' w') → WPl P (flatC c ++ ys) Q a w
theorem run_two (hT : TsOk P T) (hS : SumsOk P S) (hm : P.follows .mixedOrders = true) {sc : Code → St → K → Tree} (hsc : ScOk P base M W nt Q1 sc) : ∀ (c : Code),
    RunOk P T S lo base M W nt Q1 sc c ∧ (∀ body, c = .loop body → RunOk P T S lo base M W nt Q1 sc body) := by
  intro c
  induction c with
  | skip => refine ⟨?_, fun body e => by cases e⟩; intro _ A s k Q ys a w hs h hk _; exact hk .normal s a w hs h
  | region id ops d =>
    refine ⟨?_, fun body e => by cases e⟩
    intro hc A s k Q ys a w hs h hk _
    show (Code.region id ops d).wp P (Exit.then (WPl P ys Q) Q) a w
    have := region_go (id := id) (Q := Exit.then (WPl P ys Q) Q) hT hS hm hc hs h (fun s' a' w' hs' h' => hk .normal s' a' w' hs' h')
    simpa using this
  | seq x y ih1 ih2 =>
    refine ⟨?_, fun body e => by cases e⟩
    intro hc A s k Q ys a w hs h hk hl
    unfold codeOk at hc
    rw [Bool.and_eq_true] at hc
    show WPl P ((flatC x ++ flatC y) ++ ys) Q a w
    rw [List.append_assoc]
    refine ih1.1 hc.1 A s _ Q (flatC y ++ ys) a w hs h (fun e s' a' w' hs' h' => ?_) (fun l c' s' a' w' hA hf hs' h' => ?_)
    · cases e with
      | normal =>
        refine ih2.1 hc.2 _ s' k Q ys a' w' hs' h' hk (fun l c' s2 a2 w2 hA hf hs2 h2 => hl l c' s2 a2 w2 ?_ ?_ hs2 h2)
        · split at hA
          · cases hA
          · exact hA
        · split at hA
          · cases hA
          · rename_i e; simp only [findLabel]; rw [e]; exact hf
      | exit id => exact hk (.exit id) s' a' w' hs' h'
      | goto l => exact hk (.goto l) s' a' w' hs' h'
      | ret => exact hk .ret s' a' w' hs' h'
    · have := hl l (.seq c' y) s' a' w' hA (by simp [findLabel, hf]) hs' h'
      simpa [flatC] using this
  | cond x p q ih1 ih2 =>
    refine ⟨?_, fun body e => by cases e⟩
    intro hc A s k Q ys a w hs h hk _
    unfold codeOk at hc
    rw [Bool.and_eq_true] at hc
    show (Code.cond x p q).wp P (Exit.then (WPl P ys Q) Q) a w
    have yes : ∀ s1 : St, SimS base M W nt s1 a w → Sat P Q1 (run T std S lo sc noL p s1 k) → p.wp P (Exit.then (WPl P ys Q) Q) a w := fun s1 h1 h2 => wp_of_wpl (by
      have := ih1.1 hc.1 noL s1 k (Exit.then (WPl P ys Q) Q) [] a w h1 h2 (by rw [then_nil]; exact hk) (fun l c' s' a' w' hA => by cases hA)
      simpa using this)
    have no : ∀ s1 : St, SimS base M W nt s1 a w → Sat P Q1 (run T std S lo sc noL q s1 k) → q.wp P (Exit.then (WPl P ys Q) Q) a w := fun s1 h1 h2 => wp_of_wpl (by
      have := ih2.1 hc.2 noL s1 k (Exit.then (WPl P ys Q) Q) [] a w h1 h2 (by rw [then_nil]; exact hk) (fun l c' s' a' w' hA => by cases hA)
      simpa using this)
    have lit : ∀ b, litOf s.kn x = some b → a.eval x = .bool b := by
      intro b hb
      cases x with
      | tmp t =>
        obtain ⟨⟨D, μ, S⟩, hkn⟩ := hs
        exact (S.slots t _ (hkn t b hb)).inv_bool
      | const v => cases v <;> simp [litOf] at hb; subst hb; rfl
      | _ => simp [litOf] at hb
    unfold run at h
    split at h
    · rename_i e; exact wp_cond_true (lit true e) (yes s hs h)
    · rename_i e; exact wp_cond_false (lit false e) (no s hs h)
    · split at h
      · rename_i t _ _
        split at h
        · rename_i b hb
          have he : a.eval (.tmp t) = .bool b := by
            obtain ⟨⟨D, μ, S⟩, hkn⟩ := hs
            exact (S.slots t _ hb).inv_bool
          cases h with
          | ite h1 h2 =>
            refine wp_cond_split he (fun ht => ?_) (fun hf => ?_)
            · subst ht
              exact yes (s.know t true) ⟨hs.1, knOk_know hs.2 hb⟩ (h1 rfl)
            · subst hf
              exact no (s.know t false) ⟨hs.1, knOk_know hs.2 hb⟩ (h2 rfl)
        · cases h
      · cases h
  | block id b ih =>
    refine ⟨?_, fun body e => by cases e⟩
    intro hc A s k Q ys a w hs h hk _
    show (Code.block id b).wp P (Exit.then (WPl P ys Q) Q) a w
    generalize Exit.then (WPl P ys Q) Q = Q' at hk
    by_cases hb : ∃ body, b = .loop body
    · obtain ⟨body, rfl⟩ := hb
      have hbody := ih.2 body rfl hc
      unfold run at h
      split at h
      · rename_i an hlo
        split at h
        · rename_i ks hks
          split at h
          · rename_i ko hko
            cases h with
            | and h1 h2 =>
              obtain ⟨x0, i0, _, s0⟩ := loopEnd_go hs h1
              cases h2 with
              | all h2 =>
                refine wp_block (wp_loop_ghost (fun n a w => ∃ x, an.inv x ∧ an.mu x = n ∧ SimS base M W nt (an.st ks ko s.ice x) a w) (an.mu x0) ⟨x0, i0, rfl, s0⟩ ?_)
                rintro n a1 w1 ⟨x, hx, rfl, hsx⟩
                refine wp_of_wpl ?_
                cases h2 x with
                | sup h3 =>
                  have := hbody noL _ _ (Exit.then (fun a' w' => ∃ n', n' < an.mu x ∧ ∃ x, an.inv x ∧ an.mu x = n' ∧ SimS base M W nt (an.st ks ko s.ice x) a' w') (Exit.inBlock id Q')) [] a1 w1 hsx (h3 hx) (fun e s' a' w' hs' h' => ?_) (fun l c' s' a' w' hA => by cases hA)
                  · simpa using this
                  · rw [then_nil]
                    cases e with
                    | exit j =>
                      simp only at h'
                      show (if j = id then Q' .normal a' w' else Q' (.exit j) a' w')
                      cases e : nbeq j id with
                      | true => rw [e] at h'; rw [if_pos (beq_eq e)]; exact hk .normal s' a' w' hs' h'
                      | false =>
                        rw [e] at h'
                        rw [if_neg (by rintro rfl; rw [beq_same] at e; cases e)]
                        exact hk (.exit j) s' a' w' hs' h'
                    | normal =>
                      obtain ⟨x', i', m', s2⟩ := loopEnd_go hs' h'
                      exact ⟨an.mu x', m' _ rfl, x', i', rfl, s2⟩
                    | goto l => exact hk (.goto l) s' a' w' hs' h'
                    | ret => exact hk .ret s' a' w' hs' h'
          · cases h
        · cases h
      · cases h
    · rw [run_block (fun body e => hb ⟨body, e⟩)] at h
      refine wp_block (wp_of_wpl ?_)
      have := ih.1 hc noL s _ (Exit.inBlock id Q') [] a w hs h (fun e s' a' w' hs' h' => ?_) (fun l c' s' a' w' hA => by cases hA)
      · simpa using this
      · rw [then_nil]
        cases e with
        | exit j =>
          simp only at h'
          show (if j = id then Q' .normal a' w' else Q' (.exit j) a' w')
          cases e : nbeq j id with
          | true => rw [e] at h'; rw [if_pos (beq_eq e)]; exact hk .normal s' a' w' hs' h'
          | false =>
            rw [e] at h'
            rw [if_neg (by rintro rfl; rw [beq_same] at e; cases e)]
            exact hk (.exit j) s' a' w' hs' h'
        | normal => exact hk .normal s' a' w' hs' h'
        | goto l => exact hk (.goto l) s' a' w' hs' h'
        | ret => exact hk .ret s' a' w' hs' h'
  | exit id => refine ⟨?_, fun body e => by cases e⟩; intro _ A s k Q ys a w hs h hk _; exact wp_exit (hk (.exit id) s a w hs h)
  | goto l => refine ⟨?_, fun body e => by cases e⟩; intro _ A s k Q ys a w hs h hk _; exact wp_goto (hk (.goto l) s a w hs h)
  | ret => refine ⟨?_, fun body e => by cases e⟩; intro _ A s k Q ys a w hs h hk _; exact wp_ret (hk .ret s a w hs h)
  | label l =>
    refine ⟨?_, fun body e => by cases e⟩
    intro _ A s k Q ys a w hs h hk hl
    unfold run at h
    split at h
    · rename_i hA
      exact hl l .skip s a w hA (by simp [findLabel]) hs h
    · exact hk .normal s a w hs h
  | scope b ih =>
    refine ⟨?_, fun body e => by cases e⟩
    intro hc A s k Q ys a w hs h hk _
    exact hsc b s k _ a w hc hs h hk
  | loop b ih => exact ⟨fun _ A s k Q ys a w hs h hk _ => (by cases h), fun body e => by cases e; exact ih.1⟩
  | _ => refine ⟨?_, fun body e => by cases e⟩; intro _ A s k Q ys a w hs h hk _; cases h

theorem run_go (hT : TsOk P T) (hS : SumsOk P S) (hm : P.follows .mixedOrders = true) {sc : Code → St → K → Tree} (hsc : ScOk P base M W nt Q1 sc) (c : Code) : RunOk P T S lo base M W nt Q1 sc c := (run_two hT hS hm hsc c).1

/-! ### passes through a scope -/
/-- The labels of which something is said: whoever stands there so, comes through. -/
def LabOk (P : Program) (base : Nat) (M : Two) (W : World) (nt : Nat) (lb : Nat → St → Option Ann) (body : Code) (bs : St) (Q : Exit → Act → World → Prop) (m : Option Nat) : Prop :=
  ∀ l an rest ks ko x a w, lb l bs = some an → findLabel body l = some rest → keepS bs.slots an.keep = some ks → keepO bs.objs an.hold = some ko → an.inv x → (∀ m0, m = some m0 → an.mu x < m0) →
    SimS base M W nt (an.st ks ko bs.ice x) a w → WPl P (flatC rest) (Qg P Q body) a w
def PassOk (P : Program) (T : TT) (S : Sums) (lo lb : Nat → St → Option Ann) (base : Nat) (M : Two) (W : World) (nt : Nat) (Q1 : AV → Prop) (n : Nat) : Prop :=
  ∀ body rest bs s k m Q a w, nodupL (labelsOf body) = true → codeOk nt rest = true → codeOk nt body = true → (rest = body ∨ ∃ l, findLabel body l = some rest) → SimS base M W nt s a w → Sat P Q1 (pass T std S lo lb n body rest s k m bs) →
    Kon P base M W nt Q1 k Q → LabOk P base M W nt lb body bs Q m → WPl P (flatC rest) (Qg P Q body) a w

theorem each_go {body : Code} {bs : St} {ps : Code → St → Nat → Tree} {t : Tree} : ∀ {ls : List Nat}, Sat P Q1 (eachLabel lb body bs ps ls t) → Sat P Q1 t ∧
    ∀ l, l ∈ ls → ∀ an rest ks ko, lb l bs = some an → findLabel body l = some rest → keepS bs.slots an.keep = some ks → keepO bs.objs an.hold = some ko → ∀ x, an.inv x → Sat P Q1 (ps rest (an.st ks ko bs.ice x) (an.mu x))
  | [], h => ⟨h, fun l hl => by cases hl⟩
  | l0 :: ls, h => by
    unfold eachLabel at h
    split at h
    · rename_i an hlb
      split at h
      · rename_i rest hf
        split at h
        · rename_i ks hks
          split at h
          · rename_i ko hko
            cases h with
            | and h1 h2 =>
              obtain ⟨i1, i2⟩ := each_go h2
              refine ⟨i1, fun l hl an' rest' ks' ko' q1 q2 q3 q4 x hx => ?_⟩
              rcases List.mem_cons.1 hl with rfl | hl
              · rw [hlb] at q1; cases q1
                rw [hf] at q2; cases q2
                rw [hks] at q3; cases q3
                rw [hko] at q4; cases q4
                cases h1 with
                | all h1 => cases h1 x with | sup h1 => exact h1 hx
              · exact i2 l hl an' rest' ks' ko' q1 q2 q3 q4 x hx
          · cases h
        · cases h
      · rename_i hf
        obtain ⟨i1, i2⟩ := each_go h
        refine ⟨i1, fun l hl an' rest' ks' ko' q1 q2 => ?_⟩
        rcases List.mem_cons.1 hl with rfl | hl
        · rw [hf] at q2; cases q2
        · exact i2 l hl an' rest' ks' ko' q1 q2
    · rename_i hlb
      obtain ⟨i1, i2⟩ := each_go h
      refine ⟨i1, fun l hl an' rest' ks' ko' q1 => ?_⟩
      rcases List.mem_cons.1 hl with rfl | hl
      · rw [hlb] at q1; cases q1
      · exact i2 l hl an' rest' ks' ko' q1

theorem scope_of (n : Nat) (hp : PassOk P T S lo lb base M W nt Q1 n) : ScOk P base M W nt Q1 (scopeT lb (pass T std S lo lb n)) := by
  intro body s k Q a w hc hs h hk
  unfold codeOk at hc
  rw [Bool.and_eq_true] at hc
  unfold scopeT at h
  obtain ⟨h1, h2⟩ := each_go h
  have lab : ∀ m, ∀ l an rest ks ko x a w, lb l s = some an → findLabel body l = some rest → keepS s.slots an.keep = some ks → keepO s.objs an.hold = some ko → an.inv x → an.mu x = m →
      SimS base M W nt (an.st ks ko s.ice x) a w → WPl P (flatC rest) (Qg P Q body) a w := by
    intro m
    induction m using Nat.strongRecOn with
    | _ m ih =>
      intro l an rest ks ko x a w q1 q2 q3 q4 hx hm hsx
      subst hm
      refine hp body rest s _ k (some (an.mu x)) Q a w hc.1 (find_ok q2 hc.2) hc.2 (.inr ⟨l, q2⟩) hsx (h2 l (find_lab q2) an rest ks ko q1 q2 q3 q4 x hx) hk ?_
      intro l' an' rest' ks' ko' x' a' w' p1 p2 p3 p4 hx' hlt hs'
      exact ih (an'.mu x') (hlt _ rfl) l' an' rest' ks' ko' x' a' w' p1 p2 p3 p4 hx' rfl hs'
  have := hp body body s s k none Q a w hc.1 hc.2 hc.2 (.inl rfl) hs h1 hk (fun l an rest ks ko x a w q1 q2 q3 q4 hx _ hsx => lab _ l an rest ks ko x a w q1 q2 q3 q4 hx rfl hsx)
  exact wp_scope_goes (goes_of (wp_of_wpl this))

theorem pass_go (hT : TsOk P T) (hS : SumsOk P S) (hm : P.follows .mixedOrders = true) : ∀ n, PassOk P T S lo lb base M W nt Q1 n
  | 0 => by intro body rest bs s k m Q a w _ _ _ _ _ h; cases h
  | n + 1 => by
    intro body rest bs s k m Q a w hn hr hb hsuf hs h hk hl
    have ih := pass_go hT hS hm n
    unfold pass at h
    -- a jump to a label of the scope's own
    have go : ∀ l rest' s' a' w', findLabel body l = some rest' → SimS base M W nt s' a' w' → Sat P Q1 (jump lb (fun rest' s' => pass T std S lo lb n body rest' s' k m bs) body bs m k (.goto l) s') → WPl P (flatC rest') (Qg P Q body) a' w' := by
      intro l rest' s' a' w' hf hs' h'
      simp only [jump, hf] at h'
      split at h'
      · rename_i an hlb
        split at h'
        · rename_i ks hks
          split at h'
          · rename_i ko hko
            obtain ⟨x, i1, i2, i3⟩ := loopEnd_go hs' h'
            exact hl l an rest' ks ko x a' w' hlb hf hks hko i1 i2 i3
          · cases h'
        · cases h'
      · exact ih body rest' bs s' k m Q a' w' hn (find_ok hf hb) hb (.inr ⟨l, hf⟩) hs' h' hk hl
    have := run_go hT hS hm (scope_of n ih) rest hr _ s _ (Qg P Q body) [] a w hs h (fun e s' a' w' hs' h' => ?_) (fun l c' s' a' w' hA hf hs' h' => ?_)
    · simpa using this
    · rw [then_nil]
      cases e with
      | goto l =>
        show Qg P Q body (.goto l) a' w'
        simp only [Qg]
        cases hf : findLabel body l with
        | some rest' => exact goes_of (wp_of_wpl (go l rest' s' a' w' hf hs' h'))
        | none =>
          simp only [jump, hf] at h'
          exact hk (.goto l) s' a' w' hs' h'
      | normal => exact hk .normal s' a' w' hs' h'
      | exit id => exact hk (.exit id) s' a' w' hs' h'
      | ret => exact hk .ret s' a' w' hs' h'
    · rw [List.append_nil]
      rcases hsuf with rfl | ⟨l0, h0⟩
      · exact go l c' s' a' w' hf hs' h'
      · obtain ⟨c'', e1, e2⟩ := find_find hn h0 hf
        rw [← e2]
        exact go l c'' s' a' w' e1 hs' h'

/-- **The run**: what it goes on with behind the code is true behind the code. -/
theorem code_go (hT : TsOk P T) (hS : SumsOk P S) (hm : P.follows .mixedOrders = true) {n : Nat} {c : Code} (hc : codeOk nt c = true) {s : St} {k : K} {Q : Exit → Act → World → Prop} {a : Act} {w : World} (hs : SimS base M W nt s a w)
    (h : Sat P Q1 (run T std S lo (scopeT lb (pass T std S lo lb n)) noL c s k)) (hk : Kon P base M W nt Q1 k Q) : c.wp P Q a w := by
  refine wp_of_wpl ?_
  have := run_go hT hS hm (scope_of n (pass_go hT hS hm n)) c hc noL s k Q [] a w hs h (by rw [then_nil]; exact hk) (fun l c' s' a' w' hA => by cases hA)
  simpa using this
end
end Sy
end Go.Proofs.Ythlggigjnpldcaa
namespace Go.Proofs.Ythlggigjnpldcaa
namespace Sy
open Go Go.RowKit
set_option linter.unusedSimpArgs false
set_option linter.unusedVariables false
set_option linter.unusedSectionVars false

/-! ### what a run's value is of a value that was told -/
def andL : List Prop → Prop
  | [] => True
  | p :: r => p ∧ andL r
def fits1 (r v : AV) : Prop := match meetA ⟨[], []⟩ r v with
  | some ⟨ps, []⟩ => andL ps
  | _ => False
def fitsL : List AV → List AV → Prop
  | [], [] => True
  | x :: xs, y :: ys => fits1 x y ∧ fitsL xs ys
  | _, _ => False
/-- The value v is r. -/
def fits (r v : AV) : Prop := match r, v with
  | .tup rs, .tup vs => fitsL rs vs
  | r, v => fits1 r v
theorem andL_mem : ∀ {l : List Prop}, andL l → ∀ p, p ∈ l → p
  | [], _, p, h => by cases h
  | q :: l, ⟨h1, h2⟩, p, h => by
    rcases List.mem_cons.1 h with rfl | h
    · exact h1
    · exact andL_mem h2 p h
theorem muOf_no (μ : Mu) : muOf μ [] = noMu := rfl
theorem fits1_R {h : Array Obj} {D : Nat → Prop} {r v : AV} {x : Value} (f : fits1 r v) (hr : R h D noMu v x) : R h D noMu r x := by
  unfold fits1 at f
  split at f
  · rename_i ps e
    have := (meetA_ok (h := h) (D := D) (μ := noMu) e).2 [] x ⟨fun _ _ h => h, andL_mem f⟩ hr
    rwa [muOf_no] at this
  · exact f.elim
theorem fitsL_R {h : Array Obj} {D : Nat → Prop} : ∀ {rs vs : List AV}, fitsL rs vs → rs.length = vs.length ∧ ∀ (i : Nat) r v x, rs[i]? = some r → vs[i]? = some v → R h D noMu v x → R h D noMu r x
  | [], [], _ => ⟨rfl, fun i r v x h => by simp at h⟩
  | r :: rs, v :: vs, ⟨f1, f2⟩ => by
    obtain ⟨l1, h1⟩ := fitsL_R (h := h) (D := D) f2
    refine ⟨by simp [l1], fun i r' v' x hr hv hx => ?_⟩
    cases i with
    | zero => simp at hr hv; subst hr; subst hv; exact fits1_R f1 hx
    | succ i => exact h1 i r' v' x (by simpa using hr) (by simpa using hv) hx
  | [], _ :: _, f => f.elim
  | _ :: _, [], f => f.elim
theorem fits_R {h : Array Obj} {D : Nat → Prop} {r v : AV} {x : Value} (f : fits r v) (hr : R h D noMu v x) : R h D noMu r x := by
  unfold fits at f
  split at f
  · rename_i rs vs
    obtain ⟨us, rfl, l1, h1⟩ := hr.inv_tup
    obtain ⟨l2, h2⟩ := fitsL_R (h := h) (D := D) f
    refine .tup _ _ (by rw [l2, l1]) fun i r x hr hx => ?_
    obtain ⟨v, hv⟩ : ∃ v, vs[i]? = some v := ⟨_, List.getElem?_eq_getElem (by rw [← l2]; exact (List.getElem?_eq_some_iff.1 hr).1)⟩
    exact h2 i r v x hr hv (h1 i v x hv hx)
  · exact fits1_R f hr

/-! ### the results -/
theorem bind_pure' {α : Type} (x : Sem α) : x.bind .pure = x := by
  induction x <;> simp only [Sem.bind] <;> (try (congr 1; try funext _)) <;> (first | rfl | (rename_i ih; exact ih _) | (rename_i ih; exact ih) | (rename_i ih _; exact ih _))
theorem bind_assoc' {α β γ : Type} (x : Sem α) (f : α → Sem β) (g : β → Sem γ) : (x.bind f).bind g = x.bind fun a => (f a).bind g := by
  induction x <;> simp only [Sem.bind] <;> (try (congr 1; try funext _)) <;> (first | rfl | (rename_i ih; exact ih _) | (rename_i ih; exact ih) | (rename_i ih _; exact ih _))
instance : LawfulMonad Sem := LawfulMonad.mk' Sem (fun x => bind_pure' x) (fun _ _ => rfl) (fun x f g => bind_assoc' x f g)
theorem mapM_run {α : Type} {P : Program} {w : World} {k : α → Sem Value} : ∀ {zs : List α} {us : Nat → Value}, (∀ (i : Nat) x, zs[i]? = some x → (k x).run P w = .ok (us i) w) →
    (zs.mapM k).run P w = .ok ((List.range zs.length).map us) w
  | [], us, h => by simp
  | z :: zs, us, h => by
    have ih := mapM_run (zs := zs) (us := fun i => us (i + 1)) (fun i x hx => h (i + 1) x (by simpa using hx))
    rw [List.mapM_cons, Sem.run_bind, h 0 z rfl]
    simp only [Result.andThen_ok, Sem.run_bind, ih, Sem.run_pure]
    rw [List.length_cons, List.range_succ_eq_map]
    simp [Function.comp_def]

section
variable {P : Program} {T : TT} {base : Nat} {M : Two} {W : World} {nt : Nat} {s : St} {a : Act} {w : World} {D : Nat → Prop} {μ : Mu}
def resOp (tmps : Array Value) : ResultVar → Sem Value
  | .tmp t => pure (tmps.getD t undef)
  | .cell a t => do loadVar t (← asAddr (tmps.getD a undef))
theorem res_go (h : Sim base M W nt (aget s.slots) (aget s.objs) (lhas s.ice) a w D μ) (hT : TsOk P T) {x : ResultVar} {v : AV} (e : resV T s x = some v) : ∃ u, (resOp a.tmps x).run P w = .ok u w ∧ R w.heap D μ v u := by
  have ev : ∀ t, R w.heap D μ (evf (aget s.slots) [] (.tmp t)) (a.tmps.getD t undef) := fun t => evf_R h (fun t b ht => by simp [aget] at ht) (.tmp t) (fun v hv => by cases hv)
  cases x with
  | tmp t =>
    simp only [resV, Option.some.injEq] at e
    subst e
    exact ⟨_, rfl, ev t⟩
  | cell p t =>
    simp only [resV] at e
    have hl := load_val h hT (t := t) (ev p) (ob := aget s.objs) (fun _ _ h => h)
    split at e
    · rename_i v' os ice hc
      rw [hc] at hl
      cases e
      obtain ⟨_, _, y, hy, r⟩ := hl
      refine ⟨y, ?_, r⟩
      simp only [resOp]
      generalize a.tmps.getD p undef = u at *
      unfold Instr.loadAt Instr.sureAddr at hy
      unfold asAddr
      split at hy
      · rename_i q; simpa using hy
      · simp [stuck] at hy
    · cases e
theorem ress_go (h : Sim base M W nt (aget s.slots) (aget s.objs) (lhas s.ice) a w D μ) (hT : TsOk P T) : ∀ {rs : List ResultVar} {vs : List AV}, resVs T s rs = some vs →
    vs.length = rs.length ∧ ∃ us : Nat → Value, (∀ (i : Nat) x, rs[i]? = some x → (resOp a.tmps x).run P w = .ok (us i) w) ∧ ∀ (i : Nat) v, vs[i]? = some v → R w.heap D μ v (us i)
  | [], vs, e => by cases e; exact ⟨rfl, fun _ => undef, fun i x hx => by simp at hx, fun i x hx => by simp at hx⟩
  | x :: rs, vs, e => by
    unfold resVs at e
    split at e
    · rename_i v hv
      split at e
      · rename_i l hl
        cases e
        obtain ⟨u, hu, r⟩ := res_go h hT hv
        obtain ⟨l1, us, h1, h2⟩ := ress_go h hT hl
        refine ⟨by simp [l1], fun i => match i with | 0 => u | i + 1 => us i, fun i x' hx => ?_, fun i v' hv' => ?_⟩
        · cases i with
          | zero => simp at hx; subst hx; exact hu
          | succ i => exact h1 i x' (by simpa using hx)
        · cases i with
          | zero => simp at hv'; subst hv'; exact r
          | succ i => exact h2 i v' (by simpa using hv')
      · cases e
    · cases e
theorem results_run {fn : Func} {tmps : Array Value} {us : Nat → Value} (h : ∀ (i : Nat) x, fn.results.toList[i]? = some x → (resOp tmps x).run P w = .ok (us i) w) :
    (results fn tmps).run P w = .ok (if fn.results.size = 1 then us 0 else .tuple ((List.range fn.results.size).map us).toArray) w := by
  have h1 : (fn.results.mapM (resOp tmps)).run P w = .ok ((List.range fn.results.size).map us).toArray w := by
    have e : fn.results = fn.results.toList.toArray := by simp
    rw [e, List.mapM_toArray, map_eq_pure_bind, Sem.run_bind, mapM_run h]
    simp
  have h2 : results fn tmps = (do
      let vs ← fn.results.mapM (resOp tmps)
      pure (if h : vs.size = 1 then vs[0] else .tuple vs)) := by
    unfold results
    congr 1
  rw [h2, Sem.run_bind, h1]
  simp only [Result.andThen_ok, Sem.run_pure]
  congr 1
  by_cases e : fn.results.size = 1
  · rw [if_pos e, dif_pos (by simp [e])]
    try simp
  · rw [if_neg e, dif_neg (by simp [e])]
end

theorem aget_number {α : Type} : ∀ (xs : List α) (i t : Nat), aget (number i xs) t = if i ≤ t then xs[t - i]? else none
  | [], i, t => by simp [number, aget]
  | x :: xs, i, t => by
    unfold number aget
    cases e : nbeq i t with
    | true => have := beq_eq e; subst this; simp
    | false =>
      have hne : i ≠ t := by rintro rfl; rw [beq_same] at e; cases e
      simp only
      rw [aget_number xs (i + 1) t]
      by_cases h : i ≤ t
      · rw [if_pos (by omega), if_pos h]
        obtain ⟨k, hk⟩ : ∃ k, t - i = k + 1 := ⟨t - i - 1, by omega⟩
        rw [hk, show t - (i + 1) = k by omega]
        simp
      · rw [if_neg (by omega), if_neg h]

theorem callFunc_run {P : Program} {f : FuncId} {fn : Func} {args : Array Value} {w : World} (hf : P.funcs[f]? = some fn) (hn : (fn.name == "runtime.NumGoroutine") = false) {c : Code} (hb : fn.body = some c) :
    (callFunc f args).run P w = .ok (.enter f args) w := by
  have hn' : ¬ fn.name = "runtime.NumGoroutine" := by simpa using hn
  unfold callFunc
  simp [program, Sem.run, hf, hn', hb]

/-- **A function**: if the executor's run of it ends in r wherever it ends, the function answers r. -/
theorem acalls_of {P : Program} {T : TT} {S : Sums} {lo lb : Nat → St → Option Ann} {n : Nat} {f : FuncId} {fn : Func} {c : Code} {xs : List AV} {r : AV} (hf : P.funcs[f]? = some fn) (hb : fn.body = some c) (hn : (fn.name == "runtime.NumGoroutine") = false)
    (hc : codeOk fn.ntmps c = true) (hx : (nble xs.length fn.ntmps && nble fn.ntmps 500000) = true) (hT : TsOk P T) (hS : SumsOk P S) (hm : P.follows .mixedOrders = true) (h : Sat P (fits r) (runF T std S lo lb n fn xs)) : ACalls P f xs r := by
  intro D w vs hD hxs hg
  rw [Bool.and_eq_true] at hx
  have hnb := ble_le hx.2
  have hx := ble_le hx.1
  unfold CallTo
  rw [callFunc_run hf hn hb]
  simp only
  refine calls_of_wp hf hb ?_
  unfold runF at h
  rw [hb] at h
  refine code_go (base := w.heap.size) (M := ⟨fun _ => False, D, fun _ => none⟩) (W := w) hT hS hm hc ⟨⟨D, noMu, ?_⟩, fun t b ht => by simp [aget] at ht⟩ h (fun e s a w' hs h' => ?_)
  · refine { os := rfl, tape := rfl, output := rfl, size := Nat.le_refl _, bs := Nat.le_refl _, old := fun _ _ _ => rfl, defers := rfl, tmps := ?_, slots := fun t v hv => ?_, dlt := hD, low := fun b hb _ => .inl hb, dom := fun id => by simp [aget], obs := fun id o x ho => (by simp [aget] at ho), inj := fun id id' b z z' o o' h => (by cases h), own := fun id b z h => (by cases h), kd := fun id b z o h => (by cases h), icy := fun id h => by (simp [lhas] at h), ntb := hnb, pin := fun id y _ h => (by cases h), gl := ⟨hg, GOk_size hg, fun _ h => h.elim⟩ }
    · rw [hxs.1] at hx
      simp; omega
    · rw [aget_number, if_pos (by omega), Nat.sub_zero] at hv
      have hlt : t < vs.size := by rw [← hxs.1]; exact (List.getElem?_eq_some_iff.1 hv).1
      have h1 : vs[t]? = some vs[t] := by simp [hlt]
      have h2 : (vs ++ Array.replicate (fn.ntmps - vs.size) undef).getD t undef = vs[t] := by
        rw [Array.getD_eq_getD_getElem?, Array.getElem?_append_left hlt, h1]; rfl
      rw [h2]
      exact hxs.2 t v vs[t] hv h1
  · obtain ⟨⟨D1, μ, S1⟩, _⟩ := hs
    have key : Sat P (fits r) (endT T std fn.results.toList s) → a.defers = [] ∧ ∃ v, (results fn a.tmps).run P w' = .ok v w' ∧ ∃ v' D', Ending.returned v = .returned v' ∧ Below w.heap.size w w' ∧ (∀ b, D b → D' b) ∧ (∀ b, D' b → D b ∨ (w.heap.size ≤ b ∧ b < w'.heap.size)) ∧ R w'.heap D' noMu r v' := by
      intro h'
      unfold endT at h'
      split at h'
      · rename_i vs1 hvs
        obtain ⟨l1, us, h1, h2⟩ := ress_go S1 hT hvs
        have hres := results_run (P := P) (w := w') (fn := fn) (tmps := a.tmps) h1
        have hB : Below w.heap.size w w' := ⟨S1.os, S1.tape, S1.output, S1.size, fun b hb => S1.old b hb (fun h => h)⟩
        -- the blocks that the results may lead to
        have hD' : ∀ b, (D b ∨ DF D1 μ (idsVs vs1) b) → D b ∨ (w.heap.size ≤ b ∧ b < w'.heap.size) := by
          rintro b (hb | hb | ⟨id, z, m, _, hm⟩)
          · exact .inl hb
          · by_cases hlt : b < w.heap.size
            · rcases S1.low b hb hlt with h | h
              · exact .inl h
              · exact h.elim
            · exact .inr ⟨by omega, S1.dlt b hb⟩
          · rcases S1.own id b _ hm with ⟨q1, q2 | q2⟩
            · exact .inr ⟨q2, q1⟩
            · exact q2.elim
        have imm : ∀ vs2, immVs std (aget s.objs) vs1 = some vs2 → vs2.length = vs1.length ∧ ∀ (i : Nat) v, vs2[i]? = some v → R w'.heap (fun b => D b ∨ DF D1 μ (idsVs vs1) b) noMu v (us i) := by
          intro vs2 e2
          obtain ⟨i1, _, i3⟩ := immVs_ok S1 (ob := aget s.objs) (fun _ _ h => h) e2 (ids := idsVs vs1) (fun _ h => h)
          refine ⟨i1, fun i v hv => ?_⟩
          obtain ⟨v1, hv1⟩ : ∃ v1, vs1[i]? = some v1 := ⟨_, List.getElem?_eq_getElem (by rw [← i1]; exact (List.getElem?_eq_some_iff.1 hv).1)⟩
          exact (i3 i v1 v (us i) hv1 hv (h2 i v1 hv1)).mono (fun _ _ => rfl) (fun b hb => .inr hb) (fun _ _ h => by cases h)
        refine ⟨S1.defers, _, hres, _, fun b => D b ∨ DF D1 μ (idsVs vs1) b, rfl, hB, fun b hb => .inl hb, hD', ?_⟩
        split at h'
        · rename_i v1 e2
          cases h' with
          | done h' =>
            obtain ⟨i1, i2⟩ := imm _ e2
            have hsz : fn.results.size = 1 := by rw [← Array.length_toList, ← l1, ← i1]; rfl
            rw [if_pos hsz]
            exact fits_R h' (i2 0 v1 rfl)
        · rename_i vs2 hne e2
          cases h' with
          | done h' =>
            obtain ⟨i1, i2⟩ := imm _ e2
            have hl : vs2.length = fn.results.size := by rw [i1, l1, Array.length_toList]
            have hsz : ¬ fn.results.size = 1 := by
              rw [← hl]
              intro h1
              obtain ⟨v, hv⟩ := List.length_eq_one_iff.1 h1
              exact hne v hv
            rw [if_neg hsz]
            refine fits_R h' (.tup _ _ (by simp [hl]) fun i v x hv hx => ?_)
            have hlt : i < fn.results.size := by rw [← hl]; exact (List.getElem?_eq_some_iff.1 hv).1
            simp [hlt] at hx
            subst hx
            exact i2 i v hv
        · cases h'
      · cases h'
    cases e with
    | normal => exact key h'
    | ret => exact key h'
    | exit id => cases h'
    | goto l => cases h'
end Sy
end Go.Proofs.Ythlggigjnpldcaa
namespace Go.Proofs.Ythlggigjnpldcaa
namespace Sy
open Go Go.RowKit

section
variable (a b c : Int) (l m : List UInt8) (n : Nat)
theorem ilt_t : (ilt a b = true) = (a < b) := by simp [ilt]
theorem ilt_f : (ilt a b = false) = (b ≤ a) := by simp [ilt]
theorem ile_t : (ile a b = true) = (a ≤ b) := by simp [ile]
theorem ile_f : (ile a b = false) = (b < a) := by simp [ile]
theorem ieq_t : (ieq a b = true) = (a = b) := by simp [ieq]
theorem ieq_f : (ieq a b = false) = (a ≠ b) := by simp [ieq]
theorem ine_t : (ine a b = true) = (a ≠ b) := by simp [ine]
theorem ine_f : (ine a b = false) = (a = b) := by simp [ine]
theorem seq_t : (seq l m = true) = (l = m) := by simp [seq]
theorem seq_f : (seq l m = false) = (l ≠ m) := by simp [seq]
theorem inR_t : (inR a b = true) = (0 ≤ a ∧ a < b) := by simp [inR]
theorem inS_t : (inS a b c = true) = (0 ≤ a ∧ a ≤ b ∧ b ≤ c) := by simp [inS, and_assoc]
theorem inC_t : (inC a b = true) = (0 ≤ a ∧ a ≤ b) := by simp [inC]
theorem mkOk_t (eb : Nat) : (mkOk eb a b = true) = (0 ≤ a ∧ a ≤ b ∧ (eb : Int) * b ≤ 140737488355328 ∧ b ≤ 9223372036854775807) := by simp [mkOk, and_assoc]
theorem roomOk_t (eb p q : Nat) : (roomOk eb p q = true) = ((p + q) * eb ≤ 140737488355328 ∧ p + q ≤ 9223372036854775807) := by simp [roomOk]
theorem catOk_t : (catOk l m = true) = (l.length + m.length ≤ 9223372036854775807) := by simp [catOk]
theorem fits_bool (x y : Bool) : fits (.bool x) (.bool y) = (y = x) := by simp [fits, fits1, meetA, meetV, Meet.add, andL]
theorem fits_int (k : IntKind) : fits (.int k a) (.int k b) = (b = a) := by simp [fits, fits1, meetA, meetV, Meet.add, andL]
theorem fits_str : fits (.str l) (.str m) = (m = l) := by simp [fits, fits1, meetA, meetV, Meet.add, andL]
theorem fits1_bool (x y : Bool) : fits1 (.bool x) (.bool y) = (y = x) := by simp [fits1, meetA, meetV, Meet.add, andL]
theorem fits1_int (k : IntKind) : fits1 (.int k a) (.int k b) = (b = a) := by simp [fits1, meetA, meetV, Meet.add, andL]
theorem fits1_str : fits1 (.str l) (.str m) = (m = l) := by simp [fits1, meetA, meetV, Meet.add, andL]
theorem fits_tup (x y : List AV) : fits (.tup x) (.tup y) = fitsL x y := rfl
theorem fitsL_cons (x y : AV) (r q : List AV) : fitsL (x :: r) (y :: q) = (fits1 x y ∧ fitsL r q) := rfl
theorem fitsL_nil : fitsL [] [] = True := rfl
theorem slen_is : slen l = l.length := rfl
theorem scat_is : scat l m = l ++ m := rfl
theorem ssub_is : ssub l a b = (l.take b.toNat).drop a.toNat := rfl
theorem sidx_is : sidx l a = (l.getD a.toNat 0).toNat := rfl
theorem lenN_is : lenN l = l.length := rfl
theorem fits3_is (p q r : Nat) : fits3 p q r = (p + q ≤ r) := rfl
theorem nadd0 (p : Nat) : Nat.add 0 p = p := Nat.zero_add p
theorem wquo64 (k : IntKind) : wquo k a b = k.wrap (a.tdiv b) := rfl
theorem imin_is : imin a b = min a b := rfl
theorem imax_is : imax a b = max a b := rfl
theorem natI_is : natI n = n := rfl
theorem wadd64 : wadd .i64 a b = RowKit.wrap64 (a + b) := IntWalk.i64_left _
end
theorem w_i64 (n : Int) : IntKind.i64.wrap n = (n + 9223372036854775808) % 18446744073709551616 - 9223372036854775808 := by simp [IntKind.wrap, IntKind.bits, IntKind.signed]; omega
theorem w_i32 (n : Int) : IntKind.i32.wrap n = (n + 2147483648) % 4294967296 - 2147483648 := by simp [IntKind.wrap, IntKind.bits, IntKind.signed]; omega
theorem w_u64 (n : Int) : IntKind.u64.wrap n = n % 18446744073709551616 := by simp [IntKind.wrap, IntKind.bits, IntKind.signed]
theorem w_u32 (n : Int) : IntKind.u32.wrap n = n % 4294967296 := by simp [IntKind.wrap, IntKind.bits, IntKind.signed]
theorem w_u16 (n : Int) : IntKind.u16.wrap n = n % 65536 := by simp [IntKind.wrap, IntKind.bits, IntKind.signed]
theorem w_u8 (n : Int) : IntKind.u8.wrap n = n % 256 := by simp [IntKind.wrap, IntKind.bits, IntKind.signed]
/-! ### A result that is a struct, part by part -/
theorem pairUp_ps (ps q : List Prop) (ids : List (Nat × Option Nat)) (x y : Nat) : pairUp ⟨ps ++ q, ids⟩ x y = (pairUp ⟨ps, ids⟩ x y).map fun m => ⟨m.ps ++ q, m.ids⟩ := by
  unfold pairUp
  dsimp only
  repeat' split
  all_goals rfl
theorem pairNil_ps (ps q : List Prop) (ids : List (Nat × Option Nat)) (x : Nat) : pairNil ⟨ps ++ q, ids⟩ x = (pairNil ⟨ps, ids⟩ x).map fun m => ⟨m.ps ++ q, m.ids⟩ := by
  unfold pairNil
  dsimp only
  split <;> rfl
theorem meetV_ps (ps q : List Prop) (ids : List (Nat × Option Nat)) (x y : AV) : meetV ⟨ps ++ q, ids⟩ x y = (meetV ⟨ps, ids⟩ x y).map fun m => ⟨m.ps ++ q, m.ids⟩ := by
  cases x <;> cases y <;> first
    | rfl
    | (simp only [meetV, Meet.add, pairUp_ps, pairNil_ps]; done)
    | (simp only [meetV, Meet.add, pairUp_ps, pairNil_ps]
       (repeat' split) <;> (try simp_all) <;> (try (rename_i hh _; subst hh; simp)) <;> (try (rename_i hh _ _; subst hh; simp)))
theorem meetL_ps : ∀ (xs ys : List AV) (ps q : List Prop) (ids : List (Nat × Option Nat)), meetL ⟨ps ++ q, ids⟩ xs ys = (meetL ⟨ps, ids⟩ xs ys).map fun m => ⟨m.ps ++ q, m.ids⟩
  | [], [], ps, q, ids => rfl
  | [], _ :: _, ps, q, ids => rfl
  | _ :: _, [], ps, q, ids => rfl
  | x :: xs, y :: ys, ps, q, ids => by
    unfold meetL
    rw [meetV_ps]
    cases e : meetV ⟨ps, ids⟩ x y with
    | none => rfl
    | some m => exact meetL_ps xs ys m.ps q m.ids
theorem andL_app : ∀ (p : List Prop) (q : Prop), andL (p ++ [q]) = (q ∧ andL p)
  | [], q => by simp [andL]
  | a :: p, q => by
    show (a ∧ andL (p ++ [q])) = (q ∧ a ∧ andL p)
    rw [andL_app p q]
    exact propext ⟨fun ⟨h1, h2, h3⟩ => ⟨h2, h1, h3⟩, fun ⟨h1, h2, h3⟩ => ⟨h2, h1, h3⟩⟩
theorem fits1_agg_cons {x y : AV} {q : Prop} (e : meetV ⟨[], []⟩ x y = some ⟨[q], []⟩) (xs ys : List AV) : fits1 (.agg (x :: xs)) (.agg (y :: ys)) = (q ∧ fits1 (.agg xs) (.agg ys)) := by
  unfold fits1 meetA
  simp only [meetL, e]
  have := meetL_ps xs ys [] [q] []
  rw [List.nil_append] at this
  rw [this]
  cases meetL ⟨[], []⟩ xs ys with
  | none => simp
  | some m =>
    obtain ⟨ps, ids⟩ := m
    cases ids with
    | nil => exact andL_app ps q
    | cons a b => simp
theorem fits1_agg0 : fits1 (.agg []) (.agg []) = True := rfl
theorem fits1_aggi (k : IntKind) (a b : Int) (xs ys : List AV) : fits1 (.agg (.int k a :: xs)) (.agg (.int k b :: ys)) = (b = a ∧ fits1 (.agg xs) (.agg ys)) := fits1_agg_cons (by simp [meetV, Meet.add]) _ _
theorem fits1_aggs (a b : List UInt8) (xs ys : List AV) : fits1 (.agg (.str a :: xs)) (.agg (.str b :: ys)) = (b = a ∧ fits1 (.agg xs) (.agg ys)) := fits1_agg_cons rfl _ _
theorem fits1_aggb (a b : Bool) (xs ys : List AV) : fits1 (.agg (.bool a :: xs)) (.agg (.bool b :: ys)) = (b = a ∧ fits1 (.agg xs) (.agg ys)) := fits1_agg_cons rfl _ _
theorem fits1_lst (sz n n' : Nat) (g g' : Nat → Nat → AV) : fits1 (.lst sz n g) (.lst sz n' g') = (n' = n ∧ ∀ i j, i < n → j < sz → g' i j = g i j) := by simp [fits1, meetA, meetV, Meet.add, beq_same, andL]
theorem fits_lst (sz n n' : Nat) (g g' : Nat → Nat → AV) : fits (.lst sz n g) (.lst sz n' g') = (n' = n ∧ ∀ i j, i < n → j < sz → g' i j = g i j) := fits1_lst sz n n' g g'
theorem fits1_nils (sz n : Nat) (g : Nat → Nat → AV) : fits1 (.lst sz n g) .nils = (0 = n) := by simp [fits1, meetA, meetV, Meet.add, andL]
theorem fits_nils (sz n : Nat) (g : Nat → Nat → AV) : fits (.lst sz n g) .nils = (0 = n) := fits1_nils sz n g
theorem fits1_aggl (sz n n' : Nat) (g g' : Nat → Nat → AV) (xs ys : List AV) : fits1 (.agg (.lst sz n g :: xs)) (.agg (.lst sz n' g' :: ys)) = ((n' = n ∧ ∀ i j, i < n → j < sz → g' i j = g i j) ∧ fits1 (.agg xs) (.agg ys)) := fits1_agg_cons (by simp [meetV, Meet.add, beq_same]) _ _
theorem fits1_aggn (sz n : Nat) (g : Nat → Nat → AV) (xs ys : List AV) : fits1 (.agg (.lst sz n g :: xs)) (.agg (.nils :: ys)) = (0 = n ∧ fits1 (.agg xs) (.agg ys)) := fits1_agg_cons rfl _ _
theorem fits1_arr (n : Nat) (g g' : Nat → AV) : fits1 (.arr n g) (.arr n g') = (∀ j, j < n → g' j = g j) := by simp [fits1, meetA, meetV, Meet.add, beq_same, andL]
theorem fits_arr (n : Nat) (g g' : Nat → AV) : fits (.arr n g) (.arr n g') = (∀ j, j < n → g' j = g j) := fits1_arr n g g'
theorem fits_agg0 : fits (.agg []) (.agg []) = True := rfl
theorem fits_aggi (k : IntKind) (a b : Int) (xs ys : List AV) : fits (.agg (.int k a :: xs)) (.agg (.int k b :: ys)) = (b = a ∧ fits1 (.agg xs) (.agg ys)) := fits1_aggi _ _ _ _ _
theorem fits_aggs (a b : List UInt8) (xs ys : List AV) : fits (.agg (.str a :: xs)) (.agg (.str b :: ys)) = (b = a ∧ fits1 (.agg xs) (.agg ys)) := fits1_aggs _ _ _ _
theorem fits_aggb (a b : Bool) (xs ys : List AV) : fits (.agg (.bool a :: xs)) (.agg (.bool b :: ys)) = (b = a ∧ fits1 (.agg xs) (.agg ys)) := fits1_aggb _ _ _ _

theorem str_eq {h : Array Obj} {D : Nat → Prop} {μ : Mu} {l : List UInt8} {v : Value} (r : R h D μ (.str l) v) : v = .string ⟨l.toArray⟩ := by
  obtain ⟨s, rfl, rfl⟩ := r.inv_str
  simp
theorem str_r (h : Array Obj) (D : Nat → Prop) (μ : Mu) (l : List UInt8) : R h D μ (.str l) (.string ⟨l.toArray⟩) := .str l _ (by simp)
/-- A contract of the old kind: the arguments are told by what is said of them, the world grows at most. -/
theorem ac_of_below {P : Program} {f : FuncId} {fn : Func} {c : Code} {xs : List AV} {args : Array Value} {v : Value} {r : AV} (hf : P.funcs[f]? = some fn) (hb : fn.body = some c) (hn : (fn.name == "runtime.NumGoroutine") = false)
    (ha : ∀ h D vs, RL h D noMu xs vs → vs = args) (hv : ∀ h D, R h D noMu r v) (h : ∀ w, Calls P f args w fun e w' => e = .returned v ∧ Below w.heap.size w w') : ACalls P f xs r := by
  intro D w vs hD hxs hg
  have := ha _ _ _ hxs
  subst this
  unfold CallTo
  rw [callFunc_run hf hn hb]
  refine (h w).mono ?_
  rintro e w' ⟨rfl, hw⟩
  exact ⟨v, D, rfl, hw, fun _ h => h, fun b hb => .inl hb, hv _ _⟩
theorem below_of_same {P : Program} {f : FuncId} {args : Array Value} {v : Value} (h : ∀ w, Calls P f args w fun e w' => e = .returned v ∧ w = w') : ∀ w, Calls P f args w fun e w' => e = .returned v ∧ Below w.heap.size w w' :=
  fun w => (h w).mono fun e w' ⟨h1, h2⟩ => ⟨h1, by subst h2; exact Below.refl _ _⟩
/-- Arguments that are told, one by one. -/
def Tells (x : AV) (v : Value) : Prop := ∀ h D u, R h D noMu x u → u = v
theorem tells_int (k : IntKind) (n : Int) : Tells (.int k n) (.int k n) := fun _ _ _ r => by cases r; rfl
theorem tells_bool (b : Bool) : Tells (.bool b) (.bool b) := fun _ _ _ r => by cases r; rfl
theorem tells_str (l : List UInt8) : Tells (.str l) (.string ⟨l.toArray⟩) := fun _ _ _ r => str_eq r
theorem args0 : ∀ h D vs, RL h D noMu [] vs → vs = #[] := by
  intro h D vs ⟨hl, _⟩
  exact Array.eq_empty_of_size_eq_zero (by simpa using hl.symm)
theorem args1 {x : AV} {v : Value} (hx : Tells x v) : ∀ h D vs, RL h D noMu [x] vs → vs = #[v] := by
  intro h D vs ⟨hl, hr⟩
  obtain ⟨a, ha⟩ : ∃ a, vs.toList = [a] := List.length_eq_one_iff.1 (by simpa using hl.symm)
  have : vs = #[a] := by rw [← Array.toArray_toList (xs := vs), ha]
  subst this
  rw [hx _ _ a (hr 0 x a rfl rfl)]
theorem args2 {x y : AV} {v u : Value} (hx : Tells x v) (hy : Tells y u) : ∀ h D vs, RL h D noMu [x, y] vs → vs = #[v, u] := by
  intro h D vs ⟨hl, hr⟩
  obtain ⟨a, b, ha⟩ : ∃ a b, vs.toList = [a, b] := by
    have hl : vs.toList.length = 2 := by simpa using hl.symm
    match vs.toList, hl with
    | [a, b], _ => exact ⟨a, b, rfl⟩
  have : vs = #[a, b] := by rw [← Array.toArray_toList (xs := vs), ha]
  subst this
  rw [hx _ _ a (hr 0 x a rfl rfl), hy _ _ b (hr 1 y b rfl rfl)]

/-! ### Summaries, function by function -/
abbrev Ent1 := Nat × (List AV → Option (Prop × AV))
abbrev EntM := Nat × MSum
def fzOf (l : List Ent1) : FuncId → List AV → Option (Prop × AV) := fun f xs => match aget l f with | some g => g xs | none => none
def sumOf (l : List Ent1) : Sums := ⟨fzOf l, fun _ => none⟩
def sumOfM (l : List Ent1) (lm : List EntM) : Sums := ⟨fzOf l, aget lm⟩
def Good (P : Program) (e : Ent1) : Prop := ∀ xs p r, e.2 xs = some (p, r) → p → ACalls P e.1 xs r
def Goods (P : Program) : List Ent1 → Prop
  | [] => True
  | e :: l => Good P e ∧ Goods P l
def GoodM (P : Program) (e : EntM) : Prop := ∀ raw ob T, e.2 raw ob = some T → T.p → MCalls P e.1 T.xs T.O T.r T.O1
def GoodMs (P : Program) : List EntM → Prop
  | [] => True
  | e :: l => GoodM P e ∧ GoodMs P l
theorem fzOf_ok {P : Program} : ∀ {l : List Ent1}, Goods P l → ∀ f xs p r, fzOf l f xs = some (p, r) → p → ACalls P f xs r
  | [], _, f, xs, p, r, h => by cases h
  | (n, g) :: l, ⟨hg, hl⟩, f, xs, p, r, h => by
    unfold fzOf aget at h
    by_cases e : n = f
    · subst e
      rw [beq_same] at h
      exact hg xs p r h
    · rw [beq_no e] at h
      exact fzOf_ok hl f xs p r h
theorem mtOf_ok {P : Program} : ∀ {l : List EntM}, GoodMs P l → ∀ f m, aget l f = some m → ∀ raw ob T, m raw ob = some T → T.p → MCalls P f T.xs T.O T.r T.O1
  | [], _, f, m, h => by cases h
  | (n, g) :: l, ⟨hg, hl⟩, f, m, h => by
    unfold aget at h
    by_cases e : n = f
    · subst e
      rw [beq_same] at h
      cases h
      exact hg
    · rw [beq_no e] at h
      exact mtOf_ok hl f m h
theorem sumOf_ok {P : Program} {l : List Ent1} (h : Goods P l) : SumsOk P (sumOf l) := ⟨fzOf_ok h, fun f m h => by cases h⟩
theorem sumOfM_ok {P : Program} {l : List Ent1} {lm : List EntM} (h : Goods P l) (hm : GoodMs P lm) : SumsOk P (sumOfM l lm) := ⟨fzOf_ok h, mtOf_ok hm⟩
/-- The law's own function answers true: the walk of the law. -/
theorem law_of_ac {P : Program} {f : FuncId} {fn : Func} {c : Code} {xs : List AV} {vs : Array Value} (hf : P.funcs[f]? = some fn) (hb : fn.body = some c) (hn : (fn.name == "runtime.NumGoroutine") = false)
    (h : ACalls P f xs (.bool true)) (D : Nat → Prop) (w : World) (hD : ∀ b, D b → b < w.heap.size) (hr : RL w.heap D noMu xs vs) (hg : GOk w := by trivial) : Calls P f vs w fun e w' => e = .returned (.bool true) ∧ Below w.heap.size w w' := by
  have h := h D w vs hD hr hg
  unfold CallTo at h
  rw [callFunc_run hf hn hb] at h
  refine h.mono ?_
  rintro e w' ⟨v, D', rfl, hw, _, _, r⟩
  cases r
  exact ⟨rfl, hw⟩
theorem rl_nil {h : Array Obj} {D : Nat → Prop} : RL h D noMu [] #[] := ⟨rfl, fun i x v h => by simp at h⟩
theorem rl_of {h : Array Obj} {D : Nat → Prop} {xs : List AV} {vs : Array Value} {x : AV} {v : Value} (hx : R h D noMu x v) (hr : RL h D noMu xs ⟨vs.toList⟩) : RL h D noMu (x :: xs) ⟨v :: vs.toList⟩ := by
  obtain ⟨h1, h2⟩ := hr
  refine ⟨by simpa using h1, ?_⟩
  intro i y u hy hu
  cases i with
  | zero => simp at hy hu; subst hy hu; exact hx
  | succ i => simp at hy hu; exact h2 i y u hy (by simpa using hu)
theorem over1 (q : Nat) (k : IntKind) (v : Int) (f : Nat → Int) (i j : Nat) (h : j < 1) : over std q 0 1 [.int k v] (fun i _ => .int k (f i)) i j = .int k (if i = q then v else f i) := by
  rw [over_get, if_pos (by omega)]
  have h0 : j = 0 := by omega
  subst h0
  by_cases e : i = q
  · subst e; simp [sel1, lget, L3, std, beq_same]
  · simp [beq_no e, sel1, lget, L3, std, e]
theorem blt_t {p q : Nat} (h : p < q) : nblt p q = true := by rw [nblt_eq]; exact h
theorem blt_f {p q : Nat} (h : ¬ p < q) : nblt p q = false := by rw [Bool.eq_false_iff, ne_eq, nblt_eq]; exact h
theorem agg_r {h : Array Obj} {D : Nat → Prop} {xs : List AV} {vs : Array Value} (hr : RL h D noMu xs vs) (h1 : ∀ (i : Nat) v, vs[i]? = some v → one v) : R h D noMu (.agg xs) (.agg vs) := .agg xs vs hr.1 h1 hr.2
theorem lst_same {h : Array Obj} {D : Nat → Prop} {μ : Mu} {sz n : Nat} {g g' : Nat → Nat → AV} {v : Value} (r : R h D μ (.lst sz n g) v) (e : ∀ i j, i < n → j < sz → g i j = g' i j) : R h D μ (.lst sz n g') v := by
  cases r with
  | lst0 sz get a cap hn => exact .lst0 _ _ _ _ hn
  | lst sz n get b o cap vs hD hc hv h1 hr => exact .lst _ _ _ b o cap vs hD hc hv h1 (fun i j hi hj => by rw [← e i j hi hj]; exact hr i j hi hj)
set_option linter.defProp false in
/-- The leaf operations, all together (one name for the simplifier). -/
def sySet := And.intro @ilt_t (And.intro @ilt_f (And.intro @ile_t (And.intro @ile_f (And.intro @ieq_t (And.intro @ieq_f (And.intro @ine_t (And.intro @ine_f (And.intro @seq_t (And.intro @seq_f (And.intro @inR_t (And.intro @inS_t (And.intro @inC_t (And.intro @mkOk_t (And.intro @roomOk_t (And.intro @catOk_t (And.intro @fits_bool (And.intro @fits_int (And.intro @fits_str (And.intro @fits1_bool (And.intro @fits1_int (And.intro @fits1_str (And.intro @fits_tup (And.intro @fitsL_cons (And.intro @fitsL_nil (And.intro @slen_is (And.intro @scat_is (And.intro @ssub_is (And.intro @sidx_is (And.intro @natI_is (And.intro @imin_is (And.intro @imax_is (And.intro @Bool.not_eq_true' (And.intro @Bool.not_eq_false' (And.intro @Bool.and_eq_true (And.intro @Bool.and_eq_false_imp (And.intro @Bool.or_eq_true (And.intro @Bool.or_eq_false_iff (And.intro @Bool.not_true (And.intro @Bool.not_false (And.intro @w_i64 (And.intro @w_i32 (And.intro @w_u64 (And.intro @w_u32 (And.intro @w_u16 (And.intro @w_u8 (And.intro @Int.zero_add (And.intro @lenN_is (And.intro @fits3_is (And.intro @nadd0 (And.intro @fits1_agg0 (And.intro @fits1_aggi (And.intro @fits1_aggs (And.intro @fits1_aggb (And.intro @fits_agg0 (And.intro @fits_aggi (And.intro @fits_aggs (And.intro @fits_aggb (And.intro @fits1_lst (And.intro @fits_lst (And.intro @fits1_nils (And.intro @fits_nils (And.intro @fits1_aggl (And.intro @fits1_aggn (And.intro @fits1_arr @fits_arr))))))))))))))))))))))))))))))))))))))))))))))))))))))))))))))))
end Sy
end Go.Proofs.Ythlggigjnpldcaa
namespace Go.Proofs.Ythlggigjnpldcaa
namespace Sy
open Go Go.RowKit
set_option linter.unusedSimpArgs false
set_option linter.unusedVariables false
set_option linter.unusedSectionVars false

def pins : List (Nat × Ob) → List Nat
  | [] => []
  | (n, _) :: r => match isPin n with | true => n :: pins r | false => pins r
def allPin : List (Nat × Ob) → Bool
  | [] => true
  | (n, _) :: r => match isPin n with | true => allPin r | false => false
section
variable (T : TT) (L : Seal) (S : Sums) (lo lb : Nat → St → Option Ann)
def endM (rts : List AV) (O1 : List (Nat × Ob)) (rs : List ResultVar) (s : St) : Tree :=
  match resVs T s rs with
  | some vs => match nbeq (llen vs) (llen rts) with
    | true => meetT ⟨numb 0 vs, s.objs, s.ice, []⟩ ⟨numb 0 rts, O1, [], []⟩ (pins O1) .yes
    | false => .fail 263
  | none => .fail 264
def finM (rts : List AV) (O1 : List (Nat × Ob)) (rs : List ResultVar) : K := fun e s => match e with
  | .normal => endM T rts O1 rs s
  | .ret => endM T rts O1 rs s
  | _ => .fail 262
def runM (n : Nat) (f : Func) (xs : List AV) (O : List (Nat × Ob)) (rts : List AV) (O1 : List (Nat × Ob)) : Tree :=
  match f.body with
  | some c => run T L S lo (scopeT lb (pass T L S lo lb n)) noL c ⟨numb 0 xs, O, [], []⟩ (finM T rts O1 f.results.toList)
  | none => .fail 270
end
def resOf : List AV → AV
  | [r] => r
  | rs => .tup rs
theorem allPin_get : ∀ {O : List (Nat × Ob)}, allPin O = true → ∀ n, aget O n ≠ none → isPin n = true
  | [], _, n, h => by simp [aget] at h
  | (m, o) :: r, e, n, h => by
    unfold allPin at e
    unfold aget at h
    split at e
    · rename_i hp
      split at h
      · rename_i hb; rw [← beq_eq hb]; exact hp
      · exact allPin_get e n h
    · cases e

/-- **A function** that turns its caller's blocks: if the executor's run of it ends as told wherever it ends, it does so. -/
theorem mcalls_of {P : Program} {T : TT} {S : Sums} {lo lb : Nat → St → Option Ann} {n : Nat} {f : FuncId} {fn : Func} {c : Code} {xs : List AV} {O : List (Nat × Ob)} {rts : List AV} {O1 : List (Nat × Ob)} (hf : P.funcs[f]? = some fn) (hb : fn.body = some c) (hn : (fn.name == "runtime.NumGoroutine") = false)
    (hc : codeOk fn.ntmps c = true) (hx : (nble xs.length fn.ntmps && nble fn.ntmps 500000 && nble fn.results.size 500000 && allPin O) = true) (hT : TsOk P T) (hS : SumsOk P S) (hm : P.follows .mixedOrders = true) {Q : AV → Prop} (h : Sat P Q (runM T std S lo lb n fn xs O rts O1)) : MCalls P f xs O (resOf rts) O1 := by
  intro D w μ vs hD hxs hdom hobs hinj hown hg hgb
  rw [Bool.and_eq_true, Bool.and_eq_true, Bool.and_eq_true] at hx
  obtain ⟨⟨⟨hx, hnb⟩, hrb⟩, hpin⟩ := hx
  have hx := ble_le hx
  have hnb := ble_le hnb
  have hrb := ble_le hrb
  unfold CallTo
  rw [callFunc_run hf hn hb]
  simp only
  refine calls_of_wp hf hb ?_
  unfold runM at h
  rw [hb] at h
  refine code_go (base := w.heap.size) (M := ⟨fun b => ∃ n z, μ n = some (some (b, z)), D, fun n => (μ n).getD none⟩) (W := w) hT hS hm hc ⟨⟨D, μ, ?_⟩, fun t b ht => by simp [aget] at ht⟩ h (fun e s a w' hs h' => ?_)
  · exact {
      os := rfl, tape := rfl, output := rfl, size := Nat.le_refl _, bs := Nat.le_refl _, old := fun _ _ _ => rfl, defers := rfl
      tmps := by
        rw [hxs.1] at hx
        simp; omega
      slots := fun t v hv => by
        have hv : aget (numb 0 xs) t = some v := hv
        rw [aget_numb, if_pos (by omega), Nat.sub_zero] at hv
        have hlt : t < vs.size := by rw [← hxs.1]; exact (List.getElem?_eq_some_iff.1 hv).1
        have h1 : vs[t]? = some vs[t] := by simp [hlt]
        have h2 : (vs ++ Array.replicate (fn.ntmps - vs.size) undef).getD t undef = vs[t] := by
          rw [Array.getD_eq_getD_getElem?, Array.getElem?_append_left hlt, h1]; rfl
        rw [h2]
        exact hxs.2 t v vs[t] hv h1
      dlt := hD, low := fun b hb _ => .inl hb, dom := hdom, obs := hobs
      inj := fun id id' b z z' o o' h1 h2 _ _ _ _ => hinj id id' b z z' h1 h2
      own := fun id b z h1 => ⟨(hown id b z h1).1, .inr ⟨id, z, h1⟩⟩
      kd := fun id b z o h1 _ _ => ⟨fun hx => by simp [lhas] at hx, fun _ => (hown id b z h1).2⟩
      icy := fun id h => by simp [lhas] at h
      ntb := hnb
      pin := fun id y _ hy => by show y = (μ id).getD none; rw [hy]; rfl
      gl := ⟨hg, GOk_size hg, fun b ⟨n, z, hn⟩ => hgb n b z hn⟩ }
  · obtain ⟨⟨D1, μ1, S1⟩, _⟩ := hs
    have key : Sat P Q (endM T rts O1 fn.results.toList s) → a.defers = [] ∧ ∃ v, (results fn a.tmps).run P w' = .ok v w' ∧ ∃ v' D' μ', MEnd D w μ O O1 (resOf rts) (Ending.returned v) v' w' D' μ' := by
      intro h'
      unfold endM at h'
      split at h'
      · rename_i vs1 hvs
        split at h'
        · rename_i hlen
          have hlen := beq_eq hlen
          rw [llen_eq, llen_eq] at hlen
          obtain ⟨l1, us, h1, h2⟩ := ress_go S1 hT hvs
          have hres := results_run (P := P) (w := w') (fn := fn) (tmps := a.tmps) h1
          have hk : vs1.length = fn.results.size := by rw [l1, Array.length_toList]
          have hut : ∀ t, t < fn.results.size → (((List.range fn.results.size).map us).toArray).getD t undef = us t := by
            intro t ht
            rw [Array.getD_eq_getD_getElem?]
            simp [ht]
          have hs1 : SimS w.heap.size ⟨fun b => ∃ n z, μ n = some (some (b, z)), D, fun n => (μ n).getD none⟩ w fn.results.size ⟨numb 0 vs1, s.objs, s.ice, []⟩ ⟨((List.range fn.results.size).map us).toArray, []⟩ w' :=
            ⟨⟨D1, μ1, {
              os := S1.os, tape := S1.tape, output := S1.output, size := S1.size, bs := S1.bs, old := S1.old, defers := rfl
              tmps := by simp
              slots := fun t v hv => by
                have hv : aget (numb 0 vs1) t = some v := hv
                rw [aget_numb, if_pos (by omega), Nat.sub_zero] at hv
                have ht := (List.getElem?_eq_some_iff.1 hv).1
                rw [hut t (by omega)]
                exact h2 t v hv
              dlt := S1.dlt, low := S1.low, dom := S1.dom, obs := S1.obs, inj := S1.inj, own := S1.own, kd := S1.kd, icy := S1.icy, ntb := hrb, pin := S1.pin, gl := S1.gl }⟩, fun t b ht => by simp [aget] at ht⟩
          obtain ⟨⟨⟨D2, μ2, S2⟩, _⟩, _⟩ := meet_go hs1 h' rfl
          refine ⟨S1.defers, _, hres, (if fn.results.size = 1 then us 0 else .tuple ((List.range fn.results.size).map us).toArray), fun b => D b ∨ D2 b, μ2, ?_⟩
          exact {
            ret := rfl, os := S2.os, tape := S2.tape, output := S2.output, size := S2.size
            old := fun b h1 h2 => S2.old b h1 fun ⟨n, z, hn⟩ => h2 n z hn
            up := fun b hb => .inl hb
            dn := fun b hb => by
              rcases hb with hb | hb
              · exact .inl hb
              · by_cases hlt : b < w.heap.size
                · rcases S2.low b hb hlt with q | q
                  · exact .inl q
                  · exact .inr (.inr q)
                · exact .inr (.inl ⟨by omega, S2.dlt b hb⟩)
            dom := S2.dom
            obs := fun n o x ho hx => (S2.obs n o x ho hx).mono (fun _ _ => rfl) (fun _ h => .inr h) (fun _ _ h => h) (fun _ _ _ _ => rfl)
            inj := fun n n' b z z' h1 h2 => by
              have g1 : aget O1 n ≠ none := fun e => by rw [(S2.dom n).2 e] at h1; cases h1
              have g2 : aget O1 n' ≠ none := fun e => by rw [(S2.dom n').2 e] at h2; cases h2
              obtain ⟨o1, q1⟩ := Option.ne_none_iff_exists'.1 g1
              obtain ⟨o2, q2⟩ := Option.ne_none_iff_exists'.1 g2
              exact S2.inj n n' b z z' o1 o2 h1 h2 q1 q2 (meet_live hs1 h' n o1 q1) (meet_live hs1 h' n' o2 q2)
            own := fun n b z h1 => by
              have g1 : aget O1 n ≠ none := fun e => by rw [(S2.dom n).2 e] at h1; cases h1
              obtain ⟨o1, q1⟩ := Option.ne_none_iff_exists'.1 g1
              have k := (S2.kd n b z o1 h1 q1 (meet_live hs1 h' n o1 q1)).2 rfl
              obtain ⟨p1, p2⟩ := S2.own n b z h1
              refine ⟨p1, ?_, ?_⟩
              · rintro (hb | hb)
                · rcases p2 with p2 | ⟨m, z2, p2⟩
                  · have := hD b hb; omega
                  · exact (hown m b z2 p2).2 hb
                · exact k hb
              · rcases p2 with p2 | ⟨m, z2, p2⟩
                · exact .inl p2
                · exact .inr ⟨m, z2, p2⟩
            keep := fun n hn hn1 => by
              obtain ⟨y, hy⟩ := Option.ne_none_iff_exists'.1 (fun e => hn1 ((S2.dom n).1 e) : μ2 n ≠ none)
              have := S2.pin n y (allPin_get hpin n hn) hy
              have h3 : μ n ≠ none := fun e => hn ((hdom n).1 e)
              obtain ⟨y0, hy0⟩ := Option.ne_none_iff_exists'.1 h3
              have h4 : y = (μ n).getD none := this
              rw [hy0] at h4
              rw [hy, hy0, h4]; rfl
            val := by
              have each : ∀ (i : Nat) r, rts[i]? = some r → R w'.heap (fun b => D b ∨ D2 b) μ2 r (us i) := by
                intro i r hr
                have hlt : i < fn.results.size := by
                  have := (List.getElem?_eq_some_iff.1 hr).1
                  omega
                have := S2.slots i r (by show aget (numb 0 rts) i = some r; rw [aget_numb, if_pos (by omega), Nat.sub_zero]; exact hr)
                have h3 := hut i hlt
                have this : R w'.heap D2 μ2 r ((((List.range fn.results.size).map us).toArray).getD i undef) := this
                rw [h3] at this
                exact this.mono (fun _ _ => rfl) (fun _ h => .inr h) (fun _ _ h => h)
              unfold resOf
              split
              · rename_i r
                have hsz : fn.results.size = 1 := by rw [← hk, hlen]; rfl
                rw [if_pos hsz]
                exact each 0 _ rfl
              · rename_i hne
                have hsz : ¬ fn.results.size = 1 := by
                  rw [← hk, hlen]
                  intro h1
                  obtain ⟨v, hv⟩ := List.length_eq_one_iff.1 h1
                  exact hne v hv
                rw [if_neg hsz]
                refine .tup _ _ (by simp; omega) fun i v x hv hx => ?_
                have hlt : i < fn.results.size := by
                  have := (List.getElem?_eq_some_iff.1 hv).1
                  omega
                simp [hlt] at hx
                subst hx
                exact each i v hv }
        · cases h'
      · cases h'
    cases e with
    | normal => exact key h'
    | ret => exact key h'
    | exit id => cases h'
    | goto l => cases h'
end Sy
end Go.Proofs.Ythlggigjnpldcaa
namespace Go.Proofs.Ythlggigjnpldcaa
namespace Sy
open Go Go.RowKit
set_option maxRecDepth 100000
set_option linter.unusedSimpArgs false

section
variable {P : Program} {Q : AV → Prop}
theorem sat_need {b : Bool} {k : Tree} : Sat P Q (.need b k) ↔ b = true ∧ Sat P Q k := ⟨fun h => by cases h with | need h hk => exact ⟨h, hk⟩, fun h => .need h.1 h.2⟩
theorem sat_must {p : Prop} {k : Tree} : Sat P Q (.must p k) ↔ p ∧ Sat P Q k := ⟨fun h => by cases h with | must h hk => exact ⟨h, hk⟩, fun h => .must h.1 h.2⟩
theorem sat_ite {b : Bool} {t e : Tree} : Sat P Q (.ite b t e) ↔ (b = true → Sat P Q t) ∧ (b = false → Sat P Q e) := ⟨fun h => by cases h with | ite h hk => exact ⟨h, hk⟩, fun h => .ite h.1 h.2⟩
theorem sat_done {r : AV} : Sat P Q (.done r) ↔ Q r := ⟨fun h => by cases h with | done h => exact h, fun h => .done h⟩
theorem sat_yes : Sat P Q .yes ↔ True := ⟨fun _ => trivial, fun _ => .yes⟩
theorem sat_ex {X : Type} {f : X → Tree} : Sat P Q (.ex X f) ↔ ∃ x, Sat P Q (f x) := ⟨fun h => by cases h with | ex x h => exact ⟨x, h⟩, fun ⟨x, h⟩ => .ex x h⟩
theorem sat_all {X : Type} {f : X → Tree} : Sat P Q (.all X f) ↔ ∀ x, Sat P Q (f x) := ⟨fun h => by cases h with | all h => exact h, fun h => .all h⟩
theorem sat_sup {p : Prop} {k : Tree} : Sat P Q (.sup p k) ↔ (p → Sat P Q k) := ⟨fun h => by cases h with | sup h => exact h, fun h => .sup h⟩
theorem sat_and {a b : Tree} : Sat P Q (.and a b) ↔ Sat P Q a ∧ Sat P Q b := ⟨fun h => by cases h with | and h hk => exact ⟨h, hk⟩, fun h => .and h.1 h.2⟩
theorem sat_fail {n : Nat} : Sat P Q (.fail n) ↔ False := ⟨fun h => (by cases h), fun h => h.elim⟩
end

/-- A function's answer, the leaf operations sealed. -/
theorem acalls_L {P : Program} {T : TT} {S : Seal → Sums} {lo lb : Seal → Nat → St → Option Ann} (n : Nat) {f : FuncId} {fn : Func} {c : Code} {xs : List AV} {r : AV} (hf : P.funcs[f]? = some fn) (hb : fn.body = some c) (hn : (fn.name == "runtime.NumGoroutine") = false)
    (hc : codeOk fn.ntmps c = true) (hx : (nble xs.length fn.ntmps && nble fn.ntmps 500000) = true) (hT : TsOk P T) (hS : SumsOk P (S std)) (hm : P.follows .mixedOrders = true)
    (h : ∀ (L : Seal) (P' : Program) (Q' : AV → Prop), @L = @std → P' = P → Q' = fits r → Sat P' Q' (runF T L (S L) (lo L) (lb L) n fn xs)) : ACalls P f xs r :=
  acalls_of (lo := lo std) (lb := lb std) hf hb hn hc hx hT hS hm (h std _ _ rfl rfl rfl)

/-- The same, the arguments sealed too. -/
theorem acalls_L' {P : Program} {T : TT} {S : Seal → Sums} {lo lb : Seal → Nat → St → Option Ann} (n : Nat) {f : FuncId} {fn : Func} {c : Code} {xs : Seal → List AV} {r : AV} (hf : P.funcs[f]? = some fn) (hb : fn.body = some c) (hn : (fn.name == "runtime.NumGoroutine") = false)
    (hc : codeOk fn.ntmps c = true) (hx : (nble (xs std).length fn.ntmps && nble fn.ntmps 500000) = true) (hT : TsOk P T) (hS : SumsOk P (S std)) (hm : P.follows .mixedOrders = true)
    (h : ∀ (L : Seal) (P' : Program) (Q' : AV → Prop), @L = @std → P' = P → Q' = fits r → Sat P' Q' (runF T L (S L) (lo L) (lb L) n fn (xs L))) : ACalls P f (xs std) r :=
  acalls_of (lo := lo std) (lb := lb std) hf hb hn hc hx hT hS hm (h std _ _ rfl rfl rfl)

/-- The same of a function that turns its caller's blocks. -/
theorem mcalls_L {P : Program} {T : TT} {S : Seal → Sums} {lo lb : Seal → Nat → St → Option Ann} (n : Nat) {f : FuncId} {fn : Func} {c : Code} {xs rts : Seal → List AV} {O O1 : Seal → List (Nat × Ob)} (hf : P.funcs[f]? = some fn) (hb : fn.body = some c) (hn : (fn.name == "runtime.NumGoroutine") = false)
    (hc : codeOk fn.ntmps c = true) (hx : (nble (xs std).length fn.ntmps && nble fn.ntmps 500000 && nble fn.results.size 500000 && allPin (O std)) = true) (hT : TsOk P T) (hS : SumsOk P (S std)) (hm : P.follows .mixedOrders = true)
    (h : ∀ (L : Seal) (P' : Program) (Q' : AV → Prop), @L = @std → P' = P → Q' = (fun _ => True) → Sat P' Q' (runM T L (S L) (lo L) (lb L) n fn (xs L) (O L) (rts L) (O1 L))) : MCalls P f (xs std) (O std) (resOf (rts std)) (O1 std) :=
  mcalls_of (lo := lo std) (lb := lb std) hf hb hn hc hx hT hS hm (h std _ _ rfl rfl rfl)

def noS : Seal → Sums := fun _ => ⟨fun _ _ => none, fun _ => none⟩
theorem noS_ok (P : Program) : SumsOk P (noS std) := ⟨fun f xs p r h => by (cases h), fun f m h => by cases h⟩
def noA : Seal → Nat → St → Option Ann := fun _ _ _ => none

def tt : TT :=
 (.node (.node (.node (.node (.node (.node (.node (.node .leaf 1 ⟨1, false, [.nilf], .func, false, none, false, false⟩
        .leaf) 2 ⟨1, false, [.int .i64 0], .int .i64, false, none, false, false⟩
       .leaf) 3 ⟨1, false, [.int .i64 0], .int .i64, false, none, false, false⟩
      (.node (.node .leaf 4 ⟨1, false, [.bool false], .bool, false, none, false, false⟩
        .leaf) 5 ⟨1, false, [.int .u8 0], .int .u8, false, none, false, false⟩
       .leaf)) 6 ⟨1, false, [.int .u8 0], .int .u8, false, none, false, false⟩
     (.node (.node (.node .leaf 7 ⟨4, true, [.int .i64 0, .int .i64 0, .bool false, .int .u8 0], .struct [(0, 2), (1, 3), (2, 4), (3, 6)], true, none, false, false⟩
        .leaf) 8 ⟨4, true, [.int .i64 0, .int .i64 0, .bool false, .int .u8 0], .struct [(0, 2), (1, 3), (2, 4), (3, 6)], true, none, false, false⟩
       .leaf) 9 ⟨1, false, [.str []], .str, false, none, false, false⟩
      (.node .leaf 10 ⟨1, false, [.str []], .str, false, none, false, false⟩
       .leaf))) 11 ⟨1, false, [.str []], .str, false, none, false, false⟩
    (.node (.node (.node (.node .leaf 12 ⟨1, false, [.int .u64 0], .int .u64, false, none, false, false⟩
        .leaf) 13 ⟨2, true, [.str [], .int .u64 0], .struct [(0, 9), (1, 12)], false, none, false, false⟩
       .leaf) 14 ⟨2, true, [.str [], .int .u64 0], .struct [(0, 9), (1, 12)], false, none, false, false⟩
      (.node (.node .leaf 15 ⟨1, false, [.nilp], .ptr, false, some 178, false, false⟩
        .leaf) 16 ⟨1, false, [.nilp], .ptr, false, some 181, false, false⟩
       .leaf)) 17 ⟨1, false, [.nilp], .ptr, false, some 188, false, false⟩
     (.node (.node (.node .leaf 18 ⟨1, true, [.nilp], .struct [(0, 17)], false, none, false, false⟩
        .leaf) 19 ⟨1, true, [.nilp], .struct [(0, 17)], false, none, false, false⟩
       .leaf) 20 ⟨1, false, [.nili], .iface, false, none, false, false⟩
      (.node .leaf 21 ⟨1, false, [.int .i32 0], .int .i32, false, none, false, false⟩
       .leaf)))) 22 ⟨1, false, [.nils], .slice 100 4 56, false, none, false, false⟩
   (.node (.node (.node (.node (.node .leaf 23 ⟨1, false, [.nilf], .func, false, none, false, false⟩
        .leaf) 24 ⟨1, false, [.int .u64 0], .int .u64, false, none, false, false⟩
       .leaf) 25 ⟨1, false, [.nils], .slice 27 4 56, false, none, false, false⟩
      (.node (.node .leaf 26 ⟨4, true, [.int .i64 0, .int .u64 0, .str [], .nils], .struct [(0, 3), (1, 24), (2, 9), (3, 25)], false, none, false, false⟩
        .leaf) 27 ⟨4, true, [.int .i64 0, .int .u64 0, .str [], .nils], .struct [(0, 3), (1, 24), (2, 9), (3, 25)], false, none, false, false⟩
       .leaf)) 29 ⟨1, false, [.nilf], .func, false, none, false, false⟩
     (.node (.node (.node .leaf 30 ⟨1, false, [.int .i64 0], .int .i64, false, none, false, false⟩
        .leaf) 32 ⟨1, false, [.nilf], .func, false, none, false, false⟩
       .leaf) 34 ⟨1, false, [.nilf], .func, false, none, false, false⟩
      (.node .leaf 35 ⟨1, false, [.nils], .slice 37 4 56, false, none, false, false⟩
       .leaf))) 36 ⟨4, true, [.int .i64 0, .int .u64 0, .str [], .nils], .struct [(0, 3), (1, 24), (2, 9), (3, 35)], false, none, false, false⟩
    (.node (.node (.node (.node .leaf 37 ⟨4, true, [.int .i64 0, .int .u64 0, .str [], .nils], .struct [(0, 3), (1, 24), (2, 9), (3, 35)], false, none, false, false⟩
        .leaf) 38 ⟨1, false, [.nilf], .func, false, none, false, false⟩
       .leaf) 39 ⟨1, false, [.nilf], .func, false, none, false, false⟩
      (.node .leaf 40 ⟨1, false, [.nilf], .func, false, none, false, false⟩
       .leaf)) 41 ⟨1, false, [.nilf], .func, false, none, false, false⟩
     (.node (.node (.node .leaf 42 ⟨1, false, [.nilf], .func, false, none, false, false⟩
        .leaf) 44 ⟨1, false, [.nilf], .func, false, none, false, false⟩
       .leaf) 46 ⟨1, false, [.nilf], .func, false, none, false, false⟩
      (.node .leaf 47 ⟨1, false, [.nilf], .func, false, none, false, false⟩
       .leaf))))) 48 ⟨1, false, [.nilf], .func, false, none, false, false⟩
  (.node (.node (.node (.node (.node (.node .leaf 49 ⟨1, false, [.nilf], .func, false, none, false, false⟩
        .leaf) 50 ⟨1, false, [.int .u32 0], .int .u32, false, none, false, false⟩
       .leaf) 51 ⟨64, true, [.int .u32 0, .int .u32 0, .int .u32 0, .int .u32 0, .int .u32 0, .int .u32 0, .int .u32 0, .int .u32 0, .int .u32 0, .int .u32 0, .int .u32 0, .int .u32 0, .int .u32 0, .int .u32 0, .int .u32 0, .int .u32 0, .int .u32 0, .int .u32 0, .int .u32 0, .int .u32 0, .int .u32 0, .int .u32 0, .int .u32 0, .int .u32 0, .int .u32 0, .int .u32 0, .int .u32 0, .int .u32 0, .int .u32 0, .int .u32 0, .int .u32 0, .int .u32 0, .int .u32 0, .int .u32 0, .int .u32 0, .int .u32 0, .int .u32 0, .int .u32 0, .int .u32 0, .int .u32 0, .int .u32 0, .int .u32 0, .int .u32 0, .int .u32 0, .int .u32 0, .int .u32 0, .int .u32 0, .int .u32 0, .int .u32 0, .int .u32 0, .int .u32 0, .int .u32 0, .int .u32 0, .int .u32 0, .int .u32 0, .int .u32 0, .int .u32 0, .int .u32 0, .int .u32 0, .int .u32 0, .int .u32 0, .int .u32 0, .int .u32 0, .int .u32 0], .arr 64 50 1, true, none, false, false⟩
      (.node (.node .leaf 52 ⟨1, false, [.nilf], .func, false, none, false, false⟩
        .leaf) 53 ⟨1, false, [.nils], .slice 50 1 4, false, none, false, false⟩
       .leaf)) 54 ⟨1, false, [.nilf], .func, false, none, false, false⟩
     (.node (.node (.node .leaf 55 ⟨1, false, [.nilf], .func, false, none, false, false⟩
        .leaf) 56 ⟨1, false, [.nilf], .func, false, none, false, false⟩
       .leaf) 57 ⟨1, false, [.int .u16 0], .int .u16, false, none, false, false⟩
      (.node .leaf 58 ⟨1, false, [.nilf], .func, false, none, false, false⟩
       .leaf))) 59 ⟨32, true, [.int .u8 0, .int .u8 0, .int .u8 0, .int .u8 0, .int .u8 0, .int .u8 0, .int .u8 0, .int .u8 0, .int .u8 0, .int .u8 0, .int .u8 0, .int .u8 0, .int .u8 0, .int .u8 0, .int .u8 0, .int .u8 0, .int .u8 0, .int .u8 0, .int .u8 0, .int .u8 0, .int .u8 0, .int .u8 0, .int .u8 0, .int .u8 0, .int .u8 0, .int .u8 0, .int .u8 0, .int .u8 0, .int .u8 0, .int .u8 0, .int .u8 0, .int .u8 0], .arr 32 5 1, true, none, false, false⟩
    (.node (.node (.node (.node .leaf 60 ⟨32, true, [.int .u8 0, .int .u8 0, .int .u8 0, .int .u8 0, .int .u8 0, .int .u8 0, .int .u8 0, .int .u8 0, .int .u8 0, .int .u8 0, .int .u8 0, .int .u8 0, .int .u8 0, .int .u8 0, .int .u8 0, .int .u8 0, .int .u8 0, .int .u8 0, .int .u8 0, .int .u8 0, .int .u8 0, .int .u8 0, .int .u8 0, .int .u8 0, .int .u8 0, .int .u8 0, .int .u8 0, .int .u8 0, .int .u8 0, .int .u8 0, .int .u8 0, .int .u8 0], .arr 32 5 1, true, none, false, false⟩
        .leaf) 61 ⟨1, false, [.nilf], .func, false, none, false, false⟩
       .leaf) 62 ⟨1, false, [.nilf], .func, false, none, false, false⟩
      (.node .leaf 63 ⟨1, false, [.nils], .slice 5 1 1, false, none, false, false⟩
       .leaf)) 64 ⟨16, true, [.int .u8 0, .int .u8 0, .int .u8 0, .int .u8 0, .int .u8 0, .int .u8 0, .int .u8 0, .int .u8 0, .int .u8 0, .int .u8 0, .int .u8 0, .int .u8 0, .int .u8 0, .int .u8 0, .int .u8 0, .int .u8 0], .arr 16 5 1, true, none, false, false⟩
     (.node (.node (.node .leaf 65 ⟨16, true, [.int .u8 0, .int .u8 0, .int .u8 0, .int .u8 0, .int .u8 0, .int .u8 0, .int .u8 0, .int .u8 0, .int .u8 0, .int .u8 0, .int .u8 0, .int .u8 0, .int .u8 0, .int .u8 0, .int .u8 0, .int .u8 0], .arr 16 5 1, true, none, false, false⟩
        .leaf) 66 ⟨1, false, [.nilf], .func, false, none, false, false⟩
       .leaf) 67 ⟨1, false, [.nilf], .func, false, none, false, false⟩
      (.node .leaf 68 ⟨1, false, [.nils], .slice 24 1 8, false, none, false, false⟩
       .leaf)))) 69 ⟨1, false, [.nilf], .func, false, none, false, false⟩
   (.node (.node (.node (.node (.node .leaf 70 ⟨1, false, [.nilf], .func, false, none, false, false⟩
        .leaf) 71 ⟨1, false, [.nils], .slice 9 1 16, false, none, false, false⟩
       .leaf) 73 ⟨1, false, [.nilf], .func, false, none, false, false⟩
      (.node (.node .leaf 75 ⟨1, false, [.nilf], .func, false, none, false, false⟩
        .leaf) 76 ⟨1, false, [.nilf], .func, false, none, false, false⟩
       .leaf)) 77 ⟨1, false, [.nilf], .func, false, none, false, false⟩
     (.node (.node (.node .leaf 78 ⟨1, false, [.nils], .slice 88 7 72, false, none, false, false⟩
        .leaf) 79 ⟨3, true, [.int .u64 0, .int .u64 0, .int .i64 0], .struct [(0, 24), (1, 24), (2, 3)], true, none, false, false⟩
       .leaf) 80 ⟨3, true, [.int .u64 0, .int .u64 0, .int .i64 0], .struct [(0, 24), (1, 24), (2, 3)], true, none, false, false⟩
      (.node .leaf 81 ⟨9, true, [.int .u64 0, .int .u64 0, .int .u64 0, .int .u64 0, .str [], .bool false, .int .u64 0, .int .u64 0, .int .i64 0], .struct [(0, 24), (1, 24), (2, 24), (3, 24), (4, 9), (5, 4), (6, 80)], false, none, false, false⟩
       .leaf))) 82 ⟨9, true, [.int .u64 0, .int .u64 0, .int .u64 0, .int .u64 0, .str [], .bool false, .int .u64 0, .int .u64 0, .int .i64 0], .struct [(0, 24), (1, 24), (2, 24), (3, 24), (4, 9), (5, 4), (6, 80)], false, none, false, false⟩
    (.node (.node (.node (.node .leaf 84 ⟨1, false, [.nilf], .func, false, none, false, false⟩
        .leaf) 85 ⟨1, false, [.nilf], .func, false, none, false, false⟩
       .leaf) 86 ⟨1, false, [.nilm], .map 24 9, false, none, false, false⟩
      (.node .leaf 87 ⟨7, true, [.int .u8 0, .int .u64 0, .int .u64 0, .int .u64 0, .str [], .str [], .int .u8 0], .struct [(0, 5), (1, 24), (2, 24), (3, 24), (4, 9), (5, 9), (6, 5)], true, none, false, false⟩
       .leaf)) 88 ⟨7, true, [.int .u8 0, .int .u64 0, .int .u64 0, .int .u64 0, .str [], .str [], .int .u8 0], .struct [(0, 5), (1, 24), (2, 24), (3, 24), (4, 9), (5, 9), (6, 5)], true, none, false, false⟩
     (.node (.node (.node .leaf 89 ⟨3, true, [.int .u64 0, .int .u64 0, .str []], .struct [(0, 24), (1, 24), (2, 9)], true, none, false, false⟩
        .leaf) 90 ⟨3, true, [.int .u64 0, .int .u64 0, .str []], .struct [(0, 24), (1, 24), (2, 9)], true, none, false, false⟩
       .leaf) 92 ⟨1, false, [.nilf], .func, false, none, false, false⟩
      (.node .leaf 93 ⟨1, false, [.nilf], .func, false, none, false, false⟩
       .leaf)))))) 94 ⟨1, false, [.nilf], .func, false, none, false, false⟩
 (.node (.node (.node (.node (.node (.node (.node .leaf 95 ⟨1, false, [.nilf], .func, false, none, false, false⟩
        .leaf) 96 ⟨1, false, [.nilf], .func, false, none, false, false⟩
       .leaf) 97 ⟨1, false, [.nilf], .func, false, none, false, false⟩
      (.node (.node .leaf 98 ⟨1, false, [.nils], .slice 3 1 8, false, none, false, false⟩
        .leaf) 99 ⟨4, true, [.int .i64 0, .int .u64 0, .str [], .nils], .struct [(0, 3), (1, 24), (2, 9), (3, 63)], false, none, false, false⟩
       .leaf)) 100 ⟨4, true, [.int .i64 0, .int .u64 0, .str [], .nils], .struct [(0, 3), (1, 24), (2, 9), (3, 63)], false, none, false, false⟩
     (.node (.node (.node .leaf 101 ⟨1, false, [.nilp], .ptr, false, some 103, false, false⟩
        .leaf) 102 ⟨2, true, [.nilp, .nils], .struct [(0, 101), (1, 63)], false, none, false, false⟩
       .leaf) 103 ⟨2, true, [.nilp, .nils], .struct [(0, 101), (1, 63)], false, none, false, true⟩
      (.node .leaf 104 ⟨1, false, [.nilf], .func, false, none, false, false⟩
       .leaf))) 105 ⟨1, false, [.nilf], .func, false, none, false, false⟩
    (.node (.node (.node (.node .leaf 106 ⟨1, false, [.nilf], .func, false, none, false, false⟩
        .leaf) 107 ⟨1, false, [.nilf], .func, false, none, false, false⟩
       .leaf) 108 ⟨1, false, [.nilf], .func, false, none, false, false⟩
      (.node .leaf 109 ⟨1, false, [.nilf], .func, false, none, false, false⟩
       .leaf)) 110 ⟨1, false, [.nilf], .func, false, none, false, false⟩
     (.node (.node (.node .leaf 111 ⟨1, false, [.nils], .slice 115 2 32, false, none, false, false⟩
        .leaf) 113 ⟨1, false, [.nilf], .func, false, none, false, false⟩
       .leaf) 114 ⟨2, true, [.int .u64 0, .nils], .struct [(0, 24), (1, 25)], false, none, false, false⟩
      (.node .leaf 115 ⟨2, true, [.int .u64 0, .nils], .struct [(0, 24), (1, 25)], false, none, false, false⟩
       .leaf)))) 116 ⟨1, false, [.nilf], .func, false, none, false, false⟩
   (.node (.node (.node (.node (.node .leaf 117 ⟨1, false, [.nilf], .func, false, none, false, false⟩
        .leaf) 118 ⟨1, false, [.nilf], .func, false, none, false, false⟩
       .leaf) 119 ⟨1, false, [.nilf], .func, false, none, false, false⟩
      (.node (.node .leaf 120 ⟨1, false, [.nilf], .func, false, none, false, false⟩
        .leaf) 121 ⟨1, false, [.int .u64 0], .int .u64, false, none, false, false⟩
       .leaf)) 123 ⟨1, false, [.nilf], .func, false, none, false, false⟩
     (.node (.node (.node .leaf 124 ⟨1, false, [.nilf], .func, false, none, false, false⟩
        .leaf) 125 ⟨1, false, [.nili], .iface, false, none, false, false⟩
       .leaf) 126 ⟨1, false, [.nili], .iface, false, none, false, false⟩
      (.node .leaf 128 ⟨1, false, [.nilf], .func, false, none, false, false⟩
       .leaf))) 129 ⟨1, false, [.nilf], .func, false, none, false, false⟩
    (.node (.node (.node (.node .leaf 130 ⟨8, true, [.int .u32 0, .int .u32 0, .int .u32 0, .int .u32 0, .int .u32 0, .int .u32 0, .int .u32 0, .int .u32 0], .arr 8 50 1, true, none, false, false⟩
        .leaf) 131 ⟨1, false, [.nilf], .func, false, none, false, false⟩
       .leaf) 132 ⟨1, false, [.nilf], .func, false, none, false, false⟩
      (.node .leaf 133 ⟨1, false, [.nilp], .ptr, false, some 51, false, false⟩
       .leaf)) 134 ⟨1, false, [.nilf], .func, false, none, false, false⟩
     (.node (.node (.node .leaf 135 ⟨3, true, [.int .i64 0, .int .u64 0, .str []], .struct [(0, 3), (1, 24), (2, 9)], true, none, false, false⟩
        .leaf) 136 ⟨3, true, [.int .i64 0, .int .u64 0, .str []], .struct [(0, 3), (1, 24), (2, 9)], true, none, false, false⟩
       .leaf) 137 ⟨1, false, [.nilf], .func, false, none, false, false⟩
      (.node .leaf 138 ⟨1, false, [.nilf], .func, false, none, false, false⟩
       .leaf))))) 139 ⟨3, true, [.int .i64 0, .int .u64 0, .str []], .struct [(0, 3), (1, 24), (2, 9)], true, none, false, false⟩
  (.node (.node (.node (.node (.node (.node .leaf 141 ⟨1, false, [.nilf], .func, false, none, false, false⟩
        .leaf) 142 ⟨1, false, [.nilf], .func, false, none, false, false⟩
       .leaf) 144 ⟨1, false, [.nilf], .func, false, none, false, false⟩
      (.node (.node .leaf 146 ⟨1, false, [.nilf], .func, false, none, false, false⟩
        .leaf) 147 ⟨1, false, [.nilf], .func, false, none, false, false⟩
       .leaf)) 148 ⟨1, false, [.nilf], .func, false, none, false, false⟩
     (.node (.node (.node .leaf 149 ⟨1, false, [.nilf], .func, false, none, false, false⟩
        .leaf) 150 ⟨1, false, [.nilf], .func, false, none, false, false⟩
       .leaf) 151 ⟨1, false, [.nilf], .func, false, none, false, false⟩
      (.node .leaf 152 ⟨1, false, [.nilf], .func, false, none, false, false⟩
       .leaf))) 153 ⟨1, false, [.nilp], .ptr, false, some 5, false, false⟩
    (.node (.node (.node (.node .leaf 154 ⟨1, false, [.nilf], .func, false, none, false, false⟩
        .leaf) 156 ⟨1, false, [.nilf], .func, false, none, false, false⟩
       .leaf) 158 ⟨1, false, [.nilf], .func, false, none, false, false⟩
      (.node .leaf 159 ⟨8, true, [.int .u64 0, .int .u64 0, .int .u64 0, .int .u64 0, .int .u64 0, .int .u64 0, .int .u64 0, .int .u64 0], .arr 8 24 1, true, none, false, false⟩
       .leaf)) 161 ⟨1, false, [.nilf], .func, false, none, false, false⟩
     (.node (.node (.node .leaf 162 ⟨1, false, [.nilf], .func, false, none, false, false⟩
        .leaf) 164 ⟨1, false, [.nilf], .func, false, none, false, false⟩
       .leaf) 165 ⟨1, false, [.nilf], .func, false, none, false, false⟩
      (.node .leaf 167 ⟨1, false, [.nilf], .func, false, none, false, false⟩
       .leaf)))) 168 ⟨1, false, [.nilf], .func, false, none, false, false⟩
   (.node (.node (.node (.node (.node .leaf 169 ⟨1, false, [.nilf], .func, false, none, false, false⟩
        .leaf) 170 ⟨1, false, [.nilp], .other, false, none, true, false⟩
       .leaf) 171 ⟨1, false, [.nilf], .func, false, none, false, false⟩
      (.node (.node .leaf 172 ⟨1, false, [.nilf], .func, false, none, false, false⟩
        .leaf) 173 ⟨1, false, [.nilf], .func, false, none, false, false⟩
       .leaf)) 174 ⟨1, false, [.nilf], .func, false, none, false, false⟩
     (.node (.node (.node .leaf 175 ⟨1, false, [.nilf], .func, false, none, false, false⟩
        .leaf) 176 ⟨1, false, [.nilf], .func, false, none, false, false⟩
       .leaf) 177 ⟨4, true, [.nilp, .nilp, .nilp, .str []], .struct [(0, 17), (1, 17), (2, 17), (3, 9)], false, none, false, false⟩
      (.node .leaf 178 ⟨4, true, [.nilp, .nilp, .nilp, .str []], .struct [(0, 17), (1, 17), (2, 17), (3, 9)], false, none, false, false⟩
       .leaf))) 179 ⟨0, true, [], .arr 0 16 1, false, none, false, false⟩
    (.node (.node (.node (.node .leaf 180 ⟨0, true, [], .struct [(0, 179)], false, none, false, false⟩
        .leaf) 181 ⟨0, true, [], .struct [(0, 179)], false, none, false, false⟩
       .leaf) 182 ⟨1, false, [.int .u8 0], .int .u8, false, none, false, false⟩
      (.node .leaf 183 ⟨1, false, [.int .u8 0], .int .u8, false, none, false, false⟩
       .leaf)) 184 ⟨1, false, [.nilf], .func, false, none, false, false⟩
     (.node (.node (.node .leaf 185 ⟨1, false, [.int .i32 0], .int .i32, false, none, false, false⟩
        .leaf) 186 ⟨1, false, [.int .i32 0], .int .i32, false, none, false, false⟩
       .leaf) 187 ⟨11, true, [.int .u64 0, .int .u64 0, .int .u32 0, .int .u8 0, .int .u8 0, .int .u8 0, .int .u8 0, .nilf, .nilp, .int .i32 0, .int .i32 0], .struct [(0, 12), (1, 12), (2, 50), (3, 182), (4, 5), (5, 5), (6, 183), (7, 184), (8, 153), (9, 185), (10, 186)], false, none, false, false⟩
      (.node .leaf 188 ⟨11, true, [.int .u64 0, .int .u64 0, .int .u32 0, .int .u8 0, .int .u8 0, .int .u8 0, .int .u8 0, .nilf, .nilp, .int .i32 0, .int .i32 0], .struct [(0, 12), (1, 12), (2, 50), (3, 182), (4, 5), (5, 5), (6, 183), (7, 184), (8, 153), (9, 185), (10, 186)], false, none, false, false⟩
       .leaf)))))))
theorem tt_ok : TsOk Try.prog tt := tsOk_of (by kernel_rfl)

theorem size_ac (x : Int) (h0 : 0 ≤ x) (h1 : x ≤ 1000000) : ACalls Try.prog 108 [.int .i64 x] (.int .i64 (x + 20)) := by
  refine acalls_L (T := tt) (S := noS) (lo := noA) (lb := noA) 5 (fn := Try.f108) rfl rfl (by kernel_rfl) (by kernel_rfl) rfl tt_ok (noS_ok _) (by kernel_rfl) ?_
  (intro L P1 Q1 hL hP hQ; cbv; subst hL; simp only [L2, L3, std, sat_need, sat_must, sat_ite, sat_done, sat_yes, sat_ex, sat_all, sat_sup, sat_and, sat_fail]; subst hQ)
  (simp only [sySet, reduceCtorEq, forall_const, Int.reduceToNat, Int.reduceAdd, Int.reduceSub, Int.cast_ofNat_Int, Int.toNat_natCast, Nat.le_eq, Nat.sub_eq, ne_eq, Decidable.not_not, implies_true, true_and, and_true, wadd, wsub, wmul, decide_eq_true_eq, decide_eq_false_iff_not, Nat.succ_eq_add_one, imp_false, not_false_eq_true, not_true_eq_false, false_imp_iff, true_imp_iff])
  omega
end Sy
end Go.Proofs.Ythlggigjnpldcaa
namespace Go.Proofs.Ythlggigjnpldcaa
open Go.RowKit Go.WideShapes Go.ChangeShapes Go.ChangeAt

/-- A byte as a cell; a string by its list of bytes. -/
def bcell (b : UInt8) : Value := .int .u8 (b.toNat : Int)
def str (l : List UInt8) : Value := .string ⟨l.toArray⟩

theorem bcell_ofNat (n : Nat) : bcell (UInt8.ofNat n) = .int .u8 ((n : Int) % 256) := by
  have h : (((UInt8.ofNat n).toNat : Nat) : Int) = (n : Int) % 256 := by
    rw [UInt8.toNat_ofNat']; omega
  unfold bcell; rw [h]

/-! ### Strings as lists of bytes: the walk's rules -/
@[go_sem] theorem ba_get (l : List UInt8) (k : Nat) (h : k < (⟨l.toArray⟩ : ByteArray).size) : (⟨l.toArray⟩ : ByteArray)[k] = l[k]'h := rfl
@[go_sem] theorem ba_append (a b : List UInt8) : (⟨a.toArray⟩ : ByteArray) ++ ⟨b.toArray⟩ = ⟨(a ++ b).toArray⟩ := by
  apply ByteArray.ext; simp
theorem ba_extract_eq (l : List UInt8) (a b : Nat) : (⟨l.toArray⟩ : ByteArray).extract a b = ⟨((l.drop a).take (b - a)).toArray⟩ := by
  apply ByteArray.ext; simp [ByteArray.data_extract]
@[go_sem] theorem ba_extract_all (l : List UInt8) (a : Nat) : (⟨l.toArray⟩ : ByteArray).extract a l.length = ⟨(l.drop a).toArray⟩ := by
  rw [ba_extract_eq, List.take_of_length_le (by simp)]
@[go_sem] theorem ba_extract_zero (l : List UInt8) (b : Nat) : (⟨l.toArray⟩ : ByteArray).extract 0 b = ⟨(l.take b).toArray⟩ := by
  rw [ba_extract_eq, List.drop_zero, Nat.sub_zero]
@[go_sem] theorem wrap_byte_u64 (b : UInt8) : IntKind.u64.wrap (b.toNat : Int) = b.toNat := by
  have := b.toNat_lt; rw [IntKind.wrap_u64]; omega
@[go_sem] theorem wrap_byte_u32 (b : UInt8) : IntKind.u32.wrap (b.toNat : Int) = b.toNat := by
  have := b.toNat_lt; rw [IntKind.wrap_u32]; omega
@[go_sem] theorem wrap_byte_u16 (b : UInt8) : IntKind.u16.wrap (b.toNat : Int) = b.toNat := by
  have := b.toNat_lt; rw [IntKind.wrap_u16]; omega
@[go_sem] theorem wrap_byte_u8 (b : UInt8) : IntKind.u8.wrap (b.toNat : Int) = b.toNat := by
  have := b.toNat_lt; rw [IntKind.wrap_u8]; omega
@[go_sem] theorem wrap_byte_i64 (b : UInt8) : IntKind.i64.wrap (b.toNat : Int) = b.toNat := by
  have := b.toNat_lt; rw [IntKind.wrap_i64]; omega
theorem getD_get {α : Type} (l : List α) (i : Nat) (d : α) (h : i < l.length) : l.getD i d = l[i] := by simp [h]
theorem getD_app {α : Type} (a b : List α) (d : α) (i : Nat) (h : i < a.length) : (a ++ b).getD i d = a.getD i d := by
  rw [getD_get _ _ _ (by rw [List.length_append]; omega), getD_get _ _ _ h, List.getElem_append_left]
theorem getD_app2 {α : Type} (a b : List α) (d : α) (i : Nat) (h : a.length ≤ i) : (a ++ b).getD i d = b.getD (i - a.length) d := by
  simp [List.getD_eq_getElem?_getD, List.getElem?_append_right h]
theorem byte_lt (b : UInt8) : (b.toNat : Int) < 256 := by have := b.toNat_lt; omega

theorem add_zero_addr (g j : Nat) : (⟨g, 0, none⟩ : Addr).add j = ⟨g, j, none⟩ := by
  unfold Addr.add
  split
  · rename_i h; rw [h]
  · rw [Nat.zero_add]

theorem conv_row {P : Program} {w : World} {src dst e : TypeId} {g n cap : Nat} {f : Nat → Value} (l : List UInt8) (hs : P.underlying src = some (.slice e)) (he : P.underlying e = some (.int .u8)) (hd : P.underlying dst = some .string)
    (hr : w.rowIs g e n f) (hl : l.length = n) (hf : ∀ i (hi : i < l.length), f i = bcell l[i]) :
    (convert src dst (.slice (some ⟨g, 0, none⟩) n cap)).run P w = .ok (.string ⟨l.toArray⟩) w := by
  subst hl
  refine run_convert_bytes_back w src dst e _ cap l hs he hd fun j hj => ?_
  have := hr.cell hj
  rw [hf j hj] at this
  rw [add_zero_addr]
  exact this

/-- 'string([]byte{b})'. -/
theorem conv_one {P : Program} {src dst e : TypeId} (hs : P.underlying src = some (.slice e)) (he : P.underlying e = some (.int .u8)) (hd : P.underlying dst = some .string) (W : World) (v : Int) (b : UInt8) (hv : (b.toNat : Int) = v) :
    (convert src dst (.slice (some ⟨W.heap.size, 0, none⟩) 1 1)).run P (W.alloc (.cells #[.int .u8 v] e)) = .ok (.string ⟨[b].toArray⟩) (W.alloc (.cells #[.int .u8 v] e)) := by
  subst hv
  refine conv_row (n := 1) (f := fun _ => bcell b) [b] hs he hd (World.rowIs_alloc W #[bcell b] e (fun _ => bcell b) ?_) rfl ?_
  · intro i hi
    simp at hi
    subst hi
    rfl
  · intro i hi
    simp at hi
    subst hi
    rfl
/-- 'string([]byte{b})', the cell known in whatever world. -/
theorem conv_at {P : Program} {src dst e : TypeId} (hs : P.underlying src = some (.slice e)) (he : P.underlying e = some (.int .u8)) (hd : P.underlying dst = some .string) (v : Int) (b : UInt8) (hv : (b.toNat : Int) = v) (W : World) (g : Nat)
    (hc : W.cell? ⟨g, 0, none⟩ = some (.int .u8 v)) : (convert src dst (.slice (some ⟨g, 0, none⟩) 1 1)).run P W = .ok (.string ⟨[b].toArray⟩) W := by
  subst hv
  refine run_convert_bytes_back W src dst e _ 1 [b] hs he hd fun j hj => ?_
  have : j = 0 := by simpa using hj
  subst this
  exact hc
theorem ofNat_toNat (x : Nat) : ((UInt8.ofNat x).toNat : Int) = (x : Int) % 256 := by rw [UInt8.toNat_ofNat']; omega

/-! ### A row whose first n cells are known, none of them frozen (what []byte(s) lays bears a mark behind its last cell) -/
def Row (w : World) (b : Nat) (t : TypeId) (n : Nat) (f : Nat → Value) : Prop :=
  ∃ (c : Array Value) (lo hi : Nat), w.heap[b]? = some (.cells c t (lo, hi)) ∧ n ≤ c.size ∧ (hi = 0 ∨ n ≤ lo) ∧ ∀ i, i < n → c[i]? = some (f i)
section
variable {w w' : World} {b : Nat} {t : TypeId} {n : Nat} {f g : Nat → Value}
theorem Row.cell (h : Row w b t n f) {i : Nat} (hi : i < n) : w.cell? ⟨b, i, none⟩ = some (f i) := by
  obtain ⟨c, lo, hi', hb, _, _, hc⟩ := h
  simp [World.cell?, hb, hc i hi]
theorem Row.frozen (h : Row w b t n f) {i : Nat} (hi : i < n) : w.frozen? ⟨b, i, none⟩ = false := by
  obtain ⟨c, lo, hi', hb, _, hf, _⟩ := h
  simp only [World.frozen?, hb]
  rcases hf with hf | hf
  · subst hf; simp
  · simp; omega
theorem Row.lt (h : Row w b t n f) : b < w.heap.size := by
  obtain ⟨c, lo, hi, hb, _⟩ := h
  exact (Array.getElem?_eq_some_iff.1 hb).1
theorem Row.congr (h : Row w b t n f) (e : ∀ i, i < n → f i = g i) : Row w b t n g := by
  obtain ⟨c, lo, hi, hb, hn, hf, hc⟩ := h
  exact ⟨c, lo, hi, hb, hn, hf, fun i hi => by rw [hc i hi, e i hi]⟩
theorem Row.of_block (h : Row w b t n f) (e : w'.heap[b]? = w.heap[b]?) : Row w' b t n f := by
  obtain ⟨c, lo, hi, hb, hn, hf, hc⟩ := h
  exact ⟨c, lo, hi, e.trans hb, hn, hf, hc⟩
theorem Row.set (h : Row w b t n f) (i : Nat) (v : Value) : Row (w.setCell ⟨b, i, none⟩ v) b t n (fun j => if j = i then v else f j) := by
  obtain ⟨c, lo, hi', hb, hn, hf, hc⟩ := h
  refine ⟨c.setIfInBounds i v, lo, hi', ?_, by simpa using hn, hf, fun j hj => ?_⟩
  · simp [World.setCell, Array.getElem?_modify, hb]
  · rw [Array.getElem?_setIfInBounds]
    by_cases e : i = j
    · subst e
      have : i < c.size := by omega
      simp [this]
    · rw [if_neg e, hc j hj]
      show _ = some (if j = i then v else f j)
      rw [if_neg (fun (h : j = i) => e h.symm)]
theorem Row.setOther (h : Row w b t n f) {a : Addr} (ha : b ≠ a.block) (v : Value) : Row (w.setCell a v) b t n f := h.of_block (Below.heap_setCell _ _ _ _ ha)
theorem Row.alloc (h : Row w b t n f) (o : Obj) : Row (w.alloc o) b t n f := h.of_block (Below.heap_alloc _ _ _ h.lt)
theorem Row.below (h : Row w b t n f) {B : Nat} (hb : Below B w w') (hB : b < B) : Row w' b t n f := h.of_block (hb.block b hB)
theorem Row.drewN (h : Row w b t n f) (k : Nat) : Row (w.drewN k) b t n f := h
theorem Row.of_rowIs (h : w.rowIs b t n f) : Row w b t n f := by
  obtain ⟨c, hb, hn, hc⟩ := h
  exact ⟨c, 0, 0, hb, by omega, .inl rfl, hc⟩
/-- '[]byte(s)'. -/
theorem Row.bytes (w : World) (t : TypeId) (l : List UInt8) (cap : Nat) : Row (w.alloc (.cells (bytesRow ⟨l.toArray⟩ cap) t ((bytesRow ⟨l.toArray⟩ cap).size, (bytesRow ⟨l.toArray⟩ cap).size + 1))) w.heap.size t l.length (fun j => bcell (l.getD j 0)) := by
  refine ⟨bytesRow ⟨l.toArray⟩ cap, _, _, heap_alloc_new _ _, by simp [bytesRow], .inr (by simp [bytesRow]), fun i hi => ?_⟩
  rw [bytesRow_at _ _ _ (by simpa using hi)]
  simp [bcell, hi]
theorem conv_Row {P : Program} {src dst e : TypeId} {cap : Nat} (l : List UInt8) (hs : P.underlying src = some (.slice e)) (he : P.underlying e = some (.int .u8)) (hd : P.underlying dst = some .string)
    (hr : Row w b e n f) (hl : l.length = n) (hf : ∀ i (hi : i < l.length), f i = bcell l[i]) :
    (convert src dst (.slice (some ⟨b, 0, none⟩) n cap)).run P w = .ok (.string ⟨l.toArray⟩) w := by
  subst hl
  refine run_convert_bytes_back w src dst e _ cap l hs he hd fun j hj => ?_
  have := hr.cell hj
  rw [hf j hj] at this
  rw [add_zero_addr]
  exact this
end

/-! ### A block that is known whole (the kit's page extra-words, 2) -/
def Blk (w : World) (g : Nat) (t : TypeId) (cs : Array Value) : Prop := w.heap[g]? = some (.cells cs t (0, 0))

section
variable {w w' : World} {g : Nat} {t : TypeId} {cs : Array Value}
theorem Blk.lt (h : Blk w g t cs) : g < w.heap.size := by
  rcases Nat.lt_or_ge g w.heap.size with hlt | hge
  · exact hlt
  · unfold Blk at h; rw [Array.getElem?_eq_none hge] at h; cases h
theorem Blk.cell (h : Blk w g t cs) (i : Nat) : w.cell? ⟨g, i, none⟩ = cs[i]? := cell_of_row w g i cs t (0, 0) h
theorem Blk.frozen (h : Blk w g t cs) (i : Nat) : w.frozen? ⟨g, i, none⟩ = false := by
  unfold Blk at h
  simp [World.frozen?, h]
theorem Blk.new (w : World) (t : TypeId) (cs : Array Value) : Blk (w.alloc (.cells cs t)) w.heap.size t cs := heap_alloc_new w _
theorem Blk.drew (h : Blk w g t cs) : Blk w.drew g t cs := h
theorem Blk.drewN (h : Blk w g t cs) (n : Nat) : Blk (w.drewN n) g t cs := h
theorem Blk.alloc (h : Blk w g t cs) (o : Obj) : Blk (w.alloc o) g t cs := (Below.heap_alloc w o g h.lt).trans h
theorem Blk.set_ (h : Blk w g t cs) (i : Nat) (u : Value) : Blk (w.setCell ⟨g, i, none⟩ u) g t (cs.setIfInBounds i u) := by
  unfold Blk at h ⊢
  simp [World.setCell, Array.getElem?_modify, h]
theorem Blk.far (h : Blk w g t cs) {p : Addr} (hp : g ≠ p.block) (u : Value) : Blk (w.setCell p u) g t cs := (Below.heap_setCell w p u g hp).trans h
theorem Blk.below {B : Nat} (h : Blk w g t cs) (hb : Below B w w') (hg : g < B) : Blk w' g t cs := (hb.block g hg).trans h
theorem Blk.grown {row : Option Nat} (h : Blk w g t cs) (hb : w.grownBy w' row) (hg : some g ≠ row) : Blk w' g t cs := (hb.block g h.lt hg).trans h
theorem Blk.ne_ {g' : Nat} {t' : TypeId} {cs' : Array Value} (h : Blk w g t cs) (h' : Blk w g' t' cs') (hne : t ≠ t') : g ≠ g' := by
  rintro rfl
  unfold Blk at h h'
  rw [h] at h'
  injection h' with h'
  injection h' with _ ht
  exact hne ht
end

/-! ### Rows of the call's own -/
theorem below_grown_own {base : Nat} {e : TypeId} {size n : Nat} {v : Value} {xs : List Value} {w w' : World} (hown : w.ownsRow base e size v n xs) (hb : base ≤ w.heap.size) (hg : w.grownBy w' v.ownBlock) : Below base w w' :=
  (Below.refl _ _).grown hg hb fun k hk => (hown.lt k hk).1

/-- 'append(v, c)', one cell an element, v the call's own: the literal of one cell has just been laid. -/
theorem wpList_push {P : Program} {ops : Array Oper} {rest : List Oper} {o : Oper} {a : Act} {Q : Exit → Act → World → Prop} (wr : World) (hgd : o.guard = none) (s x : Operand) (t : TypeId)
    (ho : o.op = .call { callee := .builtin .append, args := #[s, x], argTypes := #[t, t] })
    (base : Nat) (e : TypeId) (z : Value) (bytes : Nat) (ht : P.underlying t = some (.slice e)) (hinfo : (P.info? e).map (fun i => (i.zero, i.size, i.bytes)) = some (some z, 1, bytes)) (hz1 : z.cells.size = 1)
    (v : Value) (n : Nat) (xs : List Value) (hs : a.eval s = v) (hown : wr.ownsRow base e 1 v n xs)
    (c : Value) (h1 : c.oneCell' = true) (hx : a.eval x = .slice (some ⟨wr.heap.size, 0, none⟩) 1 1)
    (hbytes : (n + 1) * bytes ≤ 140737488355328) (hn : n < 9223372036854775807) (hbase : base ≤ wr.heap.size)
    (h : ∀ v' w', w'.ownsRow base e 1 v' (n + 1) (xs ++ [c]) → Below base wr w' → wpList P ops Q rest (a.put o.dst v') w') : wpList P ops Q (o :: rest) a (wr.alloc (.cells #[c] e)) := by
  obtain ⟨i, hi, hzz⟩ := Option.map_eq_some_iff.1 hinfo
  simp only [Prod.mk.injEq] at hzz
  obtain ⟨hz, hsz, hby⟩ := hzz
  have hown' := hown.alloc (.cells #[c] e)
  refine wpList_append_own _ hgd s x t ho base e i z 1 bytes ht hi hz hsz hby hz1 (by decide) v n xs hs hown' ⟨wr.heap.size, 0, none⟩ 1 1 [c] hx rfl ?_ ?_ ?_ hbytes ?_ ?_
  · intro j u hj
    match j, hj with
    | 0, hj =>
      simp at hj; subst hj
      rw [add_zero_addr, cell_of_row _ _ _ _ _ _ (heap_alloc_new wr _)]; rfl
  · intro u hu
    simp at hu; subst hu; exact h1
  · unfold maxLen; omega
  · simp; omega
  · intro v' w' ho' hg _
    exact h v' w' ho' (((Below.refl _ _).alloc hbase _).trans (below_grown_own hown' (by simp; omega) hg))

theorem conv_owned {P : Program} {src dst e : TypeId} (hs : P.underlying src = some (.slice e)) (he : P.underlying e = some (.int .u8)) (hd : P.underlying dst = some .string) {w : World} {base n : Nat} {v : Value} (l : List UInt8)
    (h : w.ownsRow base e 1 v n (l.map bcell)) : (convert src dst v).run P w = .ok (.string ⟨l.toArray⟩) w := by
  rcases h.2 with ⟨rfl, rfl⟩ | ⟨g, cap, cur, rfl, _, hh, hnc, _, hsz, hx⟩
  · have hl : l = [] := by have := h.1; simpa using this
    subst hl
    rw [run_convert_bytes_string w src dst e none 0 0 hs he hd]
    simp [Conv.bytesToString]; rfl
  · have hl : l.length = n := by have := h.1; simpa using this
    subst hl
    refine run_convert_bytes_back w src dst e _ cap l hs he hd fun j hj => ?_
    have := h.cells (g := g) rfl j (bcell l[j]) (by simp [hj])
    exact this

theorem ret_str {a b : List UInt8} (h : a = b) : Ending.returned (.string ⟨a.toArray⟩) = .returned (.string ⟨b.toArray⟩) := by rw [h]
theorem ret_int {k : IntKind} {a b : Int} (h : a = b) : Ending.returned (.int k a) = .returned (.int k b) := by rw [h]
theorem ret_bool {a b : Bool} (h : a = b) : Ending.returned (.bool a) = .returned (.bool b) := by rw [h]

/-! ### A scope in which the run jumps back to one label: the pass from the label is walked once, the way to the label apart -/
theorem wp_scope_again {P : Program} {a : Act} {w : World} {Q : Exit → Act → World → Prop} {c rest : Code} (l : Nat) (J : Act → World → Prop) (μ : Act → World → Nat) (hf : findLabel c l = some (.seq .skip rest))
    (pass : ∀ a w, J a w → rest.wp P (Exit.jump l (fun a' w' => J a' w' ∧ μ a' w' < μ a w) Q) a w)
    (first : Hid (∀ a w, J a w → rest.wp P (Exit.jump l J Q) a w) → c.wp P (Exit.jump l J Q) a w) : (Code.scope c).wp P Q a w := by
  refine wp_scope_jumps l J μ hf (first fun a w hJ => Code.wp_mono (fun e a' w' hq => ?_) (pass a w hJ)) fun a w hJ => wp_seq (wp_skip (pass a w hJ))
  cases e <;> first | exact hq | exact ⟨hq.1, hq.2.1⟩

section
variable {l : Nat} {J : Act → World → Prop} {Q : Exit → Act → World → Prop} {a : Act} {w : World}
@[go_sem] theorem jump_normal : Exit.jump l J Q .normal a w = Q .normal a w := rfl
@[go_sem] theorem jump_exit (id : Nat) : Exit.jump l J Q (.exit id) a w = Q (.exit id) a w := rfl
@[go_sem] theorem jump_ret : Exit.jump l J Q .ret a w = Q .ret a w := rfl
@[go_sem] theorem jump_panic (ch : List PanicEntry) : Exit.jump l J Q (.panic ch) a w = Q (.panic ch) a w := rfl
end

theorem below_trans {a b c : World} (h : Below a.heap.size a b) (k : Below b.heap.size b c) : Below a.heap.size a c :=
  h.trans (k.mono h.size)

theorem _root_.Go.RowKit.Below.trans' {a b c : World} (h : Below a.heap.size a b) (k : Below b.heap.size b c) : Below a.heap.size a c := below_trans h k
theorem bkeep {W w1 : World} (hb : Below W.heap.size W w1) : (∀ b o, b < W.heap.size → w1.cell? ⟨b, o, none⟩ = W.cell? ⟨b, o, none⟩) ∧ (∀ b o, b < W.heap.size → w1.frozen? ⟨b, o, none⟩ = W.frozen? ⟨b, o, none⟩) ∧ W.heap.size ≤ w1.heap.size :=
  ⟨fun b o h => hb.cell (p := ⟨b, o, none⟩) h, fun b o h => hb.frozen (p := ⟨b, o, none⟩) h, hb.size⟩
theorem below_drewN {B : Nat} {a w : World} (h : Below B a w) (n : Nat) : Below B a (w.drewN n) := ⟨h.os, h.tape, h.output, h.size, h.block⟩

section
variable {H : Type} {enc : TypeId × Value → H} {P : Program}
theorem post_of_below {f : Func} {s : ChangeSpec} {apart fresh handsOn again : Bool} {W W' : World} {args : Array Value} {v : Value} {ds gs : List (DataW H)} {before pa pv : List MemPlace}
    (hW : DataW.Whole enc P f.params.toList s.vars apart W args.toList ds gs before)
    (hres : ∀ (b : Nat) (sp : Nat → Bool) (hd : Bool), DataW.TrodAll enc P W' b sp hd f.resultTypes.toList (v.resultList f.resultTypes.size) (s.fn H (ds ++ gs)).results [])
    (hargs : ∀ sp : Nat → Bool, (∀ p ∈ before, sp p.block = true) → DataW.TrodAll enc P W' 0 sp true f.params.toList args.toList (s.fn H (ds ++ gs)).args pa)
    (hvars : ∀ sp : Nat → Bool, (∀ p ∈ before, sp p.block = true) → DataW.TrodVars enc P W' sp s.vars (s.fn H (ds ++ gs)).vars pv)
    (hps : before = pa ++ pv) (hb : Below W.heap.size W W')
    (hok : ∀ (j : Nat) (t : TypeId) (r : Value), f.resultTypes[j]? = some t → (v.resultList f.resultTypes.size)[j]? = some r → Value.okWide P W' .any 0 t r) :
    s.post enc P f apart fresh handsOn again W args v W' := by
  have hlt : ∀ p ∈ before, p.block < W.heap.size := fun p hp => hW.lt p hp
  have hold : ∀ p ∈ before, (fun b => decide (b < W.heap.size)) p.block = true := fun p hp => by simpa using hlt p hp
  refine ⟨ds, gs, before, [], pa, pv, hW, hres _ _ _, hargs _ hold, hvars _ hold, World.keptBut_mono (fun p hp => ⟨hp, ?_⟩) (hb.frame (· ∈ before)), fun _ => ?_⟩
  · rw [hps, List.mem_append] at hp
    exact Or.inr hp
  · obtain ⟨_, _, _, _, _, hz, hn⟩ := hW
    refine ⟨hok, _, _, ([] ++ pa) ++ pv, ⟨[] ++ pa, pv, trodAll_append (hargs _ (fun _ _ => rfl)) (hres _ _ _), hvars _ (fun _ _ => rfl), rfl, ?_, ?_⟩, ?_⟩
    · intro b off hp
      have hin : MemPlace.cell b off ∈ before := by rw [hps]; simpa using hp
      rw [hb.frozen (hlt _ hin)]
      exact hz b off hin
    · intro ha
      have := hn ha
      rw [hps] at this
      simpa using this
    · intro p hp _
      rw [hps]
      simpa using hp

/-- The last step of a law's row: it answered true, nothing that was there has turned. -/
theorem trodAll_below (hl : laidOutB P = true) {W W' : World} (hb : Below W.heap.size W W') {sp : Nat → Bool} :
    ∀ {ts : List TypeId} {vs : List Value} {ds : List (DataW H)} {ps : List MemPlace}, (∀ t ∈ ts, P.readableRec t = true ∧ t < P.types.size) →
    DataW.TrodAll enc P W 0 (fun _ => true) true ts vs ds ps → (∀ x ∈ ps, x.block < W.heap.size) → (∀ x ∈ ps, sp x.block = true) → DataW.TrodAll enc P W' 0 sp true ts vs ds ps
  | [], [], [], _, _, h, _, _ => h
  | _ :: _, _ :: _, _ :: _, _, hr, ⟨p, q, h1, h2, e⟩, hlt, hs =>
    ⟨p, q, WideElems.Trod_stays hl (hr _ (List.mem_cons.2 (Or.inl rfl))).1 (hr _ (List.mem_cons.2 (Or.inl rfl))).2 h1
        (fun x hx => hb.same (hlt x (by rw [e]; exact List.mem_append_left _ hx))) (fun x hx => hs x (by rw [e]; exact List.mem_append_left _ hx)),
      trodAll_below hl hb (fun t ht => hr t (List.mem_cons.2 (Or.inr ht))) h2 (fun x hx => hlt x (by rw [e]; exact List.mem_append_right _ hx)) (fun x hx => hs x (by rw [e]; exact List.mem_append_right _ hx)), e⟩

theorem post_law {f : Func} {s : ChangeSpec} {apart fresh handsOn again : Bool} {W W' : World} {args : Array Value} {ds : List (DataW H)} {before : List MemPlace} {tb : TypeId}
    (hl : laidOutB P = true) (hr : (f.params.toList.all fun t => P.readableRec t && decide (t < P.types.size)) = true) (hbt : f.resultTypes = #[tb]) (hub : P.underlying tb = some .bool) (hsv : s.vars = [])
    (hW : DataW.Whole enc P f.params.toList s.vars apart W args.toList ds [] before)
    (hfn : s.fn H (ds ++ []) = { results := [.lit (.bool true)], args := ds }) (hb : Below W.heap.size W W') :
    s.post enc P f apart fresh handsOn again W args (.bool true) W' := by
  have hlt : ∀ p ∈ before, p.block < W.heap.size := fun p hp => hW.lt p hp
  obtain ⟨p, q, hA, hV, hpq, _, _⟩ := id hW
  rw [hsv] at hV
  have hq : q = [] := hV
  subst hq
  rw [List.append_nil] at hpq
  subst hpq
  refine post_of_below (pa := before) (pv := []) hW ?_ ?_ ?_ (by simp) hb ?_
  · intro _ _ _
    rw [hfn, hbt]
    exact trodAll_mk1 (shut_bool hub true)
  · intro sp hsp
    rw [hfn]
    exact trodAll_below hl hb (fun t ht => by simpa using List.all_eq_true.1 hr t ht) hA hlt hsp
  · intro sp _
    rw [hfn, hsv]
    rfl
  · exact ok_one hbt rfl (okWide_bool_mk hub true)
end

end Go.Proofs.Ythlggigjnpldcaa
namespace Go.Proofs.Ythlggigjnpldcaa
open Go.RowKit

theorem i5 : (Try.prog.info? 5).map (fun i => (i.zero, i.size, i.bytes)) = some (some (.int .u8 0), 1, 1) := by kernel_rfl

def cl8 (k : Int) : Nat := (min (max k 0) 8).toNat
def putL (n : Nat) : Nat → List UInt8
  | 0 => []
  | i+1 => UInt8.ofNat (n / 256^i) :: putL n i

theorem cl8_le (k : Int) : cl8 k ≤ 8 := by unfold cl8; omega
theorem putL_length (n c : Nat) : (putL n c).length = c := by induction c <;> simp_all [putL]
theorem putL_get (n c t : Nat) (h : t < (putL n c).length) : (putL n c)[t] = UInt8.ofNat (n / 256 ^ (c - 1 - t)) := by
  induction c generalizing t with
  | zero => simp [putL] at h
  | succ c ih =>
    rcases t with _ | t
    · simp [putL]
    · simp only [putL, List.getElem_cons_succ]
      rw [ih]
      congr 3; omega

set_option maxRecDepth 100000 in
set_option maxHeartbeats 400000 in
theorem put_any (n : Nat) (k : Int) (w : World) (_hn : n < 18446744073709551616) :
    Calls Try.prog 59 #[.int .u64 n, .int .i64 k] w fun e w' => e = .returned (.string ⟨(putL n (cl8 k)).toArray⟩) ∧ Below w.heap.size w w' := by
  have h8 := cl8_le k
  have hmk := fun W => run_make_row' (P := Try.prog) 63 5 (.int .u8 0) 1 Try.underlying63 i5 rfl .i64 .i64 (cl8 k) (by omega) (by omega) W
  go_enter Try.func59, Try.ntmps59
  go_upto_region 1 with (fail)
  go_cut [1] (fun v wx => v = .int .i64 (cl8 k) ∧ w = wx)
  case first =>
    go_wp2
    all_goals (go_meet; exact ⟨by unfold cl8; go_num, rfl⟩)
  case rest =>
    obtain ⟨rfl, rfl⟩ := hcut
    generalize hc : cl8 k = c at *
    have Hc := Lib.hid hc
    clear hc
    go_wp2
    go_loopw [0, 6] (fun m i wr => ∃ j x : Nat, j ≤ c ∧ i = .int .i64 ((j : Int) - 1) ∧ m = .int .u64 (x : Int) ∧ Hid (x = n / 256 ^ (c - j)) ∧
       wr.rowIs w.heap.size 5 c (fun t => if t < j then .int .u8 0 else bcell (UInt8.ofNat (n / 256 ^ (c - 1 - t)))) ∧ Below w.heap.size w wr) (fun _ i _ => (intOf i + 1).toNat)
    case atStart =>
      refine ⟨c, n, by omega, by simp, by simp, Lib.hid (by simp), ?_, ?_⟩
      · exact (World.rowIs_made w (.int .u8 0) c 5).congr (fun i hi => by simp [hi])
      · exact (Below.refl _ _).alloc (Nat.le_refl _) _
    case round =>
      obtain ⟨j, x, hj, rfl, rfl, hx, hrow, hb⟩ := hrel
      rcases j with _ | j
      · have hconv := fun cc => conv_row (P := Try.prog) (src := 63) (dst := 9) (cap := cc) (putL n c) Try.underlying63 Try.underlying5 Try.underlying9 hrow (putL_length n c) (fun i hi => by simp [putL_get])
        go_wp2
        go_ret
        exact ⟨ret_str (by rw [Hc.out]), hb⟩
      · have hc := hrow.cell (i := j) (by omega)
        have hf := hrow.frozen j
        have hs := hrow.set j (.int .u8 ((x : Int) % 256))
        have hB := hb.setCell (p := ⟨w.heap.size, j, none⟩) (Nat.le_refl _) (.int .u8 ((x : Int) % 256))
        have h0 : ((j + 1 : Nat) : Int) - 1 = j := by omega
        rw [h0]
        simp only [Nat.lt_succ_self, if_true] at hc
        clear hrow hb h0
        go_wp2
        go_roundw
        case rel =>
          refine ⟨j, x / 256, by omega, rfl, rfl, Lib.hid ?_, hs.congr fun t ht => ?_, hB⟩
          · rw [hx.out, Nat.div_div_eq_div_mul, ← Nat.pow_succ]; congr 2; omega
          · by_cases h1 : t = j
            · subst h1; rw [if_pos rfl, if_neg (by omega), bcell_ofNat, hx.out, show c - (t + 1) = c - 1 - t by omega]
            · rw [if_neg h1]
              by_cases h2 : t < j
              · rw [if_pos h2, if_pos (by omega)]
              · rw [if_neg h2, if_neg (by omega)]
        case measure => simp [intOf] <;> omega

def getL (l : List UInt8) : Nat := l.foldl (fun n b => n * 256 + b.toNat) 0
theorem getL_snoc (l : List UInt8) (b : UInt8) : getL (l ++ [b]) = getL l * 256 + b.toNat := by simp [getL]
theorem getL_take (l : List UInt8) (k : Nat) (h : k < l.length) : getL (l.take (k + 1)) = getL (l.take k) * 256 + l[k].toNat := by
  rw [List.take_succ_eq_append_getElem h, getL_snoc]
theorem getL_lt (l : List UInt8) : getL l < 256 ^ l.length := by
  rw [← List.reverse_reverse l]
  induction l.reverse with
  | nil => simp [getL]
  | cons b l ih =>
    rw [List.reverse_cons, getL_snoc, List.length_append, List.length_singleton, Nat.pow_succ]
    have := b.toNat_lt
    omega
theorem getL_lt7 (l : List UInt8) (k : Nat) (h : k < l.length) (h8 : l.length ≤ 8) : getL (l.take k) < 72057594037927936 := by
  have h1 := getL_lt (l.take k)
  have h2 : (l.take k).length ≤ 7 := by rw [List.length_take]; omega
  have h3 : 256 ^ (l.take k).length ≤ 256 ^ 7 := Nat.pow_le_pow_right (by omega) h2
  omega
theorem or_byte (x : Nat) (b : UInt8) (h : x < 72057594037927936) : bits .or .u64 ((x : Int) * 256) (b.toNat : Int) = ((x * 256 + b.toNat : Nat) : Int) := by
  have hb := b.toNat_lt
  have := u64_or_nat (x * 256) b.toNat (by omega) (by omega)
  rw [nat_join 8 (x * 256) b.toNat (by omega) (by omega)] at this
  rw [← this]; congr 1

set_option maxRecDepth 100000 in
set_option maxHeartbeats 400000 in
theorem get_any (l : List UInt8) (w : World) (h1 : 1 ≤ l.length) (h8 : l.length ≤ 8) :
    Calls Try.prog 92 #[.string ⟨l.toArray⟩] w fun e w' => e = .returned (.tuple #[.int .u64 (getL l), .int .i64 0]) ∧ w = w' := by
  have hne : (l == []) = false := by cases l <;> simp_all
  have hne' : l ≠ [] := by intro h; simp [h] at h1
  go_enter Try.func92, Try.ntmps92
  go_wp2
  refine wp_scope_again 0 (fun a' w' => w = w' ∧ ∃ (k x : Nat), Hid (x = getL (l.take k)) ∧ k < l.length ∧ x < 72057594037927936 ∧ ∃ u1 u2 u3 u6 u7 u8 u9 u10 u11 u12 u13 u14 u15 u16 u17 u18 u19 u20 u21 u22 u23 u24 : Value, a' = ⟨#[.string ⟨l.toArray⟩, u1, u2, u3, .int .u64 (x : Int), .int .i64 (k : Int), u6, u7, u8, u9, u10, u11, u12, u13, u14, u15, u16, u17, u18, u19, u20, u21, u22, u23, u24], []⟩) (fun a' _ => l.length - (intOf (a'.tmps.getD 5 undef)).toNat) rfl ?_ ?_
  · rintro a' w' ⟨rfl, k, x, hx, hk, hx7, u1, u2, u3, u6, u7, u8, u9, u10, u11, u12, u13, u14, u15, u16, u17, u18, u19, u20, u21, u22, u23, u24, rfl⟩
    have hor := or_byte x l[k] hx7
    go_wp2
    · go_step3
      exact ⟨rfl, ⟨rfl, k + 1, x * 256 + l[k].toNat, Lib.hid (by rw [getL_take l k hk, hx.out]), by omega, by have := getL_lt7 l (k + 1) (by omega) h8; rw [getL_take l k hk, ← hx.out] at this; exact this, _, _, _, _, _, _, _, _, _, _, _, _, _, _, _, _, _, _, _, _, _, _, by go_num⟩, by simp [intOf] <;> omega⟩
    · go_ret2
      refine ⟨?_, rfl⟩
      have : getL l = x * 256 + l[k].toNat := by rw [hx.out, ← getL_take l k hk, List.take_of_length_le (by omega)]
      rw [this]; rfl
  · intro hP
    go_wp2
    go_step3
    simp only [Exit.then]
    apply_assumption
    exact hP.out _ _ ⟨rfl, 0, 0, Lib.hid rfl, by omega, by omega, _, _, _, _, _, _, _, _, _, _, _, _, _, _, _, _, _, _, _, _, _, _, rfl⟩


set_option maxRecDepth 100000 in
set_option maxHeartbeats 400000 in
theorem get_empty (w : World) :
    Calls Try.prog 92 #[.string ⟨#[]⟩] w fun e w' => e = .returned (.tuple #[.int .u64 0, .int .i64 3]) ∧ w = w' := by
  go_enter Try.func92, Try.ntmps92
  go_wp2
  go_step3
  go_wp2
  rw [Exit.noGoto_ret]
  go_ret2
  exact ⟨rfl, rfl⟩

set_option maxRecDepth 100000 in
set_option maxHeartbeats 400000 in
theorem get_long (l : List UInt8) (w : World) (h8 : 8 < l.length) (hm : l.length ≤ 9223372036854775807) :
    Calls Try.prog 92 #[.string ⟨l.toArray⟩] w fun e w' => e = .returned (.tuple #[.int .u64 0, .int .i64 5]) ∧ w = w' := by
  have hne : (l == []) = false := by cases l <;> simp_all
  have hne' : l ≠ [] := by intro h; simp [h] at h8
  go_enter Try.func92, Try.ntmps92
  go_wp2
  go_step3
  go_wp2
  rw [Exit.noGoto_ret]
  go_ret2
  exact ⟨rfl, rfl⟩

set_option maxRecDepth 100000 in
set_option maxHeartbeats 400000 in
theorem add_any (a b : Nat) (w : World) (ha : a < 18446744073709551616) (hb : b < 18446744073709551616) :
    Calls Try.prog 77 #[.int .u64 a, .int .u64 b] w fun e w' => e = .returned (.int .u64 ((min (a+b) 18446744073709551615 : Nat) : Int)) ∧ w = w' := by
  go_enter Try.func77, Try.ntmps77
  go_wp2
  all_goals (go_ret; exact ⟨by go_num, rfl⟩)

set_option maxRecDepth 100000 in
set_option maxHeartbeats 400000 in
theorem rget_any (l : List UInt8) (w : World) (h8 : l.length ≤ 8) :
    Calls Try.prog 100 #[.string ⟨l.toArray⟩] w fun e w' => e = .returned (.int .u64 (getL l)) ∧ w = w' := by
  go_enter Try.func100, Try.ntmps100
  go_wp2
  go_loop [3, 4] (fun n i => ∃ k x : Nat, Hid (x = getL (l.take k)) ∧ k ≤ l.length ∧ i = .int .i64 k ∧ n = .int .u64 x) (fun _ i => l.length - (intOf i).toNat)
  case atStart => exact ⟨0, 0, Lib.hid rfl, by omega, rfl, rfl⟩
  case round =>
    obtain ⟨k, x, hx, hk, rfl, rfl⟩ := hrel
    by_cases hlt : k < l.length
    · have hx7 := getL_lt7 l k hlt h8
      rw [← hx.out] at hx7
      have hb := byte_lt l[k]
      go_wp2
      go_round
      case rel => exact ⟨k + 1, x * 256 + l[k].toNat, Lib.hid (by rw [getL_take l k hlt, hx.out]), by omega, by go_num, by go_num⟩
      case measure => simp [intOf] <;> omega
    · go_wp2
      go_ret
      exact ⟨ret_int (by rw [hx.out, List.take_of_length_le (by omega)]), rfl⟩

set_option maxRecDepth 100000 in
set_option maxHeartbeats 400000 in
theorem rput_any (n : Nat) (k : Int) (w : World) (hn : n < 18446744073709551616) (hk0 : -9223372036854775808 ≤ k) (hk1 : k ≤ 9223372036854775807) :
    Calls Try.prog 98 #[.int .u64 n, .int .i64 k] w fun e w' => e = .returned (.string ⟨(putL n (cl8 k)).toArray⟩) ∧ Below w.heap.size w w' := by
  go_enter Try.func98, Try.ntmps98
  go_wp2
  go_loopw [0, 5, 6] (fun m s i wr => ∃ j x : Nat, (j : Int) ≤ max k 0 ∧ j ≤ 8 ∧ x < 18446744073709551616 ∧ i = .int .i64 j ∧ m = .int .u64 x ∧ Hid (x = n / 256 ^ j) ∧ s = .string ⟨(putL n j).toArray⟩ ∧ Below w.heap.size w wr) (fun _ _ i _ => 8 - (intOf i).toNat)
  case atStart => exact ⟨0, n, by omega, by omega, hn, rfl, rfl, Lib.hid (by simp), rfl, Below.refl _ _⟩
  case round =>
    obtain ⟨j, x, hj, hj8, hxb, rfl, rfl, hx, rfl, hb⟩ := hrel
    have hcv := fun W => conv_one (P := Try.prog) Try.underlying63 Try.underlying5 Try.underlying9 W ((x : Int) % 256) (UInt8.ofNat x) (ofNat_toNat x)
    by_cases h : (j : Int) < k
    · by_cases h2 : j < 8
      · have hl := putL_length n j
        have hp : putL n (j + 1) = UInt8.ofNat x :: putL n j := by rw [putL, hx.out]
        have Hp := Lib.hid hp
        have hl2 : (putL n j).length ≤ 8 := by omega
        clear hp hl
        go_wp2
        go_roundw
        case rel => exact ⟨j + 1, x / 256, by omega, by omega, by omega, by go_num, by go_num, Lib.hid (by rw [hx.out, Nat.div_div_eq_div_mul, ← Nat.pow_succ]), by rw [Hp.out], hb.alloc hb.size _⟩
        case measure => simp [intOf] <;> omega
      · go_wp2
        go_ret
        exact ⟨ret_str (by rw [show cl8 k = j by unfold cl8; omega]), hb⟩
    · go_wp2
      go_ret
      exact ⟨ret_str (by rw [show cl8 k = j by unfold cl8; omega]), hb⟩

/-! ### Short -/
def shortL (n : Nat) : List UInt8 := if n < 128 then [UInt8.ofNat n] else UInt8.ofNat (n % 128 + 128) :: shortL (n / 128)
termination_by n
decreasing_by omega
theorem shortL_small {n : Nat} (h : n < 128) : shortL n = [UInt8.ofNat n] := by rw [shortL, if_pos h]
theorem shortL_big {n : Nat} (h : 128 ≤ n) : shortL n = UInt8.ofNat (n % 128 + 128) :: shortL (n / 128) := by rw [shortL, if_neg (by omega)]
theorem or128 (x : Nat) : bits .or .u8 ((x : Int) % 256) 128 = (x : Int) % 128 + 128 := by
  have h := u8_or_nat (x % 256) 128 (by omega) (by omega)
  have h2 : x % 256 ||| 128 = x % 128 + 128 := by
    have e1 : x % 256 = x % 128 + x / 128 % 2 * 128 := by omega
    have h3 : x / 128 % 2 = 0 ∨ x / 128 % 2 = 1 := by omega
    have j1 : ∀ y, y < 128 → 128 ||| y = 128 + y := fun y hy => nat_join 7 128 y (by decide) hy
    have e2 : ∀ y, y < 128 → (y + 128) ||| 128 = y + 128 := fun y hy => by
      rw [Nat.add_comm y 128, ← j1 y hy, Nat.or_comm 128 y, Nat.or_assoc, Nat.or_self]
    rcases h3 with h3 | h3
    · rw [e1, h3, Nat.or_comm]; simp only [Nat.zero_mul, Nat.add_zero]; rw [j1 _ (by omega)]; omega
    · rw [e1, h3, Nat.one_mul, e2 _ (by omega)]
  rw [h2] at h
  have e : (((x % 256 : Nat) : Int)) = (x : Int) % 256 := by omega
  rw [e] at h
  rw [show ((128 : Nat) : Int) = 128 from rfl] at h
  rw [h]; omega

set_option maxRecDepth 100000 in
set_option maxHeartbeats 400000 in
theorem short_any (n : Nat) (w : World) (hn : n < 18446744073709551616) :
    Calls Try.prog 84 #[.int .u64 n] w fun e w' => e = .returned (.string ⟨(shortL n).toArray⟩) ∧ Below w.heap.size w w' := by
  go_enter Try.func84, Try.ntmps84
  go_wp2
  refine wp_scope_again 0 (fun a' w' => Below w.heap.size w w' ∧ ∃ (x k : Nat) (v : Value) (pre : List UInt8), Hid (pre ++ shortL x = shortL n) ∧ x < 18446744073709551616 ∧ k ≤ 10 ∧ Hid (x * 128 ^ k ≤ n) ∧ w'.ownsRow w.heap.size 5 1 v k (pre.map bcell) ∧ ∃ u1 u2 u4 u5 u6 u7 u8 u9 u10 u11 u12 u13 u14 u15 u16 u17 u18 u19 : Value, a' = ⟨#[.int .u64 (x : Int), u1, u2, v, u4, u5, u6, u7, u8, u9, u10, u11, u12, u13, u14, u15, u16, u17, u18, u19], []⟩) (fun a' _ => (intOf (a'.tmps.getD 0 undef)).toNat) rfl ?_ ?_
  · rintro a' wr ⟨hb, x, k, v, pre, hpre, hx, hk, hxk, hown, u1, u2, u4, u5, u6, u7, u8, u9, u10, u11, u12, u13, u14, u15, u16, u17, u18, u19, rfl⟩
    have hor := or128 x
    have hsz := hb.size
    by_cases hlt : x < 128
    · have hx8 : ∀ w1 : World, ∀ v1, w1.ownsRow w.heap.size 5 1 v1 (k + 1) (List.map bcell pre ++ [Value.int .u8 (x : Int)]) → (convert 63 9 v1).run Try.prog w1 = .ok (.string ⟨(pre ++ [UInt8.ofNat x]).toArray⟩) w1 := fun w1 v1 h =>
        conv_owned (P := Try.prog) (src := 63) (dst := 9) (e := 5) Try.underlying63 Try.underlying5 Try.underlying9 (pre ++ [UInt8.ofNat x]) (by
          have e : (Value.int .u8 (x : Int)) = bcell (UInt8.ofNat x) := by rw [bcell_ofNat]; go_num
          rw [List.map_append, List.map_singleton, ← e]; exact h)
      have Hx8 := Lib.hid hx8
      clear hx8
      go_wp2_with (at_builtin; refine wpList_push _ rfl _ _ 63 rfl w.heap.size 5 (.int .u8 0) 1 Try.underlying63 i5 rfl _ _ _ rfl hown _ rfl rfl (by omega) (by omega) hsz ?_; intro v1 w1 hown1 hb1; have hcv := Hx8.out w1 v1 hown1; clear hown1 hown hor)
      go_ret
      exact ⟨ret_str (by rw [← hpre.out, shortL_small hlt]), hb.trans (by assumption)⟩
    · go_wp2_with (at_builtin; refine wpList_push _ rfl _ _ 63 rfl w.heap.size 5 (.int .u8 0) 1 Try.underlying63 i5 rfl _ _ _ rfl hown _ rfl rfl (by omega) (by omega) hsz ?_; intro v1 w1 hown1 hb1)
      go_step3
      have h128 : 128 * 128 ^ k ≤ n := Nat.le_trans (Nat.mul_le_mul_right _ (by omega)) hxk.out
      have hk9 : k + 1 ≤ 10 := by
        refine Decidable.byContradiction fun h => ?_
        have : 128 ^ 10 ≤ 128 ^ k := Nat.pow_le_pow_right (by decide) (by omega)
        have h3 : (128 : Nat) ^ 10 = 1180591620717411303424 := by decide
        omega
      exact ⟨rfl, ⟨hb.trans hb1, x / 128, k + 1, v1, pre ++ [UInt8.ofNat (x % 128 + 128)], Lib.hid (by rw [List.append_assoc, ← hpre.out, shortL_big (n := x) (by omega)]; rfl), by omega, hk9, Lib.hid (by
        rw [Nat.pow_succ]; have h4 : x / 128 * (128 ^ k * 128) ≤ x * 128 ^ k := by
          rw [Nat.mul_comm (128 ^ k) 128, ← Nat.mul_assoc]; exact Nat.mul_le_mul_right _ (by omega)
        exact Nat.le_trans h4 hxk.out), by
        rw [List.map_append, List.map_singleton, bcell_ofNat]; rw [show (((x % 128 + 128 : Nat) : Int) % 256) = (x : Int) % 128 + 128 by omega]; exact hown1, _, _, _, _, _, _, _, _, _, _, _, _, _, _, _, _, _, _, rfl⟩, by simp [intOf]; omega⟩
  · intro hP
    go_wp2
    go_step3
    simp only [Exit.then]
    apply_assumption
    exact hP.out _ _ ⟨Below.refl _ _, n, 0, _, [], Lib.hid rfl, hn, by omega, Lib.hid (by simp), World.ownsRow_nil _ _ _ _, _, _, _, _, _, _, _, _, _, _, _, _, _, _, _, _, _, _, rfl⟩

theorem add_is (a b r : Nat) (ha : a < 18446744073709551616) (hb : b < 18446744073709551616) (hr : r = min (a + b) 18446744073709551615) (w : World) :
    Calls Try.prog 77 #[.int .u64 a, .int .u64 b] w fun e w' => e = .returned (.int .u64 r) ∧ w = w' := by rw [hr]; exact add_any a b w ha hb
theorem put_is (n : Nat) (k : Int) (r : List UInt8) (hn : n < 18446744073709551616) (hr : r = putL n (cl8 k)) (w : World) :
    Calls Try.prog 59 #[.int .u64 n, .int .i64 k] w fun e w' => e = .returned (.string ⟨r.toArray⟩) ∧ Below w.heap.size w w' := by rw [hr]; exact put_any n k w hn
theorem short_is (n : Nat) (r : List UInt8) (hn : n < 18446744073709551616) (hr : r = shortL n) (w : World) :
    Calls Try.prog 84 #[.int .u64 n] w fun e w' => e = .returned (.string ⟨r.toArray⟩) ∧ Below w.heap.size w w' := by rw [hr]; exact short_any n w hn

end Go.Proofs.Ythlggigjnpldcaa
namespace Go.Proofs.Ythlggigjnpldcaa
open Go.RowKit

def poly : Nat := 2197175160
def step1 (n : Nat) : Nat := if n % 2 = 1 then n / 2 ^^^ 2197175160 else n / 2
def stepN : Nat → Nat → Nat
  | 0, n => n
  | i + 1, n => stepN i (step1 n)
theorem stepN_succ (i n : Nat) : stepN (i + 1) n = step1 (stepN i n) := by
  induction i generalizing n with
  | zero => rfl
  | succ i ih => rw [stepN, ih]; rfl
def stepB (n : Nat) (c : UInt8) : Nat := stepN 8 (n ^^^ c.toNat)
def crcRun (n : Nat) (l : List UInt8) : Nat := l.foldl stepB n
def crcL (l : List UInt8) : Nat := 4294967295 - crcRun 4294967295 l
def quickB (n : Nat) (c : UInt8) : Nat := (n ^^^ c.toNat) * 1099511628211 % 18446744073709551616
def quickRun (n : Nat) (l : List UInt8) : Nat := l.foldl quickB n
def quickL (l : List UInt8) : Nat := quickRun 14695981039346656037 l

theorem step1_lt {n : Nat} (h : n < 4294967296) : step1 n < 4294967296 := by
  unfold step1
  split
  · exact Nat.xor_lt_two_pow (n := 32) (by omega) (by omega)
  · omega
theorem stepN_lt (i : Nat) {n : Nat} (h : n < 4294967296) : stepN i n < 4294967296 := by
  induction i generalizing n with
  | zero => exact h
  | succ i ih => exact ih (step1_lt h)
theorem xor_byte_lt {n : Nat} (c : UInt8) (h : n < 4294967296) : n ^^^ c.toNat < 4294967296 :=
  Nat.xor_lt_two_pow (n := 32) h (by have := c.toNat_lt; omega)
theorem stepB_lt {n : Nat} (c : UInt8) (h : n < 4294967296) : stepB n c < 4294967296 := stepN_lt 8 (xor_byte_lt c h)
theorem crcRun_lt (l : List UInt8) {n : Nat} (h : n < 4294967296) : crcRun n l < 4294967296 := by
  induction l generalizing n with
  | nil => exact h
  | cons c l ih => exact ih (stepB_lt c h)
theorem quickB_lt (n : Nat) (c : UInt8) : quickB n c < 18446744073709551616 := Nat.mod_lt _ (by decide)
theorem quickRun_lt (l : List UInt8) {n : Nat} (h : n < 18446744073709551616) : quickRun n l < 18446744073709551616 := by
  induction l generalizing n with
  | nil => exact h
  | cons c l ih => exact ih (quickB_lt n c)
theorem foldl_snoc {α β : Type} (f : β → α → β) (b : β) (l : List α) (a : α) : (l ++ [a]).foldl f b = f (l.foldl f b) a := by simp
theorem crcRun_append (n : Nat) (a b : List UInt8) : crcRun n (a ++ b) = crcRun (crcRun n a) b := by simp [crcRun]
theorem quickRun_append (n : Nat) (a b : List UInt8) : quickRun n (a ++ b) = quickRun (quickRun n a) b := by simp [quickRun]
theorem crcRun_take (n : Nat) (l : List UInt8) (k : Nat) (h : k < l.length) : crcRun n (l.take (k + 1)) = stepB (crcRun n (l.take k)) l[k] := by
  rw [List.take_succ_eq_append_getElem h]; exact foldl_snoc stepB n _ _
theorem quickRun_take (n : Nat) (l : List UInt8) (k : Nat) (h : k < l.length) : quickRun n (l.take (k + 1)) = quickB (quickRun n (l.take k)) l[k] := by
  rw [List.take_succ_eq_append_getElem h]; exact foldl_snoc quickB n _ _

/-! ### the walk's forms -/
theorem and1_u32 (x : Nat) (h : x < 4294967296) : bits .and .u32 (x : Int) 1 = (x : Int) % 2 := by
  have := u32_and_nat x 1 h (by decide)
  rw [nat_mask1, show ((x % 2 : Nat) : Int) = (x : Int) % 2 by omega] at this
  exact this
theorem xor_u32_lit (a b : Nat) (ha : a < 4294967296) (hb : b < 4294967296) (u v : Int) (hu : u = a) (hv : v = b) : bits .xor .u32 u v = ((a ^^^ b : Nat) : Int) := by
  subst hu; subst hv; exact u32_xor_nat a b ha hb
theorem half_xor (x : Nat) (h : x < 4294967296) : bits .xor .u32 ((x : Int) / 2) 2197175160 = ((x / 2 ^^^ 2197175160 : Nat) : Int) :=
  xor_u32_lit _ _ (by omega) (by omega) _ _ (by omega) (by omega)
theorem xor_byte_u32 (x : Nat) (c : UInt8) (h : x < 4294967296) : bits .xor .u32 (x : Int) (c.toNat : Int) = ((x ^^^ c.toNat : Nat) : Int) :=
  u32_xor_nat x c.toNat h (by have := c.toNat_lt; omega)
theorem xor_byte_u64 (x : Nat) (c : UInt8) (h : x < 18446744073709551616) : bits .xor .u64 (x : Int) (c.toNat : Int) = ((x ^^^ c.toNat : Nat) : Int) :=
  u64_xor_nat x c.toNat h (by have := c.toNat_lt; omega)

theorem not32 (x : Nat) (h : x < 4294967296) : 4294967295 ^^^ x = 4294967295 - x := by
  have h1 : (BitVec.allOnes 32 ^^^ BitVec.ofNat 32 x).toNat = (~~~ (BitVec.ofNat 32 x)).toNat := by rw [BitVec.allOnes_xor]
  rw [BitVec.toNat_xor, BitVec.toNat_not, BitVec.toNat_allOnes, BitVec.toNat_ofNat, Nat.mod_eq_of_lt (by omega)] at h1
  exact h1
theorem not_u32 (x : Nat) (h : x < 4294967296) : bits .xor .u32 IntKind.u32.max (x : Int) = ((4294967295 - x : Nat) : Int) := by
  rw [← not32 x h]
  exact xor_u32_lit 4294967295 x (by omega) h _ _ (by decide) rfl

set_option maxRecDepth 100000 in
set_option maxHeartbeats 400000 in
theorem step_any (n : Nat) (c : UInt8) (w : World) (hn : n < 4294967296) :
    Calls Try.prog 115 #[.int .u32 n, .int .u8 c.toNat] w fun e w' => e = .returned (.int .u32 (stepB n c)) ∧ w = w' := by
  have hx := xor_byte_u32 n c hn
  have hlt := xor_byte_lt c hn
  obtain ⟨s, hs⟩ : ∃ s, s = n ^^^ c.toNat := ⟨_, rfl⟩
  rw [← hs] at hx hlt
  have Hs := Lib.hid hs
  clear hs
  go_enter Try.func115, Try.ntmps115
  go_wp2
  refine wp_scope_again 0 (fun a' w' => w = w' ∧ ∃ (k x : Nat), Hid (x = stepN k s) ∧ k < 8 ∧ x < 4294967296 ∧ ∃ u1 u2 u3 u4 u6 u7 u8 u9 u10 u11 u12 u13 u14 u15 u16 u17 u18 u19 u20 u21 u22 : Value, a' = ⟨#[.int .u32 (x : Int), u1, u2, u3, u4, .int .i64 (k : Int), u6, u7, u8, u9, u10, u11, u12, u13, u14, u15, u16, u17, u18, u19, u20, u21, u22], []⟩) (fun a' _ => 8 - (intOf (a'.tmps.getD 5 undef)).toNat) rfl ?_ ?_
  · rintro a' w' ⟨rfl, k, x, hx, hk, hxl, u1, u2, u3, u4, u6, u7, u8, u9, u10, u11, u12, u13, u14, u15, u16, u17, u18, u19, u20, u21, u22, rfl⟩
    have h1 := and1_u32 x hxl
    have h2 := half_xor x hxl
    by_cases hodd : x % 2 = 1
    · have e1 : ((x : Int) % 2 == 1) = true := by rw [beq_iff_eq]; omega
      have e2 : stepN (k + 1) s = x / 2 ^^^ 2197175160 := by rw [stepN_succ, ← hx.out, step1, if_pos hodd]
      have e3 : x / 2 ^^^ 2197175160 < 4294967296 := by rw [← e2]; exact stepN_lt _ hlt
      have E2 := Lib.hid e2
      clear e2 hodd
      go_wp2
      · go_step3
        exact ⟨rfl, ⟨rfl, k + 1, _, Lib.hid E2.out.symm, by omega, e3, _, _, _, _, _, _, _, _, _, _, _, _, _, _, _, _, _, _, _, _, _, by go_num⟩, by simp [intOf] <;> omega⟩
      · go_ret
        refine ⟨?_, rfl⟩
        have : stepB n c = _ := (show stepB n c = stepN (k + 1) s by rw [stepB, Hs.out]; congr 1; omega).trans E2.out
        rw [this]; rfl
    · have e1 : ((x : Int) % 2 == 1) = false := by rw [beq_eq_false_iff_ne]; omega
      have e2 : stepN (k + 1) s = x / 2 := by rw [stepN_succ, ← hx.out, step1, if_neg hodd]
      have e3 : x / 2 < 4294967296 := by omega
      have E2 := Lib.hid e2
      clear e2 hodd
      go_wp2
      · go_step3
        exact ⟨rfl, ⟨rfl, k + 1, _, Lib.hid E2.out.symm, by omega, e3, _, _, _, _, _, _, _, _, _, _, _, _, _, _, _, _, _, _, _, _, _, by go_num⟩, by simp [intOf] <;> omega⟩
      · go_ret
        refine ⟨?_, rfl⟩
        have : stepB n c = _ := (show stepB n c = stepN (k + 1) s by rw [stepB, Hs.out]; congr 1; omega).trans E2.out
        rw [this]; rfl
  · intro hP
    go_wp2
    go_step3
    simp only [Exit.then]
    apply_assumption
    exact hP.out _ _ ⟨rfl, 0, s, Lib.hid rfl, by omega, hlt, _, _, _, _, _, _, _, _, _, _, _, _, _, _, _, _, _, _, _, _, _, rfl⟩


/-! ### The parts: a slice of strings in memory -/
def Parts (w : World) (g : Nat) (ps : List (List UInt8)) : Prop := ∀ j (h : j < ps.length), w.cell? ⟨g, j, none⟩ = some (.string ⟨ps[j].toArray⟩)
def flat (ps : List (List UInt8)) : List UInt8 := ps.flatten
theorem flat_take (ps : List (List UInt8)) (k : Nat) (h : k < ps.length) : (ps.take (k + 1)).flatten = (ps.take k).flatten ++ ps[k] := by
  rw [List.take_succ_eq_append_getElem h, List.flatten_append]; simp only [List.flatten_cons, List.flatten_nil, List.append_nil]

set_option maxRecDepth 100000 in
set_option maxHeartbeats 800000 in
theorem crc_any (g cap : Nat) (ps : List (List UInt8)) (w : World) (hp : Parts w g ps) (hlen : ps.length ≤ 1000) (hl : ∀ p ∈ ps, p.length ≤ 9223372036854775807) :
    Calls Try.prog 110 #[.slice (some ⟨g, 0, none⟩) ps.length cap] w fun e w' => e = .returned (.int .u32 (crcL ps.flatten)) ∧ w = w' := by
  have Hp := Lib.hid hp
  have Hl := Lib.hid hl
  clear hp hl
  go_enter Try.func110, Try.ntmps110
  go_wp2
  go_loop [3, 9] (fun n i => ∃ k x : Nat, k ≤ ps.length ∧ x < 4294967296 ∧ Hid (x = crcRun 4294967295 (ps.take k).flatten) ∧ i = .int .i64 k ∧ n = .int .u32 x) (fun _ i => ps.length - (intOf i).toNat)
  case atStart => exact ⟨0, 4294967295, by omega, by omega, Lib.hid rfl, rfl, rfl⟩
  case round =>
    obtain ⟨k, x, hk, hx, hX, rfl, rfl⟩ := hrel
    by_cases hlt : k < ps.length
    · obtain ⟨p, hpk⟩ : ∃ p, p = ps[k] := ⟨_, rfl⟩
      have hc := Hp.out k hlt
      rw [← hpk] at hc
      have hpl := Hl.out p (by rw [hpk]; exact List.getElem_mem hlt)
      have Hpk := Lib.hid hpk
      clear hpk
      go_wp2
      go_loop [3, 15] (fun n i => ∃ j y : Nat, j ≤ p.length ∧ y < 4294967296 ∧ Hid (y = crcRun x (p.take j)) ∧ i = .int .i64 j ∧ n = .int .u32 y) (fun _ i => p.length - (intOf i).toNat)
      case atStart => exact ⟨0, x, by omega, hx, Lib.hid rfl, rfl, rfl⟩
      case round =>
        obtain ⟨j, y, hj, hy, hY, rfl, rfl⟩ := hrel
        by_cases hjt : j < p.length
        · obtain ⟨z, hz⟩ : ∃ z, z = stepB y p[j] := ⟨_, rfl⟩
          have hs := Lib.hid (fun w => step_any y p[j] w hy)
          rw [← hz] at hs
          have hzl : z < 4294967296 := by rw [hz]; exact stepB_lt _ hy
          have hZ : Hid (z = crcRun x (p.take (j + 1))) := Lib.hid (by rw [crcRun_take x p j hjt, hz, hY.out])
          clear hz
          go_wp2_with fail
          refine (hs.out _).mono ?_
          rintro e w' ⟨rfl, rfl⟩
          go_wp2_with fail
          go_round
          case rel => exact ⟨j + 1, z, by omega, hzl, hZ, by go_num, by go_num⟩
          case measure => simp [intOf] <;> omega
        · go_wp2_with fail
          go_round
          case rel => exact ⟨k + 1, y, by omega, hy, Lib.hid (by rw [flat_take ps k hlt, crcRun_append, ← hX.out, ← Hpk.out, hY.out, List.take_of_length_le (by omega)]), by go_num, by go_num⟩
          case measure => simp [intOf] <;> omega
    · have hn := not_u32 x hx
      go_wp2
      go_ret
      exact ⟨ret_int (by rw [hX.out, List.take_of_length_le (by omega)]; rfl), rfl⟩

set_option maxRecDepth 100000 in
set_option maxHeartbeats 800000 in
theorem rcrc_any (l : List UInt8) (w : World) (hl : l.length ≤ 9223372036854775807) :
    Calls Try.prog 111 #[.string ⟨l.toArray⟩] w fun e w' => e = .returned (.int .u32 (crcL l)) ∧ w = w' := by
  go_enter Try.func111, Try.ntmps111
  go_wp2
  go_loop [3, 4] (fun n i => ∃ j y : Nat, j ≤ l.length ∧ y < 4294967296 ∧ Hid (y = crcRun 4294967295 (l.take j)) ∧ i = .int .i64 j ∧ n = .int .u32 y) (fun _ i => l.length - (intOf i).toNat)
  case atStart => exact ⟨0, 4294967295, by omega, by omega, Lib.hid rfl, rfl, rfl⟩
  case round =>
    obtain ⟨j, y, hj, hy, hY, rfl, rfl⟩ := hrel
    by_cases hjt : j < l.length
    · obtain ⟨s, hs⟩ : ∃ s, s = y ^^^ l[j].toNat := ⟨_, rfl⟩
      have hq1 := xor_byte_u32 y l[j] hy
      have hsl := xor_byte_lt l[j] hy
      rw [← hs] at hq1 hsl
      have Hs := Lib.hid hs
      clear hs
      go_wp2
      go_loop [3, 5] (fun n i => ∃ k x : Nat, k ≤ 8 ∧ x < 4294967296 ∧ Hid (x = stepN k s) ∧ i = .int .i64 k ∧ n = .int .u32 x) (fun _ i => 8 - (intOf i).toNat)
      case atStart => exact ⟨0, s, by omega, hsl, Lib.hid rfl, rfl, rfl⟩
      case round =>
        obtain ⟨k, x, hk, hxl, hx, rfl, rfl⟩ := hrel
        by_cases hk8 : k < 8
        · have h2 := half_xor x hxl
          by_cases hodd : x % 2 = 1
          · have e1 : ((x : Int) % 2 == 1) = true := by rw [beq_iff_eq]; omega
            have e2 : stepN (k + 1) s = x / 2 ^^^ 2197175160 := by rw [stepN_succ, ← hx.out, step1, if_pos hodd]
            have e3 : x / 2 ^^^ 2197175160 < 4294967296 := by rw [← e2]; exact stepN_lt _ hsl
            have E2 := Lib.hid e2
            clear e2 hodd
            go_wp2
            go_round
            case rel => exact ⟨k + 1, _, by omega, e3, Lib.hid E2.out.symm, by go_num, by go_num⟩
            case measure => simp [intOf] <;> omega
          · have e1 : ((x : Int) % 2 == 1) = false := by rw [beq_eq_false_iff_ne]; omega
            have e2 : stepN (k + 1) s = x / 2 := by rw [stepN_succ, ← hx.out, step1, if_neg hodd]
            have e3 : x / 2 < 4294967296 := by omega
            have E2 := Lib.hid e2
            clear e2 hodd
            go_wp2
            go_round
            case rel => exact ⟨k + 1, _, by omega, e3, Lib.hid E2.out.symm, by go_num, by go_num⟩
            case measure => simp [intOf] <;> omega
        · go_wp2
          go_round
          case rel => exact ⟨j + 1, x, by omega, hxl, Lib.hid (by rw [crcRun_take _ l j hjt, ← hY.out, hx.out, show k = 8 by omega, Hs.out]; rfl), by go_num, by go_num⟩
          case measure => simp [intOf] <;> omega
    · go_wp2
      go_ret
      exact ⟨ret_int (by rw [crcL, hY.out, List.take_of_length_le (by omega)]; have := crcRun_lt l (n := 4294967295) (by decide); omega), rfl⟩


/-! ### turned, Mark, Check -/
set_option maxRecDepth 100000 in
set_option maxHeartbeats 800000 in
theorem turned_any (l : List UInt8) (w : World) (hl : l.length ≤ 1000000) :
    Calls Try.prog 109 #[.string ⟨l.toArray⟩] w fun e w' => e = .returned (.string ⟨l.reverse.toArray⟩) ∧ Below w.heap.size w w' := by
  have hcv := fun w => run_bytes_of_string (P := Try.prog) w 9 63 5 ⟨l.toArray⟩ Try.underlying9 Try.underlying63 Try.underlying5
  have hge := grownCap_ge w l.length 0 5
  have Hge := Lib.hid hge
  clear hge
  go_enter Try.func109, Try.ntmps109
  go_wp2
  go_loopw [10] (fun i wr => ∃ k : Nat, k ≤ l.length / 2 ∧ i = .int .i64 k ∧ Row wr w.heap.size 5 l.length (fun t => if t < k ∨ l.length - k ≤ t then bcell (l.reverse.getD t 0) else bcell (l.getD t 0)) ∧ Below w.heap.size w wr) (fun i _ => l.length / 2 - (intOf i).toNat)
  case atStart =>
    refine ⟨0, by omega, rfl, ((Row.bytes w _ l _).drewN 1).congr fun t ht => ?_, ((Below.refl _ _).alloc (Nat.le_refl _) _).drew⟩
    rw [if_neg (by omega)]
  case round =>
    obtain ⟨k, hk, rfl, hrow, hb⟩ := hrel
    clear hcv
    by_cases hlt : k < l.length / 2
    · obtain ⟨m, hm⟩ : ∃ m, m = l.length - 1 - k := ⟨_, rfl⟩
      have c1 := hrow.cell (i := k) (by omega)
      have c2 := hrow.cell (i := m) (by omega)
      have f1 := hrow.frozen (i := k) (by omega)
      have f2 := hrow.frozen (i := m) (by omega)
      have hw1 : IntKind.i64.wrap ((l.length : Int) - 1) = (l.length : Int) - 1 := by rw [IntKind.wrap_i64]; omega
      have hw2 : IntKind.i64.wrap ((l.length : Int) - 1 - (k : Int)) = (m : Int) := by rw [IntKind.wrap_i64]; omega
      have hw3 : (k : Int) < (l.length : Int) := by omega
      have hw4 : (m : Int) < (l.length : Int) := by omega
      rw [if_neg (by omega)] at c1 c2
      obtain ⟨x, hx⟩ : ∃ x, x = l.getD k 0 := ⟨_, rfl⟩
      obtain ⟨y, hy⟩ : ∃ y, y = l.getD m 0 := ⟨_, rfl⟩
      rw [← hx] at c1
      rw [← hy] at c2
      unfold bcell at c1 c2
      have hkm : m ≠ k := by omega
      have c3 : (wr.setCell ⟨w.heap.size, k, none⟩ (.int .u8 (y.toNat : Int))).cell? ⟨w.heap.size, m, none⟩ = some (.int .u8 (y.toNat : Int)) := by
        rw [World.cell?_setCell_other _ _ _ _ (by intro h; injection h; omega)]; exact c2
      have Hkm := Lib.hid hkm
      clear hkm
      have Hrow := Lib.hid hrow
      have Hb := Lib.hid hb
      have Hm := Lib.hid hm
      have Hx := Lib.hid hx
      have Hy := Lib.hid hy
      clear hrow hb hm hx hy
      go_wp2
      go_region
      go_wp2
      go_roundw
      case rel =>
        refine ⟨k + 1, by omega, by go_num, ?_, ?_⟩
        · refine ((((Hrow.out.set k (.int .u8 (y.toNat : Int))).set m (.int .u8 (x.toNat : Int)))).drewN 1).congr fun t ht => ?_
          have hmo := Hm.out
          by_cases h1 : t = m
          · subst h1
            rw [if_pos rfl, if_pos (by omega), Hx.out]
            have : l.length - 1 - t = k := by omega
            simp [bcell, ht, this, show k < l.length by omega]
          · rw [if_neg h1]
            by_cases h2 : t = k
            · subst h2
              rw [if_pos rfl, if_pos (by omega), Hy.out, hmo]
              have : l.length - 1 - t < l.length := by omega
              simp [bcell, ht, this]
            · rw [if_neg h2]
              by_cases h3 : t < k ∨ l.length - k ≤ t
              · rw [if_pos h3, if_pos (by omega)]
              · rw [if_neg h3, if_neg (by omega)]
        · exact ((Hb.out.setCell (p := ⟨w.heap.size, k, none⟩) (Nat.le_refl _) _).setCell (p := ⟨w.heap.size, m, none⟩) (Nat.le_refl _) _).drew
      case measure => simp [intOf] <;> omega
    · have hk2 : k = l.length / 2 := by omega
      have hconv := fun cc => conv_Row (P := Try.prog) (src := 63) (dst := 9) (cap := cc) l.reverse Try.underlying63 Try.underlying5 Try.underlying9 hrow (by simp) (fun i hi => by
        have hi' : i < l.length := by simpa using hi
        by_cases h : i < k ∨ l.length - k ≤ i
        · rw [if_pos h]; simp [hi']
        · rw [if_neg h]
          have h2 : l.length - 1 - i = i := by omega
          simp [hi', h2])
      clear hrow hk2
      go_wp2
      go_ret
      exact ⟨rfl, hb⟩


theorem parts_lit (ps : List (List UInt8)) (cs : Array Value) (hcs : cs = (ps.map str).toArray) (w : World) (t : TypeId) : Parts (w.alloc (.cells cs t)) w.heap.size ps := by
  subst hcs
  intro j hj
  rw [cell_of_row _ _ _ _ _ _ (heap_alloc_new w _)]
  simp [hj, str]
theorem crc_lit (ps : List (List UInt8)) (cs : Array Value) (hcs : cs = (ps.map str).toArray) (n : Nat) (hn : n = ps.length) (hlen : ps.length ≤ 1000) (hl : ∀ p ∈ ps, p.length ≤ 9223372036854775807) (r : Nat) (hr : r = crcL ps.flatten) (g : Nat) (w : World) (hg : g = w.heap.size) :
    Calls Try.prog 110 #[.slice (some ⟨g, 0, none⟩) n n] (w.alloc (.cells cs 9)) fun e w' => e = .returned (.int .u32 r) ∧ w.alloc (.cells cs 9) = w' := by
  subst hn hr hg
  exact crc_any _ _ ps _ (parts_lit ps cs hcs w _) hlen hl
def le4 (n : Nat) : List UInt8 := [UInt8.ofNat n, UInt8.ofNat (n / 256), UInt8.ofNat (n / 65536), UInt8.ofNat (n / 16777216)]
def markL (l : List UInt8) : List UInt8 := l ++ le4 (crcL l)
theorem le4_eq (n : Nat) : (putL n (cl8 4)).reverse = le4 n := by
  have : cl8 4 = 4 := by decide
  rw [this]
  simp [putL, le4]
theorem crcL_lt (l : List UInt8) : crcL l < 4294967296 := by unfold crcL; omega
theorem markL_length (l : List UInt8) : (markL l).length = l.length + 4 := by simp [markL, le4]

set_option maxRecDepth 100000 in
set_option maxHeartbeats 800000 in
theorem mark_any (l : List UInt8) (w : World) (hl : l.length ≤ 1000000) :
    Calls Try.prog 96 #[.string ⟨l.toArray⟩] w fun e w' => e = .returned (.string ⟨(markL l).toArray⟩) ∧ Below w.heap.size w w' := by
  obtain ⟨c, hc⟩ : ∃ c, c = crcL l := ⟨_, rfl⟩
  have hcl := crcL_lt l
  rw [← hc] at hcl
  have C1 := Lib.hid (crc_lit [l] #[.string ⟨l.toArray⟩] rfl 1 rfl (by simp) (by simp; omega) c (by simp [hc]))
  obtain ⟨p, hp⟩ : ∃ p, p = putL c (cl8 4) := ⟨_, rfl⟩
  have P1 := Lib.hid (put_is c 4 p (by omega) hp)
  have hpl : p.length ≤ 1000000 := by rw [hp, putL_length]; have := cl8_le 4; omega
  have hpl4 : p.reverse.length ≤ 100 := by rw [List.length_reverse, hp, putL_length]; have := cl8_le 4; omega
  have T1 := Lib.hid (fun w => turned_any p w hpl)
  have hr : markL l = l ++ p.reverse := by rw [markL, ← hc, ← le4_eq, hp]
  have Hr := Lib.hid hr
  clear hr hp hc
  go_enter Try.func96, Try.ntmps96
  go_wp2_with fail
  refine (C1.out _ w rfl).mono ?_
  rintro e w1 ⟨rfl, rfl⟩
  go_wp2_with fail
  refine (P1.out _).mono ?_
  rintro e w2 ⟨rfl, hb2⟩
  go_wp2_with fail
  refine (T1.out _).mono ?_
  rintro e w3 ⟨rfl, hb3⟩
  go_wp2
  go_ret
  exact ⟨ret_str Hr.out.symm, (((Below.refl _ _).alloc (Nat.le_refl _) _).trans' hb2).trans' hb3⟩

theorem conv_four {P : Program} {src dst e : TypeId} (hs : P.underlying src = some (.slice e)) (he : P.underlying e = some (.int .u8)) (hd : P.underlying dst = some .string) (W : World) (x0 x1 x2 x3 : Int) (b0 b1 b2 b3 : UInt8)
    (h0 : (b0.toNat : Int) = x0) (h1 : (b1.toNat : Int) = x1) (h2 : (b2.toNat : Int) = x2) (h3 : (b3.toNat : Int) = x3) :
    (convert src dst (.slice (some ⟨W.heap.size, 0, none⟩) 4 4)).run P (W.alloc (.cells #[.int .u8 x0, .int .u8 x1, .int .u8 x2, .int .u8 x3] e)) = .ok (.string ⟨[b0, b1, b2, b3].toArray⟩) (W.alloc (.cells #[.int .u8 x0, .int .u8 x1, .int .u8 x2, .int .u8 x3] e)) := by
  subst h0 h1 h2 h3
  refine conv_row (n := 4) (f := fun i => bcell ([b0, b1, b2, b3].getD i 0)) [b0, b1, b2, b3] hs he hd (World.rowIs_alloc W #[bcell b0, bcell b1, bcell b2, bcell b3] e _ ?_) rfl ?_
  · intro i hi
    match i, hi with
    | 0, _ => rfl
    | 1, _ => rfl
    | 2, _ => rfl
    | 3, _ => rfl
  · intro i hi
    match i, hi with
    | 0, _ => rfl
    | 1, _ => rfl
    | 2, _ => rfl
    | 3, _ => rfl

set_option maxRecDepth 100000 in
set_option maxHeartbeats 800000 in
theorem rmark_any (l : List UInt8) (w : World) (hl : l.length ≤ 1000000) :
    Calls Try.prog 97 #[.string ⟨l.toArray⟩] w fun e w' => e = .returned (.string ⟨(markL l).toArray⟩) ∧ Below w.heap.size w w' := by
  obtain ⟨c, hc⟩ : ∃ c, c = crcL l := ⟨_, rfl⟩
  have hcl := crcL_lt l
  have C1 := Lib.hid (fun w => rcrc_any l w (by omega))
  rw [← hc] at hcl C1
  have hr : markL l = l ++ le4 c := by rw [markL, ← hc]
  have Hr := Lib.hid hr
  clear hr hc
  have hcv := fun W => conv_four (P := Try.prog) Try.underlying63 Try.underlying5 Try.underlying9 W ((c : Int) % 256) ((c : Int) / 256 % 256) ((c : Int) / 65536 % 256) ((c : Int) / 16777216) (UInt8.ofNat c) (UInt8.ofNat (c / 256)) (UInt8.ofNat (c / 65536)) (UInt8.ofNat (c / 16777216))
    (ofNat_toNat _) (by rw [ofNat_toNat]; omega) (by rw [ofNat_toNat]; omega) (by rw [ofNat_toNat]; omega)
  go_enter Try.func97, Try.ntmps97
  go_wp2_with fail
  refine (C1.out _).mono ?_
  rintro e w1 ⟨rfl, rfl⟩
  go_wp2
  go_ret
  exact ⟨ret_str Hr.out.symm, (Below.refl _ _).alloc (Nat.le_refl _) _⟩

set_option maxRecDepth 100000 in
set_option maxHeartbeats 800000 in
theorem check_short (l : List UInt8) (w : World) (hl : l.length < 4) :
    Calls Try.prog 112 #[.string ⟨l.toArray⟩] w fun e w' => e = .returned (.tuple #[.string ⟨#[]⟩, .int .i64 3]) ∧ w = w' := by
  go_enter Try.func112, Try.ntmps112
  go_wp2
  go_ret2
  exact ⟨rfl, rfl⟩

set_option maxRecDepth 100000 in
set_option maxHeartbeats 800000 in
theorem check_ok (l : List UInt8) (w : World) (hl : l.length ≤ 1000000) :
    Calls Try.prog 112 #[.string ⟨(markL l).toArray⟩] w fun e w' => e = .returned (.tuple #[.string ⟨l.toArray⟩, .int .i64 0]) ∧ Below w.heap.size w w' := by
  obtain ⟨m, hm⟩ : ∃ m, m = markL l := ⟨_, rfl⟩
  have M1 := Lib.hid (fun w => mark_any l w hl)
  have hlen := markL_length l
  rw [← hm] at M1 hlen ⊢
  have ht : m.take l.length = l := by rw [hm, markL]; simp
  have h4 : 4 ≤ m.length := by omega
  have h5 : m.length ≤ 2000000 := by omega
  have hl4 : ((m.length : Int) - 4) = l.length := by omega
  clear hm hlen
  go_enter Try.func112, Try.ntmps112
  go_wp2_with fail
  refine (M1.out _).mono ?_
  rintro e w1 ⟨rfl, hb⟩
  go_wp2
  go_ret2
  exact ⟨rfl, hb⟩

set_option maxRecDepth 100000 in
set_option maxHeartbeats 800000 in
theorem check_bad (l t : List UInt8) (w : World) (hl : l.length ≤ 1000000) (h4 : 4 ≤ l.length) (ht : t = l.take (l.length - 4)) (hne : markL t ≠ l) :
    Calls Try.prog 112 #[.string ⟨l.toArray⟩] w fun e w' => e = .returned (.tuple #[.string ⟨#[]⟩, .int .i64 9]) ∧ Below w.heap.size w w' := by
  have htl : t.length ≤ 1000000 := by rw [ht, List.length_take]; omega
  have M1 := Lib.hid (fun w => mark_any t w htl)
  obtain ⟨m, hm⟩ : ∃ m, m = markL t := ⟨_, rfl⟩
  rw [← hm] at M1 hne
  have hb : (m == l) = false := by rw [beq_eq_false_iff_ne]; exact hne
  obtain ⟨k, hk⟩ : ∃ k, k = l.length - 4 := ⟨_, rfl⟩
  have hl4 : ((l.length : Int) - 4) = k := by omega
  rw [← hk] at ht
  have ht' := ht.symm
  clear hm hk ht
  go_enter Try.func112, Try.ntmps112
  go_wp2_with fail
  refine (M1.out _).mono ?_
  rintro e w1 ⟨rfl, hb⟩
  go_wp2
  go_ret2
  exact ⟨rfl, hb⟩

end Go.Proofs.Ythlggigjnpldcaa
namespace Go.Proofs.Ythlggigjnpldcaa
namespace Sy
open Go Go.RowKit
set_option maxRecDepth 100000

def putZ (e n : Int) : List UInt8 := putL e.toNat (cl8 n)
def getZ (l : List UInt8) : Int := getL l
def putOk (e n : Int) : Prop := 0 ≤ e ∧ e < 18446744073709551616 ∧ -9223372036854775808 ≤ n ∧ n ≤ 9223372036854775807
def getOk (l : List UInt8) : Prop := 1 ≤ l.length ∧ l.length ≤ 8
def upto (n : Nat) (l : List UInt8) : Prop := l.length ≤ n
def chkE (l : List UInt8) : Int := if l.length < 4 then 3 else if markL (l.take (l.length - 4)) = l then 0 else 9
def chkS (l : List UInt8) : List UInt8 := if l.length < 4 then [] else if markL (l.take (l.length - 4)) = l then l.take (l.length - 4) else []

def put_s (L : Seal) : Ent1 := (59, fun xs => match xs with | [.int .u64 e, .int .i64 n] => some (L2 L putOk e n, .str (L2 L putZ e n)) | _ => none)
def rput_s (L : Seal) : Ent1 := (98, fun xs => match xs with | [.int .u64 e, .int .i64 n] => some (L2 L putOk e n, .str (L2 L putZ e n)) | _ => none)
def get_s (L : Seal) : Ent1 := (92, fun xs => match xs with | [.str l] => some (L getOk l, .tup [.int .u64 (L getZ l), .int .i64 0]) | _ => none)
def rget_s (L : Seal) : Ent1 := (100, fun xs => match xs with | [.str l] => some (L getOk l, .int .u64 (L getZ l)) | _ => none)
def mark_s (L : Seal) : Ent1 := (96, fun xs => match xs with | [.str l] => some (L2 L upto 1000000 l, .str (L markL l)) | _ => none)
def rmark_s (L : Seal) : Ent1 := (97, fun xs => match xs with | [.str l] => some (L2 L upto 1000000 l, .str (L markL l)) | _ => none)
def check_s (L : Seal) : Ent1 := (112, fun xs => match xs with | [.str l] => some (L2 L upto 1000000 l, .tup [.str (L chkS l), .int .i64 (L chkE l)]) | _ => none)

theorem tup2_r {x y : AV} {v u : Value} (hx : ∀ h D, R h D noMu x v) (hy : ∀ h D, R h D noMu y u) : ∀ h D, R h D noMu (.tup [x, y]) (.tuple #[v, u]) := by
  intro h D
  refine .tup _ _ rfl ?_
  intro i z t hz ht
  match i with
  | 0 => simp at hz ht; subst hz ht; exact hx h D
  | 1 => simp at hz ht; subst hz ht; exact hy h D
  | i + 2 => simp at hz
theorem int_r (k : IntKind) (n : Int) : ∀ h D, R h D noMu (.int k n) (.int k n) := fun _ _ => .int k n
theorem nat_of {e : Int} (h : 0 ≤ e) : ∃ n : Nat, e = n := ⟨e.toNat, by omega⟩

theorem put_good : Good Try.prog (put_s std) := by
  intro xs p r h hp
  dsimp only [put_s] at h ⊢
  split at h <;> cases h
  rename_i e n
  obtain ⟨h0, h1, h2, h3⟩ : putOk e n := hp
  obtain ⟨k, rfl⟩ := nat_of h0
  exact ac_of_below (fn := Try.f59) rfl rfl (by kernel_rfl) (args2 (tells_int _ _) (tells_int _ _)) (fun h D => str_r h D _ _) (fun w => put_any k n w (by omega))
theorem rput_good : Good Try.prog (rput_s std) := by
  intro xs p r h hp
  dsimp only [rput_s] at h ⊢
  split at h <;> cases h
  rename_i e n
  obtain ⟨h0, h1, h2, h3⟩ : putOk e n := hp
  obtain ⟨k, rfl⟩ := nat_of h0
  exact ac_of_below (fn := Try.f98) rfl rfl (by kernel_rfl) (args2 (tells_int _ _) (tells_int _ _)) (fun h D => str_r h D _ _) (fun w => rput_any k n w (by omega) h2 h3)
theorem get_good : Good Try.prog (get_s std) := by
  intro xs p r h hp
  dsimp only [get_s] at h ⊢
  split at h <;> cases h
  rename_i l
  obtain ⟨h1, h8⟩ : getOk l := hp
  exact ac_of_below (fn := Try.f92) rfl rfl (by kernel_rfl) (args1 (tells_str _)) (tup2_r (int_r _ _) (int_r _ _)) (below_of_same fun w => get_any l w h1 h8)
theorem rget_good : Good Try.prog (rget_s std) := by
  intro xs p r h hp
  dsimp only [rget_s] at h ⊢
  split at h <;> cases h
  rename_i l
  obtain ⟨h1, h8⟩ : getOk l := hp
  exact ac_of_below (fn := Try.f100) rfl rfl (by kernel_rfl) (args1 (tells_str _)) (int_r _ _) (below_of_same fun w => rget_any l w h8)
theorem mark_good : Good Try.prog (mark_s std) := by
  intro xs p r h hp
  dsimp only [mark_s] at h ⊢
  split at h <;> cases h
  exact ac_of_below (fn := Try.f96) rfl rfl (by kernel_rfl) (args1 (tells_str _)) (fun h D => str_r h D _ _) (fun w => mark_any _ w hp)
theorem rmark_good : Good Try.prog (rmark_s std) := by
  intro xs p r h hp
  dsimp only [rmark_s] at h ⊢
  split at h <;> cases h
  exact ac_of_below (fn := Try.f97) rfl rfl (by kernel_rfl) (args1 (tells_str _)) (fun h D => str_r h D _ _) (fun w => rmark_any _ w hp)
theorem check_good : Good Try.prog (check_s std) := by
  intro xs p r h hp
  dsimp only [check_s] at h ⊢
  split at h <;> cases h
  rename_i l
  have hl : l.length ≤ 1000000 := hp
  show ACalls _ _ _ (.tup [.str (chkS l), .int .i64 (chkE l)])
  by_cases h4 : l.length < 4
  · rw [chkS, chkE, if_pos h4, if_pos h4]
    exact ac_of_below (fn := Try.f112) rfl rfl (by kernel_rfl) (args1 (tells_str _)) (tup2_r (fun h D => str_r h D _ _) (int_r _ _)) (below_of_same fun w => check_short l w h4)
  · rw [chkS, chkE, if_neg h4, if_neg h4]
    by_cases hm : markL (l.take (l.length - 4)) = l
    · rw [if_pos hm, if_pos hm]
      refine ac_of_below (fn := Try.f112) rfl rfl (by kernel_rfl) (args1 (tells_str _)) (tup2_r (fun h D => str_r h D _ _) (int_r _ _)) (fun w => ?_)
      have := check_ok (l.take (l.length - 4)) w (by simp; omega)
      rwa [hm] at this
    · rw [if_neg hm, if_neg hm]
      exact ac_of_below (fn := Try.f112) rfl rfl (by kernel_rfl) (args1 (tells_str _)) (tup2_r (fun h D => str_r h D _ _) (int_r _ _)) (fun w => check_bad l _ w hl (by omega) rfl hm)
end Sy
end Go.Proofs.Ythlggigjnpldcaa
namespace Go.Proofs.Ythlggigjnpldcaa
namespace Sy
open Go Go.RowKit
set_option maxRecDepth 100000
set_option linter.unusedSimpArgs false
set_option linter.unusedVariables false

def stepZ (n c : Int) : Int := stepB n.toNat (UInt8.ofNat c.toNat)
def stepOk (n c : Int) : Prop := 0 ≤ n ∧ n < 4294967296 ∧ 0 ≤ c ∧ c < 256
def step_s (L : Seal) : Ent1 := (115, fun xs => match xs with | [.int .u32 n, .int .u8 c] => some (L2 L stepOk n c, .int .u32 (L2 L stepZ n c)) | _ => none)
theorem step_good : Good Try.prog (step_s std) := by
  intro xs p r h hp
  dsimp only [step_s] at h ⊢
  split at h <;> cases h
  try simp only [L2, L3, std] at hp ⊢
  rename_i n c
  obtain ⟨h0, h1, h2, h3⟩ : stepOk n c := hp
  obtain ⟨k, rfl⟩ := nat_of h0
  obtain ⟨b, rfl⟩ := nat_of h2
  have e : ((UInt8.ofNat b).toNat : Int) = b := by rw [UInt8.toNat_ofNat']; omega
  have := fun w => step_any k (UInt8.ofNat b) w (by omega)
  rw [e] at this
  exact ac_of_below (fn := Try.f115) rfl rfl (by kernel_rfl) (args2 (tells_int _ _) (tells_int _ _)) (int_r _ _) (below_of_same this)

def flatN (p : Nat → List UInt8) : Nat → List UInt8
  | 0 => []
  | n + 1 => flatN p n ++ p n
def crc2 (p : Nat → List UInt8) (k : Int) (j : Nat) : Int := crcRun 4294967295 (flatN p k.toNat ++ (p k.toNat).take j)
def crcA (n : Nat) (p : Nat → List UInt8) (L : Seal) : Nat → St → Option Ann := fun id s => match id with
  | 0 => some ⟨Nat, fun k => [(9, .int .i64 (L natI k)), (3, .int .u32 (L3 L crc2 p (L natI k) 0))], fun _ => [], [7, 8], [], fun k => L2 L Nat.le k n, fun k => L2 L Nat.sub n k⟩
  | 2 => withStr s 13 fun l => withInt s 9 fun k => some ⟨Nat, fun j => [(15, .int .i64 (L natI j)), (3, .int .u32 (L3 L crc2 p k j))], fun _ => [], [7, 8, 9, 5, 13, 14], [], fun j => L2 L (fun (j : Nat) (l : List UInt8) => j ≤ l.length) j l, fun j => L2 L (fun (j : Nat) (l : List UInt8) => l.length - j) j l⟩
  | _ => none
theorem crc_ac (n : Nat) (p : Nat → List UInt8) (hn : n ≤ 1000) (hp : ∀ i, i < n → (p i).length ≤ 1000000) : ACalls Try.prog 110 [.lst 1 n (fun i _ => .str (p i))] (.int .u32 (crcL (flatN p n))) := by
  refine acalls_L (T := tt) (S := fun L => sumOf [step_s L]) (lo := crcA n p) (lb := noA) 5 (fn := Try.f110) rfl rfl (by kernel_rfl) (by kernel_rfl) rfl tt_ok (sumOf_ok ⟨step_good, trivial⟩) (by kernel_rfl) ?_
  intro L P' Q' hL hP hQ
  (cbv; try simp only [sat_need, sat_must, sat_ite, sat_done, sat_yes, sat_ex, sat_all, sat_sup, sat_and, sat_fail, true_and, and_true])
  refine ⟨⟨0, ?_⟩, fun x hx => ?_⟩
  · (cbv; try simp only [sat_need, sat_must, sat_ite, sat_done, sat_yes, sat_ex, sat_all, sat_sup, sat_and, sat_fail, true_and, and_true])
    (subst hL; subst hQ; simp only [L2, L3, std]; try simp only [sySet, reduceCtorEq, forall_const, Int.reduceToNat, Int.reduceAdd, Int.reduceSub, Int.cast_ofNat_Int, Int.toNat_natCast, Nat.le_eq, Nat.sub_eq, ne_eq, Decidable.not_not, implies_true, true_and, and_true, wadd, wsub, wmul, decide_eq_true_eq, decide_eq_false_iff_not, Nat.succ_eq_add_one, imp_false, not_false_eq_true, not_true_eq_false, false_imp_iff, true_imp_iff])
    exact ⟨rfl, Nat.zero_le n⟩
  · (cbv; try simp only [sat_need, sat_must, sat_ite, sat_done, sat_yes, sat_ex, sat_all, sat_sup, sat_and, sat_fail, true_and, and_true])
    refine ⟨fun h => ⟨?_, ⟨0, ?_⟩, fun y hy => ?_⟩, fun h => ?_⟩
    · (subst hL; subst hQ; simp only [L2, L3, std] at *; try simp only [sySet, reduceCtorEq, forall_const, Int.reduceToNat, Int.reduceAdd, Int.reduceSub, Int.cast_ofNat_Int, Int.toNat_natCast, Nat.le_eq, Nat.sub_eq, ne_eq, Decidable.not_not, implies_true, true_and, and_true, wadd, wsub, wmul, decide_eq_true_eq, decide_eq_false_iff_not, Nat.succ_eq_add_one, imp_false, not_false_eq_true, not_true_eq_false, false_imp_iff, true_imp_iff] at *)
      omega
    · (cbv; try simp only [sat_need, sat_must, sat_ite, sat_done, sat_yes, sat_ex, sat_all, sat_sup, sat_and, sat_fail, true_and, and_true])
      (subst hL; subst hQ; simp only [L2, L3, std] at *; try simp only [sySet, reduceCtorEq, forall_const, Int.reduceToNat, Int.reduceAdd, Int.reduceSub, Int.cast_ofNat_Int, Int.toNat_natCast, Nat.le_eq, Nat.sub_eq, ne_eq, Decidable.not_not, implies_true, true_and, and_true, wadd, wsub, wmul, decide_eq_true_eq, decide_eq_false_iff_not, Nat.succ_eq_add_one, imp_false, not_false_eq_true, not_true_eq_false, false_imp_iff, true_imp_iff] at *)
      exact Nat.zero_le _
    · cbv at hy
      (cbv; try simp only [sat_need, sat_must, sat_ite, sat_done, sat_yes, sat_ex, sat_all, sat_sup, sat_and, sat_fail, true_and, and_true])
      refine ⟨fun h' => ⟨?_, ?_, ⟨y + 1, ?_⟩⟩, fun h' => ⟨x + 1, ?_⟩⟩
      · (subst hL; subst hQ; simp only [L2, L3, std] at *; try simp only [sySet, reduceCtorEq, forall_const, Int.reduceToNat, Int.reduceAdd, Int.reduceSub, Int.cast_ofNat_Int, Int.toNat_natCast, Nat.le_eq, Nat.sub_eq, ne_eq, Decidable.not_not, implies_true, true_and, and_true, wadd, wsub, wmul, decide_eq_true_eq, decide_eq_false_iff_not, Nat.succ_eq_add_one, imp_false, not_false_eq_true, not_true_eq_false, false_imp_iff, true_imp_iff] at *)
        omega
      · (subst hL; subst hQ; simp only [L2, L3, std] at *; try simp only [sySet, reduceCtorEq, forall_const, Int.reduceToNat, Int.reduceAdd, Int.reduceSub, Int.cast_ofNat_Int, Int.toNat_natCast, Nat.le_eq, Nat.sub_eq, ne_eq, Decidable.not_not, implies_true, true_and, and_true, wadd, wsub, wmul, decide_eq_true_eq, decide_eq_false_iff_not, Nat.succ_eq_add_one, imp_false, not_false_eq_true, not_true_eq_false, false_imp_iff, true_imp_iff] at *)
        have := crcRun_lt (flatN p x ++ (p x).take y) (n := 4294967295) (by omega)
        have h8 := ((p x).getD y 0).toNat_lt
        exact ⟨Int.natCast_nonneg _, by simp only [crc2, Int.toNat_natCast]; omega, by omega, by omega⟩
      · (cbv; try simp only [sat_need, sat_must, sat_ite, sat_done, sat_yes, sat_ex, sat_all, sat_sup, sat_and, sat_fail, true_and, and_true])
        (subst hL; subst hQ; simp only [L2, L3, std] at *; try simp only [sySet, reduceCtorEq, forall_const, Int.reduceToNat, Int.reduceAdd, Int.reduceSub, Int.cast_ofNat_Int, Int.toNat_natCast, Nat.le_eq, Nat.sub_eq, ne_eq, Decidable.not_not, implies_true, true_and, and_true, wadd, wsub, wmul, decide_eq_true_eq, decide_eq_false_iff_not, Nat.succ_eq_add_one, imp_false, not_false_eq_true, not_true_eq_false, false_imp_iff, true_imp_iff] at *)
        have e : crcRun 4294967295 (flatN p x ++ (p x).take (y + 1)) = stepB (crcRun 4294967295 (flatN p x ++ (p x).take y)) ((p x).getD y 0) := by
          rw [List.take_succ_eq_append_getElem (by omega), ← List.append_assoc, crcRun, foldl_snoc, getD_get _ _ _ (by omega)]
          rfl
        have := hp x (by omega)
        refine ⟨?_, by omega, by omega, by omega⟩
        simp only [stepZ, crc2, Int.toNat_natCast]
        rw [e, UInt8.ofNat_toNat]
      · (cbv; try simp only [sat_need, sat_must, sat_ite, sat_done, sat_yes, sat_ex, sat_all, sat_sup, sat_and, sat_fail, true_and, and_true])
        (subst hL; subst hQ; simp only [L2, L3, std] at *; try simp only [sySet, reduceCtorEq, forall_const, Int.reduceToNat, Int.reduceAdd, Int.reduceSub, Int.cast_ofNat_Int, Int.toNat_natCast, Nat.le_eq, Nat.sub_eq, ne_eq, Decidable.not_not, implies_true, true_and, and_true, wadd, wsub, wmul, decide_eq_true_eq, decide_eq_false_iff_not, Nat.succ_eq_add_one, imp_false, not_false_eq_true, not_true_eq_false, false_imp_iff, true_imp_iff] at *)
        refine ⟨?_, by omega, by omega, by omega⟩
        have : y = (p x).length := by omega
        subst this
        simp only [crc2, Int.toNat_natCast, List.take_length]
        rw [show flatN p (x + 1) = flatN p x ++ p x from rfl]
        simp
    · (subst hL; subst hQ; simp only [L2, L3, std] at *; try simp only [sySet, reduceCtorEq, forall_const, Int.reduceToNat, Int.reduceAdd, Int.reduceSub, Int.cast_ofNat_Int, Int.toNat_natCast, Nat.le_eq, Nat.sub_eq, ne_eq, Decidable.not_not, implies_true, true_and, and_true, wadd, wsub, wmul, decide_eq_true_eq, decide_eq_false_iff_not, Nat.succ_eq_add_one, imp_false, not_false_eq_true, not_true_eq_false, false_imp_iff, true_imp_iff] at *)
      have : x = n := by omega
      subst this
      have := crcRun_lt (flatN p x) (n := 4294967295) (by omega)
      simp only [crc2, Int.toNat_natCast, List.take_zero, List.append_nil]
      exact not_u32 _ this

def shortOk (n : Int) : Prop := 0 ≤ n ∧ n < 18446744073709551616
def shortZ (n : Int) : List UInt8 := shortL n.toNat
def short_s (L : Seal) : Ent1 := (84, fun xs => match xs with | [.int .u64 n] => some (L shortOk n, .str (L shortZ n)) | _ => none)
theorem short_good : Good Try.prog (short_s std) := by
  intro xs p r h hp
  dsimp only [short_s] at h ⊢
  split at h <;> cases h
  try simp only [L2, L3, std] at hp ⊢
  rename_i n
  obtain ⟨h0, h1⟩ : shortOk n := hp
  obtain ⟨k, rfl⟩ := nat_of h0
  exact ac_of_below (fn := Try.f84) rfl rfl (by kernel_rfl) (args1 (tells_int _ _)) (fun h D => str_r h D _ _) (fun w => short_any k w (by omega))
/-- CRC of two parts that are told. -/
def crc2_s (L : Seal) : Ent1 := (110, fun xs => match xs with
  | [.lst 1 2 get] => match get 0 0 with
    | .str a => match get 1 0 with
      | .str b => some (L (fun g : Nat → Nat → AV => ∀ i j, i < 2 → j < 1 → g i j = .str (lget [] [a, b] i)) get ∧ L2 L upto 1000000 a ∧ L2 L upto 1000000 b, .int .u32 (L (fun l => (crcL l : Int)) (L2 L scat a b)))
      | _ => none
    | _ => none
  | _ => none)
theorem ac_lst1 {P : Program} {f : FuncId} {sz n : Nat} {g g' : Nat → Nat → AV} {r : AV} (e : ∀ i j, i < n → j < sz → g i j = g' i j) (h : ACalls P f [.lst sz n g'] r) : ACalls P f [.lst sz n g] r := by
  intro D w vs hD ⟨h1, h2⟩
  refine h D w vs hD ⟨h1, fun i x v hx hv => ?_⟩
  match i with
  | 0 => cases hx; exact lst_same (h2 0 _ v rfl hv) e
  | i + 1 => simp at hx
theorem crc2_good : Good Try.prog (crc2_s std) := by
  intro xs p r h hp
  dsimp only [crc2_s] at h ⊢
  split at h
  · rename_i get
    cases ea : get 0 0 with
    | str a =>
      cases eb : get 1 0 with
      | str b =>
        simp only [ea, eb] at h
        cases h
        obtain ⟨h1, h2, h3⟩ := hp
        have := crc_ac 2 (fun i => lget [] [a, b] i) (by omega) (fun i hi => by
          match i, hi with
          | 0, _ => exact h2
          | 1, _ => exact h3)
        exact ac_lst1 (g' := fun i _ => .str (lget [] [a, b] i)) h1 this
      | _ => simp only [ea, eb] at h; cases h
    | _ => simp only [ea] at h; cases h
  · cases h
theorem awake01_ac : ACalls Try.prog 80 [] (.bool true) := by
  refine acalls_L (T := tt) (S := fun L => sumOf [short_s L, put_s L]) (lo := noA) (lb := noA) 5 (fn := Try.f80) rfl rfl (by kernel_rfl) (by kernel_rfl) rfl tt_ok (sumOf_ok ⟨short_good, put_good, trivial⟩) (by kernel_rfl) ?_
  (intro L P1 Q1 hL hP hQ; cbv; subst hL; simp only [L2, L3, std, sat_need, sat_must, sat_ite, sat_done, sat_yes, sat_ex, sat_all, sat_sup, sat_and, sat_fail]; subst hQ)
  (simp only [sySet, reduceCtorEq, forall_const, Int.reduceToNat, Int.reduceAdd, Int.reduceSub, Int.cast_ofNat_Int, Int.toNat_natCast, Nat.le_eq, Nat.sub_eq, ne_eq, Decidable.not_not, implies_true, true_and, and_true, wadd, wsub, wmul, decide_eq_true_eq, decide_eq_false_iff_not, Nat.succ_eq_add_one, imp_false, not_false_eq_true, not_true_eq_false, false_imp_iff, true_imp_iff])
  exact ⟨by unfold shortOk; omega, fun _ => ⟨by unfold putOk; omega, by decide +kernel⟩, by rw [shortZ, show (300 : Int).toNat = 300 from rfl, shortL_big (by decide), shortL_small (by decide)]; rfl⟩
/-- A function without arguments that answers true. -/
def tru (f : Nat) : Ent1 := (f, fun xs => match xs with | [] => some (True, .bool true) | _ => none)
theorem tru_good {P : Program} {f : Nat} (h : ACalls P f [] (.bool true)) : Good P (tru f) := by
  intro xs p r h' hp
  match xs with
  | [] => cases h'; exact h
  | x :: xs => cases h'
theorem Awake01_ac : ACalls Try.prog 46 [] (.bool true) := by
  refine acalls_L (T := tt) (S := fun L => sumOf [tru 80]) (lo := noA) (lb := noA) 5 (fn := Try.f46) rfl rfl (by kernel_rfl) (by kernel_rfl) rfl tt_ok (sumOf_ok ⟨tru_good awake01_ac, trivial⟩) (by kernel_rfl) ?_
  (intro L P1 Q1 hL hP hQ; cbv; subst hL; simp only [L2, L3, std, sat_need, sat_must, sat_ite, sat_done, sat_yes, sat_ex, sat_all, sat_sup, sat_and, sat_fail]; subst hQ)
  (simp only [sySet, reduceCtorEq, forall_const, Int.reduceToNat, Int.reduceAdd, Int.reduceSub, Int.cast_ofNat_Int, Int.toNat_natCast, Nat.le_eq, Nat.sub_eq, ne_eq, Decidable.not_not, implies_true, true_and, and_true, wadd, wsub, wmul, decide_eq_true_eq, decide_eq_false_iff_not, Nat.succ_eq_add_one, imp_false, not_false_eq_true, not_true_eq_false, false_imp_iff, true_imp_iff])
theorem awake02_ac : ACalls Try.prog 114 [] (.bool true) := by
  refine acalls_L (T := tt) (S := fun L => sumOf [tru 46, crc2_s L]) (lo := noA) (lb := noA) 5 (fn := Try.f114) rfl rfl (by kernel_rfl) (by kernel_rfl) rfl tt_ok (sumOf_ok ⟨tru_good Awake01_ac, crc2_good, trivial⟩) (by kernel_rfl) ?_
  (intro L P1 Q1 hL hP hQ; cbv; subst hL; simp only [L2, L3, std, sat_need, sat_must, sat_ite, sat_done, sat_yes, sat_ex, sat_all, sat_sup, sat_and, sat_fail]; subst hQ)
  (simp only [sySet, reduceCtorEq, forall_const, Int.reduceToNat, Int.reduceAdd, Int.reduceSub, Int.cast_ofNat_Int, Int.toNat_natCast, Nat.le_eq, Nat.sub_eq, ne_eq, Decidable.not_not, implies_true, true_and, and_true, wadd, wsub, wmul, decide_eq_true_eq, decide_eq_false_iff_not, Nat.succ_eq_add_one, imp_false, not_false_eq_true, not_true_eq_false, false_imp_iff, true_imp_iff])
  refine ⟨⟨fun i j hi hj => ?_, by simp [upto, nthS], by simp [upto, nthS]⟩, by decide +kernel⟩
  match i, hi with
  | 0, _ => rfl
  | 1, _ => rfl
theorem Awake02_ac : ACalls Try.prog 107 [] (.bool true) := by
  refine acalls_L (T := tt) (S := fun L => sumOf [tru 114]) (lo := noA) (lb := noA) 5 (fn := Try.f107) rfl rfl (by kernel_rfl) (by kernel_rfl) rfl tt_ok (sumOf_ok ⟨tru_good awake02_ac, trivial⟩) (by kernel_rfl) ?_
  (intro L P1 Q1 hL hP hQ; cbv; subst hL; simp only [L2, L3, std, sat_need, sat_must, sat_ite, sat_done, sat_yes, sat_ex, sat_all, sat_sup, sat_and, sat_fail]; subst hQ)
  (simp only [sySet, reduceCtorEq, forall_const, Int.reduceToNat, Int.reduceAdd, Int.reduceSub, Int.cast_ofNat_Int, Int.toNat_natCast, Nat.le_eq, Nat.sub_eq, ne_eq, Decidable.not_not, implies_true, true_and, and_true, wadd, wsub, wmul, decide_eq_true_eq, decide_eq_false_iff_not, Nat.succ_eq_add_one, imp_false, not_false_eq_true, not_true_eq_false, false_imp_iff, true_imp_iff])
end Sy
end Go.Proofs.Ythlggigjnpldcaa
namespace Go.Proofs.Ythlggigjnpldcaa
namespace Sy
open Go Go.RowKit
set_option maxRecDepth 100000
set_option linter.unusedSimpArgs false
set_option linter.unusedVariables false

def magic : List UInt8 := [79, 70, 1]
def headT (k e : Int) (b : List UInt8) : List UInt8 := [79, 70, 1] ++ [UInt8.ofNat k.toNat] ++ putZ e 8 ++ putZ b.length 4 ++ b
def byE (k : Int) (b : List UInt8) : Int := if k < 1 ∨ 255 < k then 10 else if 8192 < b.length then 5 else 0
def byT (k e : Int) (b : List UInt8) : List UInt8 := if byE k b = 0 then markL (headT k e b) else []
def byOk (e : Int) (b : List UInt8) : Prop := 0 ≤ e ∧ e < 18446744073709551616 ∧ b.length ≤ 9223372036854775807
def size_s (L : Seal) : Ent1 := (108, fun xs => match xs with | [.int .i64 n] => some (L (fun n : Int => 0 ≤ n ∧ n ≤ 1000000) n, .int .i64 (L (fun n : Int => n + 20) n)) | _ => none)
theorem size_good : Good Try.prog (size_s std) := by
  intro xs p r h hp
  dsimp only [size_s] at h ⊢
  split at h <;> cases h
  try simp only [L2, L3, std] at hp ⊢
  exact size_ac _ hp.1 hp.2
def by_s (L : Seal) : Ent1 := (70, fun xs => match xs with | [.agg [.int .i64 k, .int .u64 e, .str b]] => some (L2 L byOk e b, .tup [.str (L3 L byT k e b), .int .i64 (L2 L byE k b)]) | _ => none)
def rby_s (L : Seal) : Ent1 := (71, fun xs => match xs with | [.agg [.int .i64 k, .int .u64 e, .str b]] => some (L2 L byOk e b, .tup [.str (L3 L byT k e b), .int .i64 (L2 L byE k b)]) | _ => none)
theorem putZ_len (e n : Int) : (putZ e n).length = cl8 n := putL_length _ _
theorem by_good : Good Try.prog (by_s std) := by
  intro xs p r h hp
  dsimp only [by_s] at h ⊢
  split at h <;> cases h
  try simp only [L2, L3, std] at hp ⊢
  rename_i k e b
  show ACalls _ _ _ (.tup [.str (byT k e b), .int .i64 (byE k b)])
  refine acalls_L (T := tt) (S := fun L => sumOf [put_s L, mark_s L]) (lo := noA) (lb := noA) 5 (fn := Try.f70) rfl rfl (by kernel_rfl) (by kernel_rfl) rfl tt_ok (sumOf_ok ⟨put_good, mark_good, trivial⟩) (by kernel_rfl) ?_
  (intro L P1 Q1 hL hP hQ; cbv; subst hL; simp only [L2, L3, std, sat_need, sat_must, sat_ite, sat_done, sat_yes, sat_ex, sat_all, sat_sup, sat_and, sat_fail]; subst hQ)
  (simp only [sySet, reduceCtorEq, forall_const, Int.reduceToNat, Int.reduceAdd, Int.reduceSub, Int.cast_ofNat_Int, Int.toNat_natCast, Nat.le_eq, Nat.sub_eq, ne_eq, Decidable.not_not, implies_true, true_and, and_true, wadd, wsub, wmul, decide_eq_true_eq, decide_eq_false_iff_not, Nat.succ_eq_add_one, imp_false, not_false_eq_true, not_true_eq_false, false_imp_iff, true_imp_iff])
  have e1 : (bytesOf 1 fun i => (AV.int .u8 (nthI [k % 256] (0 + i))).toI) = [UInt8.ofNat (k % 256).toNat] := rfl
  obtain ⟨h0, h1, h2⟩ : byOk e b := hp
  simp only [e1]
  refine ⟨fun h => ?_, fun h => ⟨fun h' => ?_, fun h' => ⟨fun hb => ?_, fun hb => ?_⟩⟩⟩
  · have hE : byE k b = 10 := if_pos (by omega)
    rw [byT, hE]; exact ⟨rfl, rfl⟩
  · have hE : byE k b = 10 := if_pos (by omega)
    rw [byT, hE]; exact ⟨rfl, rfl⟩
  · have hE : byE k b = 5 := by rw [byE, if_neg (by omega), if_pos (by omega)]
    rw [byT, hE]; exact ⟨rfl, rfl⟩
  · have hE : byE k b = 0 := by rw [byE, if_neg (by omega), if_neg (by omega)]
    rw [byT, hE, if_pos rfl, headT, show k % 256 = k by omega, show (b.length : Int) % 18446744073709551616 = b.length by omega]
    refine ⟨⟨by omega, fun i _ => ⟨_, rfl⟩⟩, by simp, ⟨h0, h1, by omega, by omega⟩, ?_, ⟨by omega, by omega, by omega, by omega⟩, ?_, ?_, ?_, rfl, rfl⟩
    all_goals simp [upto, putZ_len, putL_length, cl8]; try omega
theorem rby_good : Good Try.prog (rby_s std) := by
  intro xs p r h hp
  dsimp only [rby_s] at h ⊢
  split at h <;> cases h
  try simp only [L2, L3, std] at hp ⊢
  rename_i k e b
  show ACalls _ _ _ (.tup [.str (byT k e b), .int .i64 (byE k b)])
  refine acalls_L (T := tt) (S := fun L => sumOf [rput_s L, rmark_s L]) (lo := noA) (lb := noA) 5 (fn := Try.f71) rfl rfl (by kernel_rfl) (by kernel_rfl) rfl tt_ok (sumOf_ok ⟨rput_good, rmark_good, trivial⟩) (by kernel_rfl) ?_
  (intro L P1 Q1 hL hP hQ; cbv; subst hL; simp only [L2, L3, std, sat_need, sat_must, sat_ite, sat_done, sat_yes, sat_ex, sat_all, sat_sup, sat_and, sat_fail]; subst hQ)
  (simp only [sySet, reduceCtorEq, forall_const, Int.reduceToNat, Int.reduceAdd, Int.reduceSub, Int.cast_ofNat_Int, Int.toNat_natCast, Nat.le_eq, Nat.sub_eq, ne_eq, Decidable.not_not, implies_true, true_and, and_true, wadd, wsub, wmul, decide_eq_true_eq, decide_eq_false_iff_not, Nat.succ_eq_add_one, imp_false, not_false_eq_true, not_true_eq_false, false_imp_iff, true_imp_iff])
  have e1 : (bytesOf 1 fun i => (AV.int .u8 (nthI [k % 256] (0 + i))).toI) = [UInt8.ofNat (k % 256).toNat] := rfl
  obtain ⟨h0, h1, h2⟩ : byOk e b := hp
  simp only [e1]
  refine ⟨fun h => ?_, fun h => ⟨fun h' => ?_, fun h' => ⟨fun hb => ?_, fun hb => ?_⟩⟩⟩
  · have hE : byE k b = 10 := if_pos (by omega)
    rw [byT, hE]; exact ⟨rfl, rfl⟩
  · have hE : byE k b = 10 := if_pos (by omega)
    rw [byT, hE]; exact ⟨rfl, rfl⟩
  · have hE : byE k b = 5 := by rw [byE, if_neg (by omega), if_pos (by omega)]
    rw [byT, hE]; exact ⟨rfl, rfl⟩
  · have hE : byE k b = 0 := by rw [byE, if_neg (by omega), if_neg (by omega)]
    rw [byT, hE, if_pos rfl, headT, show k % 256 = k by omega, show (b.length : Int) % 18446744073709551616 = b.length by omega]
    refine ⟨⟨by omega, fun i _ => ⟨_, rfl⟩⟩, by simp, ⟨h0, h1, by omega, by omega⟩, ?_, ⟨by omega, by omega, by omega, by omega⟩, ?_, ?_, ?_, rfl, rfl⟩
    all_goals simp [upto, putZ_len, putL_length, cl8]; try omega
end Sy
end Go.Proofs.Ythlggigjnpldcaa
namespace Go.Proofs.Ythlggigjnpldcaa
namespace Sy
open Go Go.RowKit

theorem putL_snoc : ∀ (c n : Nat), putL n (c + 1) = putL (n / 256) c ++ [UInt8.ofNat n]
  | 0, n => by simp [putL]
  | c + 1, n => by
    rw [putL, putL_snoc c n]
    show _ = (UInt8.ofNat (n / 256 / 256 ^ c) :: putL (n / 256) c) ++ _
    rw [Nat.div_div_eq_div_mul, ← Nat.pow_succ']
    rfl
theorem getL_putL : ∀ (c n : Nat), n < 256 ^ c → getL (putL n c) = n
  | 0, n, h => by simp at h; subst h; rfl
  | c + 1, n, h => by
    rw [putL_snoc, getL_snoc, getL_putL c (n / 256) (by rw [Nat.pow_succ] at h; omega), UInt8.toNat_ofNat']
    omega
theorem putL_getL (l : List UInt8) : putL (getL l) l.length = l := by
  have key : ∀ m (l : List UInt8), l.length = m → putL (getL l) m = l := by
    intro m
    induction m with
    | zero => intro l hl; rw [List.length_eq_zero_iff.1 hl]; rfl
    | succ m ih =>
      intro l hl
      have hne : l ≠ [] := by intro h; simp [h] at hl
      have e : l = l.dropLast ++ [l.getLast hne] := (List.dropLast_concat_getLast hne).symm
      have hd : l.dropLast.length = m := by simp [hl]
      generalize l.getLast hne = x at e
      generalize l.dropLast = y at e hd
      subst e
      have hx : x.toNat < 256 := x.toNat_lt
      rw [putL_snoc, getL_snoc, show (getL y * 256 + x.toNat) / 256 = getL y by omega, ih y hd]
      congr 2
      apply UInt8.toNat_inj.1
      rw [UInt8.toNat_ofNat']; omega
  exact key _ l rfl
theorem take_app {α : Type} (a b : List α) (n : Nat) (h : a.length = n) : (a ++ b).take n = a := by subst h; simp
theorem drop_app {α : Type} (a b : List α) (n : Nat) (h : a.length = n) : (a ++ b).drop n = b := by subst h; simp


def nxN (s : List UInt8) : Int := getZ ((s.take 16).drop 12)
def nxE (s : List UInt8) : Int := if s.length < 20 then 3 else if s.take 3 ≠ [79, 70, 1] then 4 else if (s.getD 3 0).toNat = 0 then 10 else if 8192 < nxN s then 5 else if (s.length : Int) < nxN s + 20 then 3 else chkE (s.take (nxN s + 20).toNat)
def nxK (s : List UInt8) : Int := if nxE s = 0 then (s.getD 3 0).toNat else 0
def nxP (s : List UInt8) : Int := if nxE s = 0 then getZ ((s.take 12).drop 4) else 0
def nxB (s : List UInt8) : List UInt8 := if nxE s = 0 then (s.take (nxN s + 16).toNat).drop 16 else []
def nxR (s : List UInt8) : List UInt8 := if nxE s = 0 then s.drop (nxN s + 20).toNat else []

theorem nxN_bound (s : List UInt8) : 0 ≤ nxN s ∧ nxN s < 4294967296 := by
  have h := getL_lt ((s.take 16).drop 12)
  have h' : 256 ^ ((s.take 16).drop 12).length ≤ 256 ^ 4 := Nat.pow_le_pow_right (by omega) (by simp; omega)
  unfold nxN getZ; omega
theorem nxP_bound (s : List UInt8) : 0 ≤ getZ ((s.take 12).drop 4) ∧ getZ ((s.take 12).drop 4) < 18446744073709551616 := by
  have h := getL_lt ((s.take 12).drop 4)
  have h' : 256 ^ ((s.take 12).drop 4).length ≤ 256 ^ 8 := Nat.pow_le_pow_right (by omega) (by simp; omega)
  unfold getZ; omega
theorem nx_bad (s : List UInt8) (he : nxE s ≠ 0) : nxK s = 0 ∧ nxP s = 0 ∧ nxB s = [] ∧ nxR s = [] := by simp [nxK, nxP, nxB, nxR, he]
theorem headT_length (k e : Int) (b : List UInt8) : (headT k e b).length = b.length + 16 := by
  simp [headT, putZ_len, cl8]; omega
/-- The head that a text has is the head of what it holds. -/
theorem head_is (s : List UInt8) (h20 : 20 ≤ s.length) (hp : s.take 3 = [79, 70, 1]) (hl : nxN s + 20 ≤ s.length) :
    headT (s.getD 3 0).toNat (getZ ((s.take 12).drop 4)) ((s.take (nxN s + 16).toNat).drop 16) = s.take (nxN s + 16).toNat := by
  obtain ⟨h0, h1⟩ := nxN_bound s
  obtain ⟨n, hn⟩ : ∃ n : Nat, nxN s = n := ⟨(nxN s).toNat, by omega⟩
  have hn' : getL ((s.take 16).drop 12) = n := by
    have := hn; unfold nxN getZ at this; omega
  rw [hn] at hl ⊢
  rw [show ((n : Int) + 16).toNat = n + 16 by omega]
  have hb : ((s.take (n + 16)).drop 16).length = n := by simp; omega
  have h8 : ((s.take 12).drop 4).length = 8 := by simp; omega
  have h4 : ((s.take 16).drop 12).length = 4 := by simp; omega
  have e8 := putL_getL ((s.take 12).drop 4)
  have e4 := putL_getL ((s.take 16).drop 12)
  rw [h8] at e8
  rw [h4, hn'] at e4
  have e1 : (s.drop 3).take 1 = [s.getD 3 0] := by
    have h3 : 3 < s.length := by omega
    rw [List.drop_eq_getElem_cons h3]
    show [s[3]] = _
    simp [h3]
  have eh : headT (s.getD 3 0).toNat (getZ ((s.take 12).drop 4)) ((s.take (n + 16)).drop 16) = [79, 70, 1] ++ ([s.getD 3 0] ++ ((s.take 12).drop 4 ++ ((s.take 16).drop 12 ++ (s.take (n + 16)).drop 16))) := by
    have z8 : putZ (getZ ((s.take 12).drop 4)) 8 = (s.take 12).drop 4 := e8
    have z4 : putZ (n : Int) 4 = (s.take 16).drop 12 := e4
    rw [headT, hb, z8, z4]
    simp only [Int.toNat_natCast, UInt8.ofNat_toNat, List.append_assoc]
  have d1 : (s.take 12).drop 4 = (s.drop 4).take 8 := by rw [List.drop_take]
  have d2 : (s.take 16).drop 12 = (s.drop 12).take 4 := by rw [List.drop_take]
  have d3 : (s.take (n + 16)).drop 16 = (s.drop 16).take n := by rw [List.drop_take]; congr 1
  rw [eh, d1, d2, d3, show n + 16 = 3 + (1 + (8 + (4 + n))) by omega, List.take_add, List.take_add, List.take_add, List.take_add, List.drop_drop, List.drop_drop, List.drop_drop, hp]
  rw [e1]
structure FrameIs (t : List UInt8) (k e : Int) (b r : List UInt8) : Prop where
  E : nxE t = 0
  K : nxK t = k
  P : nxP t = e
  B : nxB t = b
  R : nxR t = r
  N : nxN t = b.length
  len : t.length = b.length + 20 + r.length
theorem byE_ok {k : Int} {b : List UInt8} (h : byE k b = 0) : 1 ≤ k ∧ k ≤ 255 ∧ b.length ≤ 8192 := by
  unfold byE at h
  split at h
  · omega
  · split at h <;> omega
/-- What begins with a frame's text begins with that frame. -/
theorem frame_is (k e : Int) (b r : List UInt8) (hE : byE k b = 0) (h0 : 0 ≤ e) (h1 : e < 18446744073709551616) : FrameIs (byT k e b ++ r) k e b r := by
  obtain ⟨k1, k2, hb⟩ := byE_ok hE
  obtain ⟨p, hp⟩ : ∃ p, p = putZ e 8 := ⟨_, rfl⟩
  obtain ⟨q, hq⟩ : ∃ q, q = putZ b.length 4 := ⟨_, rfl⟩
  have hpl : p.length = 8 := by rw [hp, putZ_len]; rfl
  have hql : q.length = 4 := by rw [hq, putZ_len]; rfl
  have ep : getZ p = e := by
    rw [hp]; unfold getZ putZ
    rw [show cl8 8 = 8 from rfl, getL_putL 8 _ (by omega)]; omega
  have eq' : getZ q = b.length := by
    rw [hq]; unfold getZ putZ
    rw [show cl8 4 = 4 from rfl, Int.toNat_natCast, getL_putL 4 _ (by omega)]
  obtain ⟨z, hz⟩ : ∃ z, z = le4 (crcL (headT k e b)) := ⟨_, rfl⟩
  have hzl : z.length = 4 := by rw [hz]; rfl
  have hT : byT k e b = headT k e b ++ z := by rw [byT, if_pos hE, markL, hz]
  have hh : headT k e b = 79 :: 70 :: 1 :: UInt8.ofNat k.toNat :: (p ++ (q ++ b)) := by rw [headT, hp, hq]; simp
  have hl16 := headT_length k e b
  have hs : byT k e b ++ r = 79 :: 70 :: 1 :: UInt8.ofNat k.toNat :: (p ++ (q ++ (b ++ (z ++ r)))) := by
    rw [hT, hh]; simp
  have hlen : (byT k e b ++ r).length = b.length + 20 + r.length := by rw [hT]; simp only [List.length_append, hl16, hzl]
  generalize ht : byT k e b ++ r = t at hs hlen
  have tN : nxN t = b.length := by
    rw [nxN, List.drop_take, hs]
    show getZ ((List.drop 8 (p ++ (q ++ (b ++ (z ++ r))))).take 4) = _
    rw [drop_app p _ 8 hpl, take_app q _ 4 hql, eq']
  have t3 : t.take 3 = [79, 70, 1] := by rw [hs]; rfl
  have tk : ((t.getD 3 0).toNat : Int) = k := by
    rw [hs]
    show ((UInt8.ofNat k.toNat).toNat : Int) = k
    rw [UInt8.toNat_ofNat']; omega
  have t16 : t.take (b.length + 16) = headT k e b := by rw [← ht, hT, List.append_assoc]; exact take_app _ _ _ hl16
  have t20 : t.take (b.length + 20) = headT k e b ++ z := by rw [← ht, hT]; exact take_app _ _ _ (by simp only [List.length_append, hl16, hzl])
  have d20 : t.drop (b.length + 20) = r := by rw [← ht, hT]; exact drop_app _ _ _ (by simp only [List.length_append, hl16, hzl])
  have hc : chkE (t.take (nxN t + 20).toNat) = 0 := by
    rw [tN, show ((b.length : Int) + 20).toNat = b.length + 20 by omega, t20, chkE, if_neg (by simp only [List.length_append, hl16, hzl]; omega), take_app _ _ _ (by simp only [List.length_append, hl16, hzl]; omega), if_pos]
    rw [markL, hz]
  have hE0 : nxE t = 0 := by
    have nc : nxE t = if t.length < 20 then 3 else if t.take 3 ≠ [79, 70, 1] then 4 else if (t.getD 3 0).toNat = 0 then 10 else if 8192 < nxN t then 5 else if (t.length : Int) < nxN t + 20 then 3 else chkE (t.take (nxN t + 20).toNat) := rfl
    rw [nc, if_neg (by omega), if_neg (by rw [t3]; simp), if_neg (by omega), if_neg (by omega), if_neg (by omega), hc]
  refine ⟨hE0, by rw [nxK, if_pos hE0, tk], ?_, ?_, ?_, tN, hlen⟩
  · rw [nxP, if_pos hE0, List.drop_take, hs]
    show getZ ((p ++ (q ++ (b ++ (z ++ r)))).take 8) = _
    rw [take_app p _ 8 hpl, ep]
  · rw [nxB, if_pos hE0, tN, show ((b.length : Int) + 16).toNat = b.length + 16 by omega, t16, hh]
    show List.drop 12 (p ++ (q ++ b)) = b
    rw [show p ++ (q ++ b) = (p ++ q) ++ b by simp, drop_app (p ++ q) _ 12 (by simp [hpl, hql])]
  · rw [nxR, if_pos hE0, tN, show ((b.length : Int) + 20).toNat = b.length + 20 by omega, d20]
/-- Where Next finds one, the text is long enough. -/
theorem nx_len (s : List UInt8) (h : nxE s = 0) : nxN s + 20 ≤ s.length ∧ nxN s ≤ 8192 := by
  have nc : nxE s = if s.length < 20 then 3 else if s.take 3 ≠ [79, 70, 1] then 4 else if (s.getD 3 0).toNat = 0 then 10 else if 8192 < nxN s then 5 else if (s.length : Int) < nxN s + 20 then 3 else chkE (s.take (nxN s + 20).toNat) := rfl
  rw [nc] at h
  repeat' split at h
  all_goals omega
end Sy
end Go.Proofs.Ythlggigjnpldcaa
namespace Go.Proofs.Ythlggigjnpldcaa
namespace Sy
open Go Go.RowKit
set_option maxRecDepth 100000
set_option linter.unusedSimpArgs false
set_option linter.unusedVariables false

def preB (a b : List UInt8) : Bool := a.take b.length == b
def preOk (a b : List UInt8) : Prop := a.length ≤ 1000000000 ∧ b.length ≤ 1000000000
def pre0_s (L : Seal) : Ent1 := (86, fun xs => match xs with | [.str a, .str b] => some (L2 L preOk a b, .bool (L2 L preB a b)) | _ => none)
def pre_s (L : Seal) : Ent1 := (56, fun xs => match xs with | [.str a, .str b] => some (L2 L preOk a b, .bool (L2 L preB a b)) | _ => none)
theorem pre0_good : Good Try.prog (pre0_s std) := by
  intro xs p r h hp
  dsimp only [pre0_s] at h ⊢
  split at h <;> cases h
  try simp only [L2, L3, std] at hp ⊢
  rename_i a b
  refine acalls_L (T := tt) (S := noS) (lo := noA) (lb := noA) 5 (fn := Try.f86) rfl rfl (by kernel_rfl) (by kernel_rfl) rfl tt_ok (noS_ok _) (by kernel_rfl) ?_
  (intro L P1 Q1 hL hP hQ; cbv; subst hL; simp only [L2, L3, std, sat_need, sat_must, sat_ite, sat_done, sat_yes, sat_ex, sat_all, sat_sup, sat_and, sat_fail]; subst hQ)
  (simp only [sySet, reduceCtorEq, forall_const, Int.reduceToNat, Int.reduceAdd, Int.reduceSub, Int.cast_ofNat_Int, Int.toNat_natCast, Nat.le_eq, Nat.sub_eq, ne_eq, Decidable.not_not, implies_true, true_and, and_true, wadd, wsub, wmul, decide_eq_true_eq, decide_eq_false_iff_not, Nat.succ_eq_add_one, imp_false, not_false_eq_true, not_true_eq_false, false_imp_iff, true_imp_iff])
  exact ⟨fun h => ⟨by omega, rfl⟩, fun h => by
    have : ¬ a.take b.length = b := fun e => by have := congrArg List.length e; simp at this; omega
    simp [preB, this]⟩
theorem pre_good : Good Try.prog (pre_s std) := by
  intro xs p r h hp
  dsimp only [pre_s] at h ⊢
  split at h <;> cases h
  try simp only [L2, L3, std] at hp ⊢
  rename_i a b
  refine acalls_L (T := tt) (S := fun L => sumOf [pre0_s L]) (lo := noA) (lb := noA) 5 (fn := Try.f56) rfl rfl (by kernel_rfl) (by kernel_rfl) rfl tt_ok (sumOf_ok ⟨pre0_good, trivial⟩) (by kernel_rfl) ?_
  (intro L P1 Q1 hL hP hQ; cbv; subst hL; simp only [L2, L3, std, sat_need, sat_must, sat_ite, sat_done, sat_yes, sat_ex, sat_all, sat_sup, sat_and, sat_fail]; subst hQ)
  (simp only [sySet, reduceCtorEq, forall_const, Int.reduceToNat, Int.reduceAdd, Int.reduceSub, Int.cast_ofNat_Int, Int.toNat_natCast, Nat.le_eq, Nat.sub_eq, ne_eq, Decidable.not_not, implies_true, true_and, and_true, wadd, wsub, wmul, decide_eq_true_eq, decide_eq_false_iff_not, Nat.succ_eq_add_one, imp_false, not_false_eq_true, not_true_eq_false, false_imp_iff, true_imp_iff])
  exact hp

def fnext_s (L : Seal) : Ent1 := (99, fun xs => match xs with | [.str s] => some (L2 L upto 900000 s, .tup [.agg [.int .i64 (L nxK s), .int .u64 (L nxP s), .str (L nxB s)], .str (L nxR s), .int .i64 (L nxE s)]) | _ => none)
theorem fnext_good : Good Try.prog (fnext_s std) := by
  intro xs p r h hp
  dsimp only [fnext_s] at h ⊢
  split at h <;> cases h
  try simp only [L2, L3, std] at hp ⊢
  rename_i s
  refine acalls_L (T := tt) (S := fun L => sumOf [size_s L, pre_s L, get_s L, check_s L]) (lo := noA) (lb := noA) 5 (fn := Try.f99) rfl rfl (by kernel_rfl) (by kernel_rfl) rfl tt_ok (sumOf_ok ⟨size_good, pre_good, get_good, check_good, trivial⟩) (by kernel_rfl) ?_
  obtain ⟨hN0, hN1⟩ := nxN_bound s
  have bad : ∀ c : Int, c ≠ 0 → nxE s = c → (0 = nxK s ∧ 0 = nxP s ∧ [] = nxB s) ∧ [] = nxR s ∧ c = nxE s := by
    intro c hc he
    simp [nxK, nxP, nxB, nxR, he, hc]
  have hl : s.length ≤ 900000 := hp
  (intro L P1 Q1 hL hP hQ; cbv; subst hL; simp only [L2, L3, std, sat_need, sat_must, sat_ite, sat_done, sat_yes, sat_ex, sat_all, sat_sup, sat_and, sat_fail]; subst hQ)
  (simp only [sySet, reduceCtorEq, forall_const, Int.reduceToNat, Int.reduceAdd, Int.reduceSub, Int.cast_ofNat_Int, Int.toNat_natCast, Nat.le_eq, Nat.sub_eq, ne_eq, Decidable.not_not, implies_true, true_and, and_true, wadd, wsub, wmul, decide_eq_true_eq, decide_eq_false_iff_not, Nat.succ_eq_add_one, imp_false, not_false_eq_true, not_true_eq_false, false_imp_iff, true_imp_iff])
  simp only [show getZ (List.drop 12 (List.take 16 s)) = nxN s from rfl, show (nxN s + 9223372036854775808) % 18446744073709551616 - 9223372036854775808 = nxN s by omega, show (16 + nxN s) % 18446744073709551616 = nxN s + 16 by omega]
  have nc : nxE s = if s.length < 20 then 3 else if s.take 3 ≠ [79, 70, 1] then 4 else if (s.getD 3 0).toNat = 0 then 10 else if 8192 < nxN s then 5 else if (s.length : Int) < nxN s + 20 then 3 else chkE (s.take (nxN s + 20).toNat) := rfl
  refine ⟨by omega, fun h1 => bad 3 (by decide) (by rw [nc, if_pos (by omega)]), fun h1 => ⟨⟨by omega, by simp⟩, fun h2 => ?_, fun h2 => ?_⟩⟩
  · have h2 : s.take 3 ≠ [79, 70, 1] := by simpa [preB] using h2
    exact bad 4 (by decide) (by rw [nc, if_neg (by omega), if_pos h2])
  · have h2 : ¬ s.take 3 ≠ [79, 70, 1] := by simpa [preB] using h2
    refine ⟨by omega, fun h3 => bad 10 (by decide) (by rw [nc, if_neg (by omega), if_neg h2, if_pos (by omega)]), fun h3 => ⟨by omega, ⟨by simp only [List.length_drop, List.length_take]; omega, by simp only [List.length_drop, List.length_take]; omega⟩, fun h4 => bad 5 (by decide) (by rw [nc, if_neg (by omega), if_neg h2, if_neg (by omega), if_pos h4]), fun h4 => ⟨by omega,
      fun h5 => bad 3 (by decide) (by rw [nc, if_neg (by omega), if_neg h2, if_neg (by omega), if_neg (by omega), if_pos h5]), fun h5 => ?_⟩⟩⟩
    have ne : nxE s = chkE (s.take (nxN s + 20).toNat) := by rw [nc, if_neg (by omega), if_neg h2, if_neg (by omega), if_neg (by omega), if_neg (by omega)]
    refine ⟨by omega, by omega, by simp [upto]; omega, fun h6 => bad _ h6 ne, fun h6 => ?_⟩
    rw [h6] at ne
    have h8 := (s.getD 3 0).toNat_lt
    refine ⟨by omega, by omega, ⟨by simp only [List.length_drop, List.length_take]; omega, by simp only [List.length_drop, List.length_take]; omega⟩, by omega, by omega, by omega, ?_⟩
    simp only [nxK, nxP, nxB, nxR, ne, if_pos]
    exact ⟨⟨by omega, trivial, trivial⟩, trivial, trivial⟩

def paE (s : List UInt8) : Int := if nxE s = 0 ∧ nxR s ≠ [] then 4 else nxE s
def paK (s : List UInt8) : Int := if paE s = 0 then nxK s else 0
def paP (s : List UInt8) : Int := if paE s = 0 then nxP s else 0
def paB (s : List UInt8) : List UInt8 := if paE s = 0 then nxB s else []
def parse_s (L : Seal) : Ent1 := (72, fun xs => match xs with | [.str s] => some (L2 L upto 900000 s, .tup [.agg [.int .i64 (L paK s), .int .u64 (L paP s), .str (L paB s)], .int .i64 (L paE s)]) | _ => none)
theorem parse_good : Good Try.prog (parse_s std) := by
  intro xs p r h hp
  dsimp only [parse_s] at h ⊢
  split at h <;> cases h
  try simp only [L2, L3, std] at hp ⊢
  rename_i s
  refine acalls_L (T := tt) (S := fun L => sumOf [fnext_s L]) (lo := noA) (lb := noA) 5 (fn := Try.f72) rfl rfl (by kernel_rfl) (by kernel_rfl) rfl tt_ok (sumOf_ok ⟨fnext_good, trivial⟩) (by kernel_rfl) ?_
  (intro L P1 Q1 hL hP hQ; cbv; subst hL; simp only [L2, L3, std, sat_need, sat_must, sat_ite, sat_done, sat_yes, sat_ex, sat_all, sat_sup, sat_and, sat_fail]; subst hQ)
  (simp only [sySet, reduceCtorEq, forall_const, Int.reduceToNat, Int.reduceAdd, Int.reduceSub, Int.cast_ofNat_Int, Int.toNat_natCast, Nat.le_eq, Nat.sub_eq, ne_eq, Decidable.not_not, implies_true, true_and, and_true, wadd, wsub, wmul, decide_eq_true_eq, decide_eq_false_iff_not, Nat.succ_eq_add_one, imp_false, not_false_eq_true, not_true_eq_false, false_imp_iff, true_imp_iff])
  refine ⟨hp, fun h1 => ⟨fun h2 => ?_, fun h2 => ?_⟩, fun h1 => ?_⟩
  · have : paE s = 4 := if_pos ⟨h1, h2⟩
    simp [paK, paP, paB, this]
  · have : paE s = nxE s := if_neg (fun h => h.2 h2)
    simp [paK, paP, paB, this, h1]
  · have : paE s = nxE s := if_neg (fun h => h1 h.1)
    obtain ⟨e1, e2, e3, e4⟩ := nx_bad s h1
    simp [paK, paP, paB, this, h1, e1, e2, e3]
def rnL (s : List UInt8) : Int := if nxE s = 0 then nxN s + 20 else 0
def rnext_s (L : Seal) : Ent1 := (74, fun xs => match xs with | [.str s] => some (L2 L upto 900000 s, .tup [.agg [.int .i64 (L nxK s), .int .u64 (L nxP s), .str (L nxB s)], .int .i64 (L rnL s), .int .i64 (L nxE s)]) | _ => none)
theorem three (s : List UInt8) (h : 3 ≤ s.length) : ∃ c0 c1 c2 r, s = c0 :: c1 :: c2 :: r := by
  match s, h with
  | c0 :: c1 :: c2 :: r, _ => exact ⟨c0, c1, c2, r, rfl⟩
theorem rnext_good : Good Try.prog (rnext_s std) := by
  intro xs p r h hp
  dsimp only [rnext_s] at h ⊢
  split at h <;> cases h
  try simp only [L2, L3, std] at hp ⊢
  rename_i s
  refine acalls_L (T := tt) (S := fun L => sumOf [rget_s L, rby_s L]) (lo := noA) (lb := noA) 5 (fn := Try.f74) rfl rfl (by kernel_rfl) (by kernel_rfl) rfl tt_ok (sumOf_ok ⟨rget_good, rby_good, trivial⟩) (by kernel_rfl) ?_
  obtain ⟨hN0, hN1⟩ := nxN_bound s
  have hl : s.length ≤ 900000 := hp
  have hPb := nxP_bound s
  have bad : ∀ c : Int, c ≠ 0 → nxE s = c → (0 = nxK s ∧ 0 = nxP s ∧ [] = nxB s) ∧ 0 = rnL s ∧ c = nxE s := by
    intro c hc he
    obtain ⟨e1, e2, e3, e4⟩ := nx_bad s (by rw [he]; exact hc)
    have e5 : rnL s = 0 := if_neg (by rw [he]; exact hc)
    exact ⟨⟨e1.symm, e2.symm, e3.symm⟩, e5.symm, he.symm⟩
  have h8 := (s.getD 3 0).toNat_lt
  (intro L P1 Q1 hL hP hQ; cbv; subst hL; simp only [L2, L3, std, sat_need, sat_must, sat_ite, sat_done, sat_yes, sat_ex, sat_all, sat_sup, sat_and, sat_fail]; subst hQ)
  (simp only [sySet, reduceCtorEq, forall_const, Int.reduceToNat, Int.reduceAdd, Int.reduceSub, Int.cast_ofNat_Int, Int.toNat_natCast, Nat.le_eq, Nat.sub_eq, ne_eq, Decidable.not_not, implies_true, true_and, and_true, wadd, wsub, wmul, decide_eq_true_eq, decide_eq_false_iff_not, Nat.succ_eq_add_one, imp_false, not_false_eq_true, not_true_eq_false, false_imp_iff, true_imp_iff])
  simp only [show getZ (List.drop 12 (List.take 16 s)) = nxN s from rfl, show (nxN s + 9223372036854775808) % 18446744073709551616 - 9223372036854775808 = nxN s by omega, show (20 + nxN s + 9223372036854775808) % 18446744073709551616 - 9223372036854775808 = nxN s + 20 by omega, show (16 + nxN s + 9223372036854775808) % 18446744073709551616 - 9223372036854775808 = nxN s + 16 by omega, show (((s.getD 3 0).toNat : Int) + 9223372036854775808) % 18446744073709551616 - 9223372036854775808 = (s.getD 3 0).toNat by omega]
  have nc : nxE s = if s.length < 20 then 3 else if s.take 3 ≠ [79, 70, 1] then 4 else if (s.getD 3 0).toNat = 0 then 10 else if 8192 < nxN s then 5 else if (s.length : Int) < nxN s + 20 then 3 else chkE (s.take (nxN s + 20).toNat) := rfl
  refine ⟨fun h1 => bad 3 (by decide) (by rw [nc, if_pos (by omega)]), fun h1 => ?_⟩
  obtain ⟨c0, c1, c2, r, hs⟩ := three s (by omega)
  have t3 : s.take 3 = [c0, c1, c2] := by rw [hs]; rfl
  have g0 : s.getD 0 0 = c0 := by rw [hs]; rfl
  have g1 : s.getD 1 0 = c1 := by rw [hs]; rfl
  have g2 : s.getD 2 0 = c2 := by rw [hs]; rfl
  have ne4 : (c0.toNat ≠ 79 ∨ c1.toNat ≠ 70 ∨ c2.toNat ≠ 1) → nxE s = 4 := by
    intro h
    rw [nc, if_neg (by omega), if_pos]
    rw [t3]
    intro e
    simp only [List.cons.injEq, and_true] at e
    obtain ⟨rfl, rfl, rfl⟩ := e
    simp at h
  rw [g0, g1, g2]
  refine ⟨by omega, fun h2 => bad 4 (by decide) (ne4 (by omega)), fun h2 => ⟨by omega, fun h3 => bad 4 (by decide) (ne4 (by omega)), fun h3 => ⟨by omega, fun h4 => bad 4 (by decide) (ne4 (by omega)), fun h4 => ?_⟩⟩⟩
  have hm : s.take 3 = [79, 70, 1] := by
    rw [t3, show c0 = 79 from UInt8.toNat_inj.1 (by simpa using (by omega : c0.toNat = 79)), show c1 = 70 from UInt8.toNat_inj.1 (by simpa using (by omega : c1.toNat = 70)), show c2 = 1 from UInt8.toNat_inj.1 (by simpa using (by omega : c2.toNat = 1))]
  clear ne4 g0 g1 g2 t3 h2 h3 h4 hs
  have hm' : ¬ s.take 3 ≠ [79, 70, 1] := by simpa using hm
  refine ⟨by omega, fun h3 => bad 10 (by decide) (by rw [nc, if_neg (by omega), if_neg hm', if_pos (by omega)]), fun h3 => ⟨by omega, ⟨by simp only [List.length_drop, List.length_take]; omega, by simp only [List.length_drop, List.length_take]; omega⟩, fun h4 => bad 5 (by decide) (by rw [nc, if_neg (by omega), if_neg hm', if_neg (by omega), if_pos h4]), fun h4 => ⟨
    fun h5 => bad 3 (by decide) (by rw [nc, if_neg (by omega), if_neg hm', if_neg (by omega), if_neg (by omega), if_pos h5]), fun h5 => ?_⟩⟩⟩
  have ne : nxE s = chkE (s.take (nxN s + 20).toNat) := by
    rw [nc, if_neg (by omega), if_neg hm', if_neg (by omega), if_neg (by omega), if_neg (by omega)]
  have hb : (List.drop 16 (List.take (nxN s + 16).toNat s)).length = (nxN s).toNat := by simp only [List.length_drop, List.length_take]; omega
  have et : byT (s.getD 3 0).toNat (getZ (List.drop 4 (List.take 12 s))) (List.drop 16 (List.take (nxN s + 16).toNat s)) = markL (s.take (nxN s + 16).toNat) := by
    have : byE (s.getD 3 0).toNat (List.drop 16 (List.take (nxN s + 16).toNat s)) = 0 := by rw [byE, if_neg (by omega), if_neg (by omega)]
    rw [byT, if_pos this, head_is s (by omega) hm h5]
  have ec : chkE (s.take (nxN s + 20).toNat) = if markL (s.take (nxN s + 16).toNat) = s.take (nxN s + 20).toNat then 0 else 9 := by
    have hlen : (s.take (nxN s + 20).toNat).length = (nxN s + 20).toNat := by simp only [List.length_take]; omega
    rw [chkE, if_neg (by omega), hlen, List.take_take, show min ((nxN s + 20).toNat - 4) (nxN s + 20).toNat = (nxN s + 16).toNat by omega]
  rw [et]
  refine ⟨by omega, by omega, ⟨by simp only [List.length_drop, List.length_take]; omega, by simp only [List.length_drop, List.length_take]; omega⟩, by omega, ⟨hPb.1, hPb.2, by omega⟩, by omega, fun h6 => bad 9 (by decide) ?_, fun h6 => ?_⟩
  · rw [ne, ec, if_neg (fun e => h6 e.symm)]
  · rw [ec, if_pos h6.symm] at ne
    simp only [nxK, nxP, nxB, rnL, ne, if_pos]
    exact ⟨⟨trivial, trivial, trivial⟩, trivial, trivial⟩
end Sy
end Go.Proofs.Ythlggigjnpldcaa
namespace Go.Proofs.Ythlggigjnpldcaa
namespace Sy
open Go Go.RowKit
set_option maxRecDepth 100000
set_option linter.unusedSimpArgs false
set_option linter.unusedVariables false

theorem awake08_ac : ACalls Try.prog 94 [] (.bool true) := by
  refine acalls_L (T := tt) (S := fun L => sumOf [by_s L, tru 107, size_s L]) (lo := noA) (lb := noA) 5 (fn := Try.f94) rfl rfl (by kernel_rfl) (by kernel_rfl) rfl tt_ok (sumOf_ok ⟨by_good, tru_good Awake02_ac, size_good, trivial⟩) (by kernel_rfl) ?_
  (intro L P1 Q1 hL hP hQ; cbv; subst hL; simp only [L2, L3, std, sat_need, sat_must, sat_ite, sat_done, sat_yes, sat_ex, sat_all, sat_sup, sat_and, sat_fail]; subst hQ)
  (simp only [sySet, reduceCtorEq, forall_const, Int.reduceToNat, Int.reduceAdd, Int.reduceSub, Int.cast_ofNat_Int, Int.toNat_natCast, Nat.le_eq, Nat.sub_eq, ne_eq, Decidable.not_not, implies_true, true_and, and_true, wadd, wsub, wmul, decide_eq_true_eq, decide_eq_false_iff_not, Nat.succ_eq_add_one, imp_false, not_false_eq_true, not_true_eq_false, false_imp_iff, true_imp_iff])
  have e : byE 1 [] = 0 := rfl
  have t : byT 1 0 [] = markL (headT 1 0 []) := rfl
  rw [t, markL_length, headT_length]
  simp [byOk, e]
/-- Of any text: what Next and Parse, and the document's Next, say of it. -/
theorem tail (s : List UInt8) : (¬nxE s = 0 → (nxR s = [] → (paE s = nxE s → paK s = 0 ∧ paP s = 0 ∧ paB s = []) ∧ paE s = nxE s) ∧ nxR s = []) ∧
    (nxE s = 0 → (rnL s < ↑s.length → (0 ≤ rnL s ∧ rnL s ≤ ↑s.length) ∧ (nxR s = List.drop (rnL s).toNat s → (paE s = 4 → paK s = 0 ∧ paP s = 0 ∧ paB s = []) ∧ paE s = 4) ∧ nxR s = List.drop (rnL s).toNat s) ∧
      (↑s.length ≤ rnL s → (nxR s = [] → (paE s = 0 → paK s = nxK s ∧ paP s = nxP s ∧ paB s = nxB s) ∧ paE s = 0) ∧ nxR s = [])) := by
  refine ⟨fun h => ?_, fun h => ?_⟩
  · obtain ⟨e1, e2, e3, e4⟩ := nx_bad s h
    have pe : paE s = nxE s := if_neg (fun x => h x.1)
    refine ⟨fun _ => ⟨fun _ => ?_, pe⟩, e4⟩
    rw [paK, paP, paB, if_neg (by rw [pe]; exact h), if_neg (by rw [pe]; exact h), if_neg (by rw [pe]; exact h)]
    exact ⟨rfl, rfl, rfl⟩
  · obtain ⟨hl, _⟩ := nx_len s h
    have hN := (nxN_bound s).1
    have hL : rnL s = nxN s + 20 := if_pos h
    have hR : nxR s = s.drop (rnL s).toNat := by rw [nxR, if_pos h, hL]
    refine ⟨fun hlt => ⟨by omega, fun _ => ?_, hR⟩, fun hge => ?_⟩
    · have hne : nxR s ≠ [] := by
        intro e
        have := congrArg List.length (hR.symm.trans e)
        simp only [List.length_drop, List.length_nil] at this
        omega
      have pe : paE s = 4 := if_pos ⟨h, hne⟩
      refine ⟨fun _ => ?_, pe⟩
      rw [paK, paP, paB, if_neg (by rw [pe]; decide), if_neg (by rw [pe]; decide), if_neg (by rw [pe]; decide)]
      exact ⟨rfl, rfl, rfl⟩
    · have he : nxR s = [] := by rw [hR]; exact List.drop_eq_nil_of_le (by omega)
      have pe : paE s = 0 := by rw [paE, if_neg (fun x => x.2 he), h]
      refine ⟨fun _ => ⟨fun _ => ?_, pe⟩, he⟩
      rw [paK, paP, paB, if_pos pe, if_pos pe, if_pos pe]
      exact ⟨rfl, rfl, rfl⟩
end Sy
end Go.Proofs.Ythlggigjnpldcaa
