/-The symbolic executor: regions, in the order of the text and in any. The symbolic executor: a state that is one of a template's. The symbolic executor: sequences, branches, loops, scopes; and what stands between these and the texts behind.-/
import Derived.Test.YtfonekpmkdkgnaaGreatDoorM3
import Derived.Deep.LoopGhost
import Derived.IntWalk
import Derived.ChangeArms
import Derived.ChangeSlices
import Derived.OpenShut
import Derived.WideShapes
import Derived.Test.YtfonekpmkdkgnaaGreatDoorRows
import Derived.WalkKit
import Derived.WalkSpells
import Derived.WalkLawsBesides
import Derived.Deep.DeepCutAuto
import Derived.Deep.OwnRows
import Derived.Laws.IdiomStrings
import Derived.Lib.Hide
import Derived.Below
import Derived.ChangeSame
import Derived.ScopeJumps
import Derived.ProofKit
import Derived.Carry
import Derived.Lib.SmallJoins
import Derived.RegionTactic
import Derived.BigRegion
import Derived.Lib.Builder
namespace Go.Proofs.YtfonekpmkdkgnaaGreatDoor
namespace Sy
open Go Go.RowKit
set_option linter.unusedSimpArgs false
set_option linter.unusedVariables false
set_option linter.unusedSectionVars false
def zsu : List Operand -> List Nat
 | [] => []
 | .tmp t :: r => t :: zsu r
 | _ :: r => zsu r
def ytv (nt : Nat) (o : Oper) : Bool :=
 (match o.dst with | some d => zbg d nt | none => true) && (zbv o.op).all fun x => match x with | .const v => zix v | _ => true
def zr5 (i : Nat) (o : Oper) (ts : List Nat) : Nat -> List Oper -> Bool
 | _, [] => true
 | j, o' :: r => (match o'.dst with
   | none => true
   | some d => (za8 j i || (match o.dst with | some d' => !za8 d' d | none => true)) &&
     (!zbo ts d || (zbg j i && zau o.after.toList j) || (zbg i j && zau o'.after.toList i))) && zr5 i o ts (j + 1) r
def zmq (ops : List Oper) : Nat -> List Oper -> Bool
 | _, [] => true
 | i, o :: r => (o.after.toList.all fun e => !Region.binds .any e || zbg e.on i) && (match o.guard with | none => true | some (g, _) => zau o.after.toList g) &&
   zr5 i o (zsu (zbv o.op)) 0 ops && zmq ops (i + 1) r
structure yk8 (nt : Nat) (o : Oper) : Prop where
 dst : ∀ d, o.dst = some d -> d < nt
 pl : ∀ x ∈ zbv o.op, ∀ v, x = .const v -> zix v = true
theorem ybu {nt : Nat} {o : Oper} (h : ytv nt o = true) : yk8 nt o := by
 unfold ytv at h
 simp only [Bool.and_eq_true] at h
 refine ⟨fun d hd => ?_, fun x hx v hv => ?_⟩
 · have h1 := h.1
   rw [hd] at h1
   exact zas h1
 · have h2 := List.all_eq_true.1 h.2 x hx
   rw [hv] at h2
   exact h2
theorem yc8 {l : List Operand} {t : Nat} (h : Operand.tmp t ∈ l) : t ∈ zsu l := by
 induction l with
 | nil => cases h
 | cons x l ih =>
   rcases List.mem_cons.1 h with rfl | h'
   · simp [zsu]
   · cases x <;> simp [zsu, ih h']
structure zn6 (ops : List Oper) : Prop where
 back : ∀ (i : Nat) (o : Oper) (e : Edge), ops[i]? = some o -> e ∈ o.after -> Region.binds .any e = true -> e.on < i
 guard : ∀ (i : Nat) (o : Oper) g b, ops[i]? = some o -> o.guard = some (g, b) -> zau o.after.toList g = true
 once : ∀ (i j : Nat) (o o' : Oper) d, ops[i]? = some o -> ops[j]? = some o' -> o.dst = some d -> o'.dst = some d -> i = j
 reads : ∀ (i j : Nat) (o o' : Oper) d, ops[i]? = some o -> ops[j]? = some o' -> o'.dst = some d -> Operand.tmp d ∈ zbv o.op ->
   (j < i /\ zau o.after.toList j = true) \/ (i < j /\ zau o'.after.toList i = true)
theorem zm2 {i : Nat} {o : Oper} {ts : List Nat} : ∀ (l : List Oper) (j : Nat), zr5 i o ts j l = true -> ∀ (k : Nat) (o' : Oper), l[k]? = some o' -> ∀ d, o'.dst = some d ->
   (za8 (j + k) i || (match o.dst with | some d' => !za8 d' d | none => true)) = true /\ (!zbo ts d || (zbg (j + k) i && zau o.after.toList (j + k)) || (zbg i (j + k) && zau o'.after.toList i)) = true
 | [], _, _, k, o', hk, _, _ => by simp at hk
 | x :: l, j, h, k, o', hk, d, hd => by
   unfold zr5 at h
   rw [Bool.and_eq_true] at h
   cases k with
   | zero =>
     simp only [List.getElem?_cons_zero, Option.some.injEq] at hk
     subst hk
     have h1 := h.1
     rw [hd] at h1
     simp only [Bool.and_eq_true] at h1
     exact h1
   | succ k =>
     have := zm2 l (j + 1) h.2 k o' (by simpa using hk) d hd
     rw [show j + 1 + k = j + (k + 1) by omega] at this
     exact this
theorem zs2 {ops : List Oper} : ∀ (l : List Oper) (i : Nat), zmq ops i l = true -> ∀ (k : Nat) (o : Oper), l[k]? = some o ->
   ((o.after.toList.all fun e => !Region.binds .any e || zbg e.on (i + k)) && (match o.guard with | none => true | some (g, _) => zau o.after.toList g)) = true /\ zr5 (i + k) o (zsu (zbv o.op)) 0 ops = true
 | [], _, _, k, o, hk => by simp at hk
 | x :: l, i, h, k, o, hk => by
   unfold zmq at h
   rw [Bool.and_eq_true, Bool.and_eq_true] at h
   cases k with
   | zero =>
     simp only [List.getElem?_cons_zero, Option.some.injEq] at hk
     subst hk
     exact ⟨h.1.1, h.1.2⟩
   | succ k =>
     have := zs2 l (i + 1) h.2 k o (by simpa using hk)
     rw [show i + 1 + k = i + (k + 1) by omega] at this
     exact this
theorem zs1 {ops : List Oper} (h : zmq ops 0 ops = true) : zn6 ops := by
 have H := zs2 ops 0 h
 simp only [Nat.zero_add] at H
 refine ⟨fun i o e ho he hb => ?_, fun i o g b ho hg => ?_, fun i j o o' d ho ho' hd hd' => ?_, fun i j o o' d ho ho' hd hr => ?_⟩
 · have h1 := (H i o ho).1
   rw [Bool.and_eq_true, List.all_eq_true] at h1
   have h2 := h1.1 e (Array.mem_toList_iff.2 he)
   rw [hb] at h2
   exact zas (by simpa using h2)
 · have h1 := (H i o ho).1
   rw [Bool.and_eq_true] at h1
   have h2 := h1.2
   rw [hg] at h2
   exact h2
 · have h1 := (zm2 ops 0 (H i o ho).2 j o' ho' d hd').1
   rw [hd, Nat.zero_add] at h1
   simp only [za3, Bool.not_true, Bool.or_false] at h1
   exact (za1 h1).symm
 · have h1 := (zm2 ops 0 (H i o ho).2 j o' ho' d hd).2
   rw [Nat.zero_add, zcd.2 (yc8 hr)] at h1
   simp only [Bool.not_true, Bool.false_or, Bool.or_eq_true, Bool.and_eq_true] at h1
   rcases h1 with h1 | h1
   · exact .inl ⟨zas h1.1, h1.2⟩
   · exact .inr ⟨zas h1.1, h1.2⟩
section
variable {P : Program} {T : TT} {base : Nat} {M : Two} {W : World} {nt : Nat} {ops : List Oper}
theorem zzz {f : Nat -> Option AV} {g : Nat -> Option Ob} {c : Nat -> Bool} {a : Act} {w : World} {o : Oper} {e : Ev} (hs : zij base M W nt f g c a w) (hops : ∀ o ∈ ops, yk8 nt o)
   (hg : match zie ops o with
     | none => e.want = true
     | some (some t, w) => (∃ b, f t = some (.bool b) /\ e.want = (b == w)) \/ (f t = some (.tup []) /\ e.want = false)
     | some (none, _) => False) : Region.wanted o (yielded ops.toArray a.tmps) = e.want := by
 obtain ⟨D, μ, h⟩ := hs
 unfold Region.wanted
 unfold zie at hg
 cases e1 : o.guard with
 | none => rw [e1] at hg; simp only at hg |-; exact hg.symm
 | some x =>
   obtain ⟨j, wt⟩ := x
   rw [e1] at hg
   simp only at hg |-
   cases e2 : ops[j]? with
   | none => rw [e2] at hg; exact hg.elim
   | some o' =>
     rw [e2] at hg
     simp only at hg
     cases e3 : o'.dst with
     | none => rw [e3] at hg; exact hg.elim
     | some t =>
       rw [e3] at hg
       simp only at hg
       rcases hg with ⟨b, hb, hw⟩ | ⟨hb, hw⟩
       rotate_left
       · have ht : t < a.tmps.size := by rw [h.tmps]; exact (hops o' (List.mem_of_getElem? e2)).dst t e3
         obtain ⟨us, hu, l1, _⟩ := (h.slots t _ hb).inv_tup
         have hus : us = #[] := Array.eq_empty_of_size_eq_zero (by simpa using l1.symm)
         have hx : a.tmps[t]? = some (.tuple #[]) := by
           rw [hus] at hu
           rw [<- hu]; simp [ht]
         unfold yielded
         simp only [List.getElem?_toArray, e2, Option.bind_some, e3, hx]
         rw [hw]; cases wt <;> rfl
       have ht : t < a.tmps.size := by rw [h.tmps]; exact (hops o' (List.mem_of_getElem? e2)).dst t e3
       have hr := (h.slots t _ hb).inv_bool
       have hx : a.tmps[t]? = some (.bool b) := by rw [<- hr]; simp [ht]
       unfold yielded
       simp only [List.getElem?_toArray, e2, Option.bind_some, e3, hx]
       rw [hw]
       cases b <;> cases wt <;> rfl
theorem zpe {f : Nat -> Option AV} {g : Nat -> Option Ob} {c : Nat -> Bool} {a : Act} {w : World} {o : Oper} {e : Ev} {i : Nat} {Q : Exit -> Act -> World -> Prop} {K : Act -> World -> Prop} (hT : zbw P T)
   (hs : zij base M W nt f g c a w) (hops : ∀ o ∈ ops, yk8 nt o) (ho : ops[i]? = some o) (he : yt0 P T ops f g c o e)
   (hK : ∀ a' w', zij base M W nt (znm f o.dst e.v) (zbe g e.os) (zjd c e.ice) a' w' -> K a' w') : wpOp P ops.toArray Q i K a w := by
 have hw := zzz hs hops he.guard
 have hok := hops o (List.mem_of_getElem? ho)
 obtain ⟨D, μ, h⟩ := hs
 unfold wpOp
 rw [List.getElem?_toArray, ho]
 simp only
 rw [hw]
 cases e1 : e.want with
 | true =>
   rw [if_pos rfl]
   rcases he.yes e1 with h1 | ⟨h1, h2⟩
   · exact .inl (ys8 h1 (says h hok.dst hT hok.pl (fun t b ht => by simp [za2] at ht)) K Q hK)
   · rw [h2] at hK
     exact .inl (yvf h hok.dst hok.pl h1 K Q hK)
 | false =>
   rw [if_neg (by simp)]
   obtain ⟨h1, h2, h3, _⟩ := he.no e1
   rw [h1, h2, h3] at hK
   exact hK _ _ ⟨D, μ, h.put hok.dst (.tup [] #[] rfl (fun i x v hx => by simp at hx))⟩
theorem ya9 (hT : zbw P T) (hops : ∀ o ∈ ops, yk8 nt o) {Q : Exit -> Act -> World -> Prop} {draw : Bool} : ∀ (r : List Oper) (i : Nat) (f : Nat -> Option AV) (g : Nat -> Option Ob) (c : Nat -> Bool) (acc : List (Nat × Ent)) (es : List Ev) (f' : Nat -> Option AV) (g' : Nat -> Option Ob) (c' : Nat -> Bool) (a : Act) (w : World),
   (∀ k, r[k]? = ops[i + k]?) -> Walk P T draw ops r i f g c acc es f' g' c' -> zij base M W nt f g c a w -> (∀ a' w', zij base M W nt f' g' c' a' w' -> Q .normal a' w') ->
   wpOps P ops.toArray Q (List.range' i r.length) a w
 | [], i, f, g, c, acc, es, f', g', c', a, w, hr, hW, hs, hQ => by
   cases es with
   | nil => obtain ⟨rfl, rfl, rfl⟩ := hW; exact hQ a w hs
   | cons _ _ => exact hW.elim
 | o :: r, i, f, g, c, acc, [], f', g', c', a, w, hr, hW, hs, hQ => hW.elim
 | o :: r, i, f, g, c, acc, e :: es, f', g', c', a, w, hr, hW, hs, hQ => by
   have ho : ops[i]? = some o := by have := hr 0; simpa using this.symm
   rw [List.length_cons, List.range'_succ, wpOps_cons]
   exact zpe hT hs hops ho hW.1 fun a' w' hs' => ya9 hT hops r (i + 1) _ _ _ _ es f' g' c' a' w' (fun k => by have := hr (k + 1); rw [List.getElem?_cons_succ] at this; rw [this]; congr 1; omega) hW.2.2 hs' hQ
def zzo (ops : List Oper) (E : Nat -> Ev) (t : Nat) (j : Nat) : Option AV := match ops[j]? with
 | some o => if o.dst = some t then some (E j).v else none
 | none => none
theorem zw6 (f : Nat -> Option AV) (o : Oper) (v : AV) (t : Nat) : znm f o.dst v t = match (if o.dst = some t then some v else none) with | some x => some x | none => f t := by
 unfold znm
 cases e : o.dst with
 | none => simp
 | some d =>
   by_cases h : t = d
   · subst h; simp
   · simp [h]; rw [if_neg (fun h' => h h'.symm)]
section
variable (ops : List Oper) (E : Nat -> Ev) (f0 : Nat -> Option AV) (g0 : Nat -> Option Ob) (c0 : Nat -> Bool)
def fL (L : Nat -> Bool) (n : Nat) : Nat -> Option AV := fun t => zim L (zzo ops E t) (f0 t) n
def gL (L : Nat -> Bool) (n : Nat) : Nat -> Option Ob := fun id => zim L (fun j => za2 (E j).os id) (g0 id) n
def cL (L : Nat -> Bool) (n : Nat) : Nat -> Bool := fun id => znq L (fun j => zbo (E j).ice id) (c0 id) n
end
abbrev zgi : Nat -> Bool := fun _ => true
variable {E : Nat -> Ev} {f0 : Nat -> Option AV} {g0 : Nat -> Option Ob} {c0 : Nat -> Bool}
theorem ymq {i : Nat} {o : Oper} (ho : ops[i]? = some o) : fL ops E f0 zgi (i + 1) = znm (fL ops E f0 zgi i) o.dst (E i).v := by
 funext t
 rw [zw6]
 show zim zgi (zzo ops E t) (f0 t) (i + 1) = _
 rw [zmb, if_pos rfl]
 have : zzo ops E t i = if o.dst = some t then some (E i).v else none := by unfold zzo; rw [ho]
 rw [this]
 cases (if o.dst = some t then some (E i).v else none) <;> rfl
theorem ymj {i : Nat} : gL E g0 zgi (i + 1) = zbe (gL E g0 zgi i) (E i).os := by
 funext id
 show zim zgi _ (g0 id) (i + 1) = _
 rw [zmb, if_pos rfl]
 unfold zbe
 cases za2 (E i).os id <;> rfl
theorem ynq {i : Nat} : cL E c0 zgi (i + 1) = zjd (cL E c0 zgi i) (E i).ice := by
 funext id
 show znq zgi _ (c0 id) (i + 1) = _
 rw [zse]
 rfl
def yg8 (E : Nat -> Ev) (acc : List (Nat × Ent)) (i : Nat) : Prop := ∀ k, k < i -> (E k).ent = ⟨[], []⟩ \/ (k, (E k).ent) ∈ acc
theorem zxz {acc : List (Nat × Ent)} {i : Nat} (h : yg8 E acc i) (hno : (E i).want = false -> (E i).ent = ⟨[], []⟩) : yg8 E (zy0 acc i (E i)) (i + 1) := by
 intro k hk
 unfold zy0
 by_cases hi : k = i
 · subst hi
   cases hw : (E k).want with
   | false => exact .inl (hno hw)
   | true =>
     rw [if_pos rfl]
     unfold zvi
     generalize (E k).ent = x
     obtain ⟨a, b⟩ := x
     cases a with
     | nil => cases b with
       | nil => exact .inl rfl
       | cons _ _ => exact .inr (by simp)
     | cons _ _ => exact .inr (by simp)
 · rcases h k (by omega) with h | h
   · exact .inl h
   · refine .inr ?_
     split
     · unfold zvi
       split
       · split
         · exact h
         · exact List.mem_cons_of_mem _ h
       · exact List.mem_cons_of_mem _ h
     · exact h
structure At (P : Program) (T : TT) (ops : List Oper) (E : Nat -> Ev) (f0 : Nat -> Option AV) (g0 : Nat -> Option Ob) (c0 : Nat -> Bool) (j : Nat) (o : Oper) : Prop where
 ev : yt0 P T ops (fL ops E f0 zgi j) (gL E g0 zgi j) (cL E c0 zgi j) o (E j)
 ent : yip (fL ops E f0 zgi j) o (E j)
 ord : ∃ acc, yg8 E acc j /\ yim ops o (E j) acc
theorem ya0 : ∀ (r : List Oper) (i : Nat) (f : Nat -> Option AV) (g : Nat -> Option Ob) (c : Nat -> Bool) (acc : List (Nat × Ent)) (es : List Ev) (f' : Nat -> Option AV) (g' : Nat -> Option Ob) (c' : Nat -> Bool),
   (∀ k, r[k]? = ops[i + k]?) -> (∀ k e, es[k]? = some e -> E (i + k) = e) -> f = fL ops E f0 zgi i -> g = gL E g0 zgi i -> c = cL E c0 zgi i -> yg8 E acc i -> Walk P T true ops r i f g c acc es f' g' c' ->
   (∀ j o, i <= j -> ops[j]? = some o -> At P T ops E f0 g0 c0 j o) /\ f' = fL ops E f0 zgi (i + r.length) /\ g' = gL E g0 zgi (i + r.length) /\ c' = cL E c0 zgi (i + r.length)
 | [], i, f, g, c, acc, es, f', g', c', hr, hE, ef, eg, ec, hn, hW => by
   cases es with
   | nil =>
     obtain ⟨rfl, rfl, rfl⟩ := hW
     refine ⟨fun j o hj ho => ?_, ef, eg, ec⟩
     have := hr (j - i)
     rw [show i + (j - i) = j by omega, ho] at this
     simp at this
   | cons _ _ => exact hW.elim
 | o :: r, i, f, g, c, acc, [], f', g', c', hr, hE, ef, eg, ec, hn, hW => hW.elim
 | o :: r, i, f, g, c, acc, e :: es, f', g', c', hr, hE, ef, eg, ec, hn, hW => by
   have ho : ops[i]? = some o := by have := hr 0; simpa using this.symm
   obtain ⟨h1, h2, h3⟩ := hW
   obtain ⟨h2, h2'⟩ := h2 rfl
   have hEi : E i = e := hE 0 e rfl
   rw [if_pos rfl] at h3
   have ih := ya0 r (i + 1) _ _ _ _ es f' g' c' (fun k => by have := hr (k + 1); rw [List.getElem?_cons_succ] at this; rw [this]; congr 1; omega) (fun k x hx => by rw [show i + 1 + k = i + (k + 1) by omega]; exact hE (k + 1) x (by simpa using hx))
     (by rw [ymq ho, hEi, ef]) (by rw [ymj, hEi, eg]) (by rw [ynq, hEi, ec]) (by rw [<- hEi]; exact zxz hn (by rw [hEi]; exact fun hw => (h1.no hw).2.2.2)) h3
   obtain ⟨i1, i2, i3, i4⟩ := ih
   rw [show i + 1 + r.length = i + (o :: r).length by simp; omega] at i2 i3 i4
   refine ⟨fun j o' hj ho' => ?_, i2, i3, i4⟩
   by_cases e1 : j = i
   · subst e1
     rw [ho] at ho'
     cases ho'
     subst hEi; subst ef; subst eg; subst ec
     exact ⟨h1, h2, acc, hn, h2'⟩
   · exact i1 j o' (by omega) ho'
theorem zr9 {xs ys : List Nat} {id : Nat} (h1 : id ∈ xs) (h2 : id ∈ ys) : meets xs ys = true := by
 induction xs with
 | nil => cases h1
 | cons x xs ih =>
   unfold meets
   rcases List.mem_cons.1 h1 with rfl | h1
   · rw [zcd.2 h2]
   · split
     · rfl
     · exact ih h1
theorem ync {a b : Ent} {id : Nat} (h1 : id ∈ a.wr) (h2 : id ∈ b.ids \/ id ∈ b.wr) : zug a b = true := by
 unfold zug
 rw [zr9 h1 (by rw [zae, List.mem_append]; exact h2)]
theorem ynb {a b : Ent} {id : Nat} (h1 : id ∈ b.wr) (h2 : id ∈ a.ids) : zug a b = true := by
 unfold zug
 split
 · rfl
 · exact zr9 h1 h2
theorem zte {es : List Edge} {x : Ent} {acc : List (Nat × Ent)} (h : zk3 ops es x acc = true) {k : Nat} {y : Ent} (hm : (k, y) ∈ acc) (hc : zug x y = true) : zzh ops 4 es k = true := by
 induction acc with
 | nil => cases hm
 | cons z acc ih =>
   obtain ⟨j, z⟩ := z
   unfold zk3 at h
   rcases List.mem_cons.1 hm with e | hm
   · cases e
     rw [hc] at h
     simp only at h
     split at h
     · assumption
     · cases h
   · refine ih ?_ hm
     split at h
     · split at h
       · exact h
       · cases h
     · exact h
def zop (ops : List Oper) (L : Nat -> Bool) : Prop := ∀ (k : Nat) (o : Oper) (e : Edge), ops[k]? = some o -> L k = true -> e ∈ o.after -> Region.binds .any e = true -> L e.on = true
theorem zh8 {L : Nat -> Bool} {es : List Edge} {j : Nat} (h : ∀ e ∈ es, Region.binds .any e = true -> L e.on = true) (hd : zau es j = true) : L j = true := by
 induction es with
 | nil => simp [zau] at hd
 | cons e es ih =>
   have ih := ih fun x hx => h x (by simp [hx])
   unfold zau at hd
   split at hd
   · rename_i hb
     split at hd
     · rename_i he
       rw [<- za1 he]; exact h e (by simp) hb
     · exact ih hd
   · exact ih hd
theorem zqb {L : Nat -> Bool} (hc : zop ops L) {j : Nat} : ∀ (n : Nat) (es : List Edge), (∀ e ∈ es, Region.binds .any e = true -> L e.on = true) -> zzh ops n es j = true -> L j = true
 | 0, es, h, hd => zh8 h hd
 | n + 1, es, h, hd => by
   unfold zzh at hd
   split at hd
   · rename_i h'; exact zh8 h h'
   · rw [List.any_eq_true] at hd
     obtain ⟨e, he, hd⟩ := hd
     split at hd
     · rename_i hb
       split at hd
       · cases hd
       · split at hd
         · rename_i o ho
           exact zqb hc n o.after.toList (fun x hx hxb => hc e.on o x ho (h e he hb) (Array.mem_toList_iff.1 hx) hxb) hd
         · cases hd
     · cases hd
structure yen (ops : List Oper) (L : Nat -> Bool) (i : Nat) (o : Oper) : Prop where
 at_ : ops[i]? = some o
 not : L i = false
 go : ∀ e ∈ o.after.toList, Region.binds .any e = true -> L e.on = true
variable {L : Nat -> Bool} {i : Nat} {o : Oper}
theorem yrn (h : At P T ops E f0 g0 c0 i o) {id : Nat} (hid : id ∈ (E i).ent.ids \/ id ∈ (E i).ent.wr) : (E i).want = true := by
 cases hw : (E i).want with
 | true => rfl
 | false =>
   have := (h.ev.no hw).2.2.2
   rw [this] at hid
   simp at hid
theorem zvb (hA : ∀ j o, ops[j]? = some o -> At P T ops E f0 g0 c0 j o) {j k : Nat} {o : Oper} (ho : ops[k]? = some o) (hjk : j < k) {id : Nat} (h : (id ∈ (E k).ent.wr /\ (id ∈ (E j).ent.ids \/ id ∈ (E j).ent.wr)) \/ (id ∈ (E j).ent.wr /\ id ∈ (E k).ent.ids)) : zzh ops 4 o.after.toList j = true := by
 have A := hA k o ho
 have hw : (E k).want = true := yrn A (id := id) (by rcases h with h | h; exact .inr h.1; exact .inl h.2)
 obtain ⟨acc, hn, ho'⟩ := A.ord
 have hor := ho' hw
 have hcl : zug (E k).ent (E j).ent = true := by
   rcases h with h | h
   · exact ync h.1 h.2
   · exact ynb h.1 h.2
 rcases hn j hjk with h0 | h0
 · rw [h0] at h; simp at h
 · exact zte hor h0 hcl
theorem ysg (hA : ∀ j o, ops[j]? = some o -> At P T ops E f0 g0 c0 j o) (hC : zop ops L) (hR : yen ops L i o) {j : Nat} (hj : j < ops.length) {id : Nat}
   (h : (id ∈ (E j).ent.wr /\ (id ∈ (E i).ent.ids \/ id ∈ (E i).ent.wr)) \/ (id ∈ (E i).ent.wr /\ id ∈ (E j).ent.ids)) : L j = decide (j < i) := by
 obtain ⟨oj, hoj⟩ : ∃ oj, ops[j]? = some oj := ⟨_, List.getElem?_eq_getElem hj⟩
 rcases Nat.lt_trichotomy j i with hlt | heq | hgt
 · have := zvb hA hR.at_ hlt (id := id) (by
     rcases h with ⟨h1, h2 | h2⟩ | ⟨h1, h2⟩
     · exact .inr ⟨h1, h2⟩
     · exact .inl ⟨h2, .inr h1⟩
     · exact .inl ⟨h1, .inl h2⟩)
   rw [zqb hC 4 _ hR.go this]; simp [hlt]
 · subst heq
   rw [hR.not]; simp
 · have := zvb hA hoj hgt (id := id) (by
     rcases h with ⟨h1, h2 | h2⟩ | ⟨h1, h2⟩
     · exact .inl ⟨h1, .inl h2⟩
     · exact .inl ⟨h1, .inr h2⟩
     · exact .inr ⟨h1, h2⟩)
   have hn : L j = false := by
     cases hL : L j with
     | false => rfl
     | true =>
       have h2 := zqb hC 4 _ (fun e he hb => hC j oj e hoj hL (Array.mem_toList_iff.1 he) hb) this
       rw [hR.not] at h2; cases h2
   rw [hn]; simp; omega
theorem yjw (hD : zn6 ops) (hC : zop ops L) (hR : yen ops L i o) {t : Nat} (ht : Operand.tmp t ∈ zbv o.op \/ ∃ g b og, o.guard = some (g, b) /\ ops[g]? = some og /\ og.dst = some t) : fL ops E f0 L ops.length t = fL ops E f0 zgi i t := by
 have hi : i < ops.length := (List.getElem?_eq_some_iff.1 hR.at_).1
 show zim L (zzo ops E t) (f0 t) ops.length = zim zgi (zzo ops E t) (f0 t) i
 rw [<- zmc i ops.length (by omega)]
 refine zd4 _ fun j hj hh => ?_
 obtain ⟨oj, hoj⟩ : ∃ oj, ops[j]? = some oj := ⟨_, List.getElem?_eq_getElem hj⟩
 have hdj : oj.dst = some t := by
   unfold zzo at hh
   rw [hoj] at hh
   simp only at hh
   split at hh
   · assumption
   · exact absurd rfl hh
 rcases ht with ht | ⟨g, b, og, h1, h2, h3⟩
 · rcases hD.reads i j o oj t hR.at_ hoj hdj ht with h | h
   · rw [zh8 hR.go h.2]; simp [h.1]
   · have hn : L j = false := by
       cases hL : L j with
       | false => rfl
       | true =>
         have h2 := zh8 (fun e he hb => hC j oj e hoj hL (Array.mem_toList_iff.1 he) hb) h.2
         rw [hR.not] at h2; cases h2
     rw [hn]; simp; omega
 · have := hD.once j g oj og t hoj h2 hdj h3
   subst this
   have hd := hD.guard i o j b hR.at_ h1
   rw [zh8 hR.go hd]
   have : j < i := by
     have key : ∀ es : List Edge, (∀ e ∈ es, Region.binds .any e = true -> e.on < i) -> zau es j = true -> j < i := by
       intro es
       induction es with
       | nil => intro _ h; simp [zau] at h
       | cons e es ih =>
         intro h hd
         have ih := ih fun x hx => h x (by simp [hx])
         unfold zau at hd
         split at hd
         · rename_i hb
           split at hd
           · rename_i he; rw [<- za1 he]; exact h e (by simp) hb
           · exact ih hd
         · exact ih hd
     exact key _ (fun e he hb => hD.back i o e hR.at_ (Array.mem_toList_iff.1 he) hb) hd
   simp [this]
theorem yh7 {α : Type} {l : List (Nat × α)} {id : Nat} (h : za2 l id ≠ none) : id ∈ zyb l := by
 induction l with
 | nil => simp [za2] at h
 | cons x l ih =>
   obtain ⟨k, v⟩ := x
   unfold za2 at h
   unfold zyb
   cases e : za8 k id with
   | true => simp [za1 e]
   | false => rw [e] at h; simp [ih h]
theorem yg1 (h : At P T ops E f0 g0 c0 i o) {id : Nat} (hh : za2 (E i).os id ≠ none) : id ∈ (E i).ent.wr := by
 cases hw : (E i).want with
 | true => exact (h.ent hw).2.2.2.1 id (yh7 hh)
 | false => rw [(h.ev.no hw).2.1] at hh; simp [za2] at hh
theorem ymc (h : At P T ops E f0 g0 c0 i o) {id : Nat} (hh : zbo (E i).ice id = true) : id ∈ (E i).ent.ids := by
 cases hw : (E i).want with
 | true => exact (h.ent hw).2.2.1 id (zcd.1 hh)
 | false => rw [(h.ev.no hw).2.2.1] at hh; simp [zbo] at hh
theorem yrj (hD : zn6 ops) (hA : ∀ j o, ops[j]? = some o -> At P T ops E f0 g0 c0 j o) (hC : zop ops L) (hR : yen ops L i o) :
   yt0 P T ops (fL ops E f0 L ops.length) (gL E g0 L ops.length) (cL E c0 L ops.length) o (E i) := by
 have A := hA i o hR.at_
 have hi : i < ops.length := (List.getElem?_eq_some_iff.1 hR.at_).1
 refine ⟨?_, A.ev.no, fun hw => ?_⟩
 · have hg := A.ev.guard
   unfold zie at hg |-
   cases e1 : o.guard with
   | none => rw [e1] at hg; exact hg
   | some x =>
     obtain ⟨j, b⟩ := x
     rw [e1] at hg
     simp only at hg |-
     cases e2 : ops[j]? with
     | none => rw [e2] at hg; exact hg
     | some o' =>
       rw [e2] at hg
       simp only at hg |-
       cases e3 : o'.dst with
       | none => rw [e3] at hg; exact hg
       | some t =>
         rw [e3] at hg
         simp only at hg |-
         rw [yjw hD hC hR (.inr ⟨j, b, o', e1, e2, e3⟩)]
         exact hg
 · have h1 := A.ev.yes hw
   obtain ⟨n1, n2, n3, n4, n5⟩ := A.ent hw
   have hv : zcw (evf (fL ops E f0 L ops.length) []) (zbv o.op) = zcw (evf (fL ops E f0 zgi i) []) (zbv o.op) := by
     refine zhl fun x hx => ?_
     cases x with
     | tmp t => simp only [evf, za2]; rw [yjw hD hC hR (.inl hx)]
     | _ => rfl
   have hg : ∀ id, id ∈ (E i).ent.ids -> gL E g0 L ops.length id = gL E g0 zgi i id := by
     intro id hid
     show zim L _ (g0 id) ops.length = zim zgi _ (g0 id) i
     rw [<- zmc i ops.length (by omega)]
     refine zd4 _ fun j hj hh => ?_
     obtain ⟨oj, hoj⟩ : ∃ oj, ops[j]? = some oj := ⟨_, List.getElem?_eq_getElem hj⟩
     exact ysg hA hC hR hj (id := id) (.inl ⟨yg1 (hA j oj hoj) hh, .inl hid⟩)
   have hgw : ∀ id, id ∈ (E i).ent.wr -> gL E g0 L ops.length id = gL E g0 zgi i id := by
     intro id hid
     show zim L _ (g0 id) ops.length = zim zgi _ (g0 id) i
     rw [<- zmc i ops.length (by omega)]
     refine zd4 _ fun j hj hh => ?_
     obtain ⟨oj, hoj⟩ : ∃ oj, ops[j]? = some oj := ⟨_, List.getElem?_eq_getElem hj⟩
     exact ysg hA hC hR hj (id := id) (.inl ⟨yg1 (hA j oj hoj) hh, .inr hid⟩)
   have hc : ∀ id, id ∈ (E i).ent.wr -> cL E c0 L ops.length id = cL E c0 zgi i id := by
     intro id hid
     show znq L _ (c0 id) ops.length = znq zgi _ (c0 id) i
     rw [<- yeh i ops.length (by omega)]
     refine zfn _ fun j hj hh => ?_
     obtain ⟨oj, hoj⟩ : ∃ oj, ops[j]? = some oj := ⟨_, List.getElem?_eq_getElem hj⟩
     exact ysg hA hC hR hj (id := id) (.inr ⟨hid, ymc (hA j oj hoj) hh⟩)
   rcases h1 with h1 | ⟨h1, h2⟩
   · left
     rw [zln (f' := fL ops E f0 zgi i) (g' := gL E g0 zgi i) (c' := cL E c0 zgi i) (kn' := []) hv (fun id hid => hg id (n1 id hid)) (fun hcr d hd => hg d (n2 hcr d hd)) (fun hwr id hid => hc id (n5 hwr id hid))]
     exact h1
   · right
     refine ⟨?_, h2⟩
     obtain ⟨fo, xs, ts, k, first, caps, zs, F, fr, T', e, hvals, hM, hm, q1, q2⟩ := h1
     refine ⟨fo, xs, ts, k, first, caps, zs, F, fr, T', e, by rw [hv]; exact hvals, hM, hm.congr (fun id hid => hgw id (n4 id (by rw [q2]; exact hid))) (fun id hid => hc id (n4 id (by rw [q2]; exact hid))), q1, q2⟩
theorem yo6 (hD : zn6 ops) (hA : ∀ j o, ops[j]? = some o -> At P T ops E f0 g0 c0 j o) (hC : zop ops L) (hR : yen ops L i o) {L' : Nat -> Bool} (h1 : L' i = true) (hne : ∀ j, j ≠ i -> L' j = L j) :
   znm (fL ops E f0 L ops.length) o.dst (E i).v = fL ops E f0 L' ops.length /\ zbe (gL E g0 L ops.length) (E i).os = gL E g0 L' ops.length /\ zjd (cL E c0 L ops.length) (E i).ice = cL E c0 L' ops.length := by
 have A := hA i o hR.at_
 have hi : i < ops.length := (List.getElem?_eq_some_iff.1 hR.at_).1
 refine ⟨?_, ?_, ?_⟩
 · funext t
   rw [zw6]
   have hf : zzo ops E t i = if o.dst = some t then some (E i).v else none := by unfold zzo; rw [hR.at_]
   have := zpr (hit := zzo ops E t) (s := f0 t) h1 hR.not hne ops.length hi (fun hh j hij hj hLj => by
     rw [hf] at hh
     have hd : o.dst = some t := by
       split at hh
       · assumption
       · exact absurd rfl hh
     obtain ⟨oj, hoj⟩ : ∃ oj, ops[j]? = some oj := ⟨_, List.getElem?_eq_getElem hj⟩
     unfold zzo
     rw [hoj]
     simp only
     rw [if_neg]
     intro hdj
     have := hD.once i j o oj t hR.at_ hoj hd hdj
     omega)
   rw [hf] at this
   show _ = zim L' (zzo ops E t) (f0 t) ops.length
   rw [this]
   cases (if o.dst = some t then some (E i).v else none) <;> rfl
 · funext id
   have := zpr (hit := fun j => za2 (E j).os id) (s := g0 id) h1 hR.not hne ops.length hi (fun hh j hij hj hLj => by
     refine Decidable.byContradiction fun hjn => ?_
     obtain ⟨oj, hoj⟩ : ∃ oj, ops[j]? = some oj := ⟨_, List.getElem?_eq_getElem hj⟩
     have := ysg hA hC hR hj (id := id) (.inl ⟨yg1 (hA j oj hoj) (by intro e; rw [e] at hjn; exact hjn rfl), .inr (yg1 A hh)⟩)
     rw [hLj] at this
     simp at this
     omega)
   show _ = zim L' (fun j => za2 (E j).os id) (g0 id) ops.length
   rw [this]
   unfold zbe
   cases za2 (E i).os id <;> rfl
 · funext id
   have := zwm (p := fun j => zbo (E j).ice id) (s := c0 id) h1 hR.not hne ops.length hi
   show _ = znq L' _ (c0 id) ops.length
   rw [this]
   rfl
def left (L : Array Bool) : Nat := L.toList.count false
theorem yh2 {L : Array Bool} {i : Nat} (h : L.getD i true = false) (hi : i < L.size) : left (L.setIfInBounds i true) + 1 = left L := by
 have hget : L[i] = false := by simpa [hi] using h
 unfold left
 have hc : 0 < List.count false L.toList := List.count_pos_iff.2 (by rw [<- hget]; simp)
 have h2 := List.count_set (a := true) (b := false) (l := L.toList) (i := i) (by simpa using hi)
 rw [Array.toList_setIfInBounds, h2]
 have e1 : (L.toList[i]'(by simpa using hi)) = false := by simpa using hget
 rw [e1]
 have e2 : ((false == false) = true) := rfl
 have e3 : ¬ ((true == false) = true) := by decide
 rw [if_pos e2, if_neg e3]
 omega
theorem zu0 {L : Array Bool} {i : Nat} (h : i < L.size) (d d' : Bool) : L.getD i d = L.getD i d' := by simp [h]
theorem zsf (hD : zn6 ops) {L : Array Bool} (hs : L.size = ops.length) (hn : Region.ready .any ops.toArray L = []) : ∀ j, j < ops.length -> L.getD j true = true := by
 intro j
 induction j using Nat.strongRecOn with
 | _ j ih =>
   intro hj
   refine Decidable.byContradiction fun h => ?_
   have hm : j ∈ Region.ready .any ops.toArray L := by
     rw [mem_ready]
     refine ⟨by simpa using h, ops[j], by simp [hj], fun e he hb => ?_⟩
     have hlt := hD.back j ops[j] e (List.getElem?_eq_getElem hj) he hb
     rw [zu0 (by omega) false true]
     exact ih e.on hlt (by omega)
   rw [hn] at hm; cases hm
structure InvA (base : Nat) (M : Two) (W : World) (nt : Nat) (ops : List Oper) (E : Nat -> Ev) (f0 : Nat -> Option AV) (g0 : Nat -> Option Ob) (c0 : Nat -> Bool) (L : Array Bool) (a : Act) (w : World) : Prop where
 size : L.size = ops.length
 closed : zop ops (fun i => L.getD i false)
 sim : zij base M W nt (fL ops E f0 (fun i => L.getD i false) ops.length) (gL E g0 (fun i => L.getD i false) ops.length) (cL E c0 (fun i => L.getD i false) ops.length) a w
theorem zrr {L : Array Bool} (hs : L.size = ops.length) (h : ∀ j, j < ops.length -> L.getD j true = true) :
   fL ops E f0 (fun i => L.getD i false) ops.length = fL ops E f0 zgi ops.length /\ gL E g0 (fun i => L.getD i false) ops.length = gL E g0 zgi ops.length /\ cL E c0 (fun i => L.getD i false) ops.length = cL E c0 zgi ops.length := by
 have hj : ∀ j, j < ops.length -> L.getD j false = zgi j := fun j hj => by rw [zu0 (by omega) false true]; exact h j hj
 exact ⟨funext fun t => zd4 _ fun j h _ => hj j h, funext fun t => zd4 _ fun j h _ => hj j h, funext fun t => zfn _ fun j h _ => hj j h⟩
theorem yk5 (hT : zbw P T) (hops : ∀ o ∈ ops, yk8 nt o) (hD : zn6 ops) (hA : ∀ j o, ops[j]? = some o -> At P T ops E f0 g0 c0 j o) {Q : Exit -> Act -> World -> Prop}
   (hQ : ∀ a w, zij base M W nt (fL ops E f0 zgi ops.length) (gL E g0 zgi ops.length) (cL E c0 zgi ops.length) a w -> Q .normal a w) :
   ∀ (fuel : Nat) (L : Array Bool) (a : Act) (w : World), left L <= fuel -> InvA base M W nt ops E f0 g0 c0 L a w -> wpAny P .any ops.toArray Q fuel L a w
 | 0, L, a, w, hf, I => by
   have hall : ∀ j, j < ops.length -> L.getD j true = true := fun j hj => by
     refine Decidable.byContradiction fun h => ?_
     have hm : false ∈ L.toList := by
       have hjL : j < L.size := by rw [I.size]; exact hj
       have : L[j] = false := by simpa [hjL] using h
       rw [<- this]; simp
     have := List.count_pos_iff.2 hm
     unfold left at hf; omega
   obtain ⟨e1, e2, e3⟩ := zrr (E := E) (f0 := f0) (g0 := g0) (c0 := c0) I.size hall
   refine ⟨?_, hQ a w (by have := I.sim; rwa [e1, e2, e3] at this)⟩
   refine List.eq_nil_iff_forall_not_mem.2 fun j hj => ?_
   rw [mem_ready] at hj
   obtain ⟨h1, o, ho, _⟩ := hj
   have hj : j < ops.length := by
     rw [List.getElem?_toArray] at ho
     exact (List.getElem?_eq_some_iff.1 ho).1
   rw [hall j hj] at h1; cases h1
 | fuel + 1, L, a, w, hf, I => by
   refine ⟨fun hn => ?_, fun i hi => ?_⟩
   · obtain ⟨e1, e2, e3⟩ := zrr (E := E) (f0 := f0) (g0 := g0) (c0 := c0) I.size (zsf hD I.size hn)
     exact hQ a w (by have := I.sim; rwa [e1, e2, e3] at this)
   · rw [mem_ready] at hi
     obtain ⟨hun, o, ho, hed⟩ := hi
     rw [List.getElem?_toArray] at ho
     have hil : i < ops.length := (List.getElem?_eq_some_iff.1 ho).1
     have hiL : i < L.size := by rw [I.size]; exact hil
     have hR : yen ops (fun i => L.getD i false) i o := ⟨ho, by rw [zu0 hiL false true]; exact hun, fun e he hb => hed e (Array.mem_toList_iff.1 he) hb⟩
     have hleft := yh2 hun hiL
     have h1 : (fun j => (L.setIfInBounds i true).getD j false) i = true := by simp [hiL]
     have hne : ∀ j, j ≠ i -> (fun j => (L.setIfInBounds i true).getD j false) j = (fun j => L.getD j false) j := fun j hj => by
       simp only [Array.getD_eq_getD_getElem?, Array.getElem?_setIfInBounds_ne (fun e => hj e.symm)]
     obtain ⟨q1, q2, q3⟩ := yo6 hD hA I.closed hR h1 hne
     refine zpe hT I.sim hops ho (yrj hD hA I.closed hR) fun a' w' hs => yk5 hT hops hD hA hQ fuel _ a' w' (by omega) ⟨by simpa using I.size, ?_, ?_⟩
     · intro k ok e hk hL he hb
       by_cases hki : k = i
       · subst hki
         rw [ho] at hk; cases hk
         have := hR.go e (Array.mem_toList_iff.2 he) hb
         by_cases hei : e.on = k
         · rw [hei]; exact h1
         · have := hne e.on hei; simp only at this |-; rw [this]; exact hR.go e (Array.mem_toList_iff.2 he) hb
       · have h2 := hne k hki
         simp only at h2 hL
         rw [h2] at hL
         have := I.closed k ok e hk hL he hb
         by_cases hei : e.on = i
         · rw [hei]; exact h1
         · have h3 := hne e.on hei; simp only at h3 |-; rw [h3]; exact this
     · rw [q1, q2, q3] at hs
       exact hs
theorem zev {L : Array Bool} {i : Nat} (h : i ∈ Region.ready .any ops.toArray L) : ∃ o, ops[i]? = some o /\ L.getD i true = false /\ ∀ j, zau o.after.toList j = true -> L.getD j false = true := by
 rw [mem_ready] at h
 obtain ⟨h1, o, ho, h2⟩ := h
 rw [List.getElem?_toArray] at ho
 refine ⟨o, ho, h1, fun j hj => ?_⟩
 have : ∀ es : List Edge, zau es j = true -> ∃ e, e ∈ es /\ Region.binds .any e = true /\ e.on = j := by
   intro es
   induction es with
   | nil => intro h; cases h
   | cons x es ih =>
     intro h
     unfold zau at h
     split at h
     · rename_i hb
       split at h
       · rename_i he; exact ⟨x, by simp, hb, za1 he⟩
       · obtain ⟨e, e1, e2, e3⟩ := ih h; exact ⟨e, by simp [e1], e2, e3⟩
     · obtain ⟨e, e1, e2, e3⟩ := ih h; exact ⟨e, by simp [e1], e2, e3⟩
 obtain ⟨e, e1, e2, e3⟩ := this _ hj
 rw [<- e3]
 exact h2 e (Array.mem_toList_iff.1 e1) e2
theorem ydq {o0 o1 o2 o3 : Oper} (hT : zbw P T) (hops : ∀ o ∈ [o0, o1, o2, o3], yk8 nt o) (hD : zn6 [o0, o1, o2, o3])
   (d1 : zau o1.after.toList 0 = true) (d2 : zau o2.after.toList 0 = true) (d3 : zau o3.after.toList 1 = true) (d4 : zau o3.after.toList 2 = true) {Q : Exit -> Act -> World -> Prop}
   {f f1 f2 f3 f4 f2' f3' f4' : Nat -> Option AV} {g g1 g2 g3 g4 g2' g3' g4' : Nat -> Option Ob} {c c1 c2 c3 c4 c2' c3' c4' : Nat -> Bool}
   (h0 : ∀ a w K, zij base M W nt f g c a w -> (∀ a w, zij base M W nt f1 g1 c1 a w -> K a w) -> wpOp P [o0, o1, o2, o3].toArray Q 0 K a w)
   (h1 : ∀ a w K, zij base M W nt f1 g1 c1 a w -> (∀ a w, zij base M W nt f2 g2 c2 a w -> K a w) -> wpOp P [o0, o1, o2, o3].toArray Q 1 K a w)
   (h2 : ∀ a w K, zij base M W nt f2 g2 c2 a w -> (∀ a w, zij base M W nt f3 g3 c3 a w -> K a w) -> wpOp P [o0, o1, o2, o3].toArray Q 2 K a w)
   (h3 : ∀ a w K, zij base M W nt f3 g3 c3 a w -> (∀ a w, zij base M W nt f4 g4 c4 a w -> K a w) -> wpOp P [o0, o1, o2, o3].toArray Q 3 K a w)
   (h1' : ∀ a w K, zij base M W nt f1 g1 c1 a w -> (∀ a w, zij base M W nt f2' g2' c2' a w -> K a w) -> wpOp P [o0, o1, o2, o3].toArray Q 2 K a w)
   (h2' : ∀ a w K, zij base M W nt f2' g2' c2' a w -> (∀ a w, zij base M W nt f3' g3' c3' a w -> K a w) -> wpOp P [o0, o1, o2, o3].toArray Q 1 K a w)
   (h3' : ∀ a w K, zij base M W nt f3' g3' c3' a w -> (∀ a w, zij base M W nt f4' g4' c4' a w -> K a w) -> wpOp P [o0, o1, o2, o3].toArray Q 3 K a w)
   (hQ : ∀ a w, zij base M W nt f4 g4 c4 a w -> Q .normal a w) (hQ' : ∀ a w, zij base M W nt f4' g4' c4' a w -> Q .normal a w)
   {a : Act} {w : World} (hs : zij base M W nt f g c a w) : wpAny P .any [o0, o1, o2, o3].toArray Q 4 #[false, false, false, false] a w := by
 have nd : ∀ (L : Array Bool), L.size = 4 -> (∃ j, j < 4 /\ L.getD j true = false) -> Region.ready .any [o0, o1, o2, o3].toArray L = [] -> False := by
   intro L hL hj hn
   obtain ⟨j, hj1, hj2⟩ := hj
   have := zsf hD (L := L) hL hn j hj1
   rw [this] at hj2; cases hj2
 have four : ∀ {i : Nat} {o : Oper}, [o0, o1, o2, o3][i]? = some o -> (i = 0 /\ o = o0) \/ (i = 1 /\ o = o1) \/ (i = 2 /\ o = o2) \/ (i = 3 /\ o = o3) := by
   intro i o h
   match i, h with
   | 0, h => cases h; simp
   | 1, h => cases h; simp
   | 2, h => cases h; simp
   | 3, h => cases h; simp
   | i + 4, h => simp at h
 refine ⟨fun hn => (nd _ rfl ⟨0, by omega, rfl⟩ hn).elim, fun i hi => ?_⟩
 obtain ⟨o, ho, hL, hd⟩ := zev hi
 rcases four ho with ⟨rfl, rfl⟩ | ⟨rfl, rfl⟩ | ⟨rfl, rfl⟩ | ⟨rfl, rfl⟩
 rotate_left
 · cases hd 0 d1
 · cases hd 0 d2
 · cases hd 1 d3
 refine h0 a w _ hs fun a w hs => ?_
 refine ⟨fun hn => (nd _ rfl ⟨1, by omega, rfl⟩ hn).elim, fun i hi => ?_⟩
 obtain ⟨o, ho, hL, hd⟩ := zev hi
 rcases four ho with ⟨rfl, rfl⟩ | ⟨rfl, rfl⟩ | ⟨rfl, rfl⟩ | ⟨rfl, rfl⟩
 · cases hL
 · refine h1 a w _ hs fun a w hs => ?_
   refine ⟨fun hn => (nd _ rfl ⟨2, by omega, rfl⟩ hn).elim, fun i hi => ?_⟩
   obtain ⟨o, ho, hL, hd⟩ := zev hi
   rcases four ho with ⟨rfl, rfl⟩ | ⟨rfl, rfl⟩ | ⟨rfl, rfl⟩ | ⟨rfl, rfl⟩
   · cases hL
   · cases hL
   · refine h2 a w _ hs fun a w hs => ?_
     refine ⟨fun hn => (nd _ rfl ⟨3, by omega, rfl⟩ hn).elim, fun i hi => ?_⟩
     obtain ⟨o, ho, hL, hd⟩ := zev hi
     rcases four ho with ⟨rfl, rfl⟩ | ⟨rfl, rfl⟩ | ⟨rfl, rfl⟩ | ⟨rfl, rfl⟩
     · cases hL
     · cases hL
     · cases hL
     · refine h3 a w _ hs fun a w hs => ?_
       refine ⟨?_, hQ a w hs⟩
       refine List.eq_nil_iff_forall_not_mem.2 fun i hi => ?_
       obtain ⟨o, ho, hL, hd⟩ := zev hi
       rcases four ho with ⟨rfl, rfl⟩ | ⟨rfl, rfl⟩ | ⟨rfl, rfl⟩ | ⟨rfl, rfl⟩ <;> cases hL
   · cases hd 2 d4
 · refine h1' a w _ hs fun a w hs => ?_
   refine ⟨fun hn => (nd _ rfl ⟨1, by omega, rfl⟩ hn).elim, fun i hi => ?_⟩
   obtain ⟨o, ho, hL, hd⟩ := zev hi
   rcases four ho with ⟨rfl, rfl⟩ | ⟨rfl, rfl⟩ | ⟨rfl, rfl⟩ | ⟨rfl, rfl⟩
   · cases hL
   · refine h2' a w _ hs fun a w hs => ?_
     refine ⟨fun hn => (nd _ rfl ⟨3, by omega, rfl⟩ hn).elim, fun i hi => ?_⟩
     obtain ⟨o, ho, hL, hd⟩ := zev hi
     rcases four ho with ⟨rfl, rfl⟩ | ⟨rfl, rfl⟩ | ⟨rfl, rfl⟩ | ⟨rfl, rfl⟩
     · cases hL
     · cases hL
     · cases hL
     · refine h3' a w _ hs fun a w hs => ?_
       refine ⟨?_, hQ' a w hs⟩
       refine List.eq_nil_iff_forall_not_mem.2 fun i hi => ?_
       obtain ⟨o, ho, hL, hd⟩ := zev hi
       rcases four ho with ⟨rfl, rfl⟩ | ⟨rfl, rfl⟩ | ⟨rfl, rfl⟩ | ⟨rfl, rfl⟩ <;> cases hL
   · cases hL
   · cases hd 1 d3
 · cases hd 1 d3
def ybk (nt : Nat) (draw : Bool) (ops : List Oper) : Bool := ops.all (ytv nt) && (!draw || zmq ops 0 ops)
theorem zoa {Q1 : AV -> Prop} {v : Nat} {k : St -> zcf} {s : St} (hk : znu (za2 s.slots) s.kn) (h : Sat P Q1 (yh5 v k s)) : ∃ s' : St, s'.slots = s.slots /\ s'.objs = s.objs /\ s'.ice = s.ice /\ znu (za2 s'.slots) s'.kn /\ Sat P Q1 (k s') := by
 unfold yh5 at h
 split at h
 · rename_i b hb
   exact ⟨s.know v b, rfl, rfl, rfl, zem hk hb, h⟩
 · cases h
theorem zxo {S : zns} {Q1 : AV -> Prop} (hT : zbw P T) (hS : zdg P S) (hm : P.follows .mixedOrders = true) {draw : Bool} (hB : ybk nt draw ops = true) {id : Nat} {s : St} {a : Act} {w : World} (hs : zn5 base M W nt s a w)
   {k : St -> zcf} (h : Sat P Q1 (zdd T std S draw ops ops 0 s [] k)) {Q : Exit -> Act -> World -> Prop} (hQ : ∀ s' a' w', zn5 base M W nt s' a' w' -> Sat P Q1 (k s') -> Q .normal a' w') :
   (Code.region id ops.toArray draw).wp P Q a w := by
 unfold ybk at hB
 rw [Bool.and_eq_true, List.all_eq_true] at hB
 have hops : ∀ o ∈ ops, yk8 nt o := fun o ho => ybu (hB.1 o ho)
 obtain ⟨es, s', hW, hk', h'⟩ := zf5 hS ops 0 s [] hs.2 h
 cases draw with
 | false =>
   refine wp_region ?_
   have := ya9 (base := base) (M := M) (W := W) hT hops (Q := Q) ops 0 _ _ _ _ es _ _ _ a w (fun k => by simp) hW hs.1 fun a' w' hs' => hQ s' a' w' ⟨hs', hk'⟩ h'
   rw [List.range_eq_range']
   simpa using this
 | true =>
   refine wp_region_any hm ?_
   have hD := zs1 (by simpa using hB.2 : zmq ops 0 ops = true)
   obtain ⟨hA, e1, e2, e3⟩ := ya0 (ops := ops) (E := fun j => es.getD j nothing) (f0 := za2 s.slots) (g0 := za2 s.objs) (c0 := zbo s.ice) ops 0 _ _ _ _ es _ _ _ (fun k => by simp) (fun k e he => by simp [he]) rfl rfl rfl (fun k hk => by omega) hW
   rw [Nat.zero_add] at e1 e2 e3
   have hl : left (Array.replicate ops.length false) <= ops.toArray.size := by
     unfold left; simp
   have hsz : ops.toArray.size = ops.length := by simp
   rw [hsz] at hl |-
   refine yk5 (E := fun j => es.getD j nothing) hT hops hD (fun j o ho => hA j o (by omega) ho) (fun a' w' hs' => hQ s' a' w' ⟨by rw [e1, e2, e3]; exact hs', hk'⟩ h') ops.length _ a _ hl ⟨by simp, ?_, ?_⟩
   · intro k o e hk hL _ _
     have hk : k < ops.length := (List.getElem?_eq_some_iff.1 hk).1
     simp [hk] at hL
   · have z : ∀ j, j < ops.length -> (fun i => (Array.replicate ops.length false).getD i false) j = false := fun j hj => by simp [hj]
     have h1 : fL ops (fun j => es.getD j nothing) (za2 s.slots) (fun i => (Array.replicate ops.length false).getD i false) ops.length = za2 s.slots := by
       funext t
       exact zj4 0 ops.length (fun j _ hj hL => by have := z j hj; simp only at this; rw [this] at hL; cases hL) (by omega)
     have h2 : gL (fun j => es.getD j nothing) (za2 s.objs) (fun i => (Array.replicate ops.length false).getD i false) ops.length = za2 s.objs := by
       funext t
       exact zj4 0 ops.length (fun j _ hj hL => by have := z j hj; simp only at this; rw [this] at hL; cases hL) (by omega)
     have h3 : cL (fun j => es.getD j nothing) (zbo s.ice) (fun i => (Array.replicate ops.length false).getD i false) ops.length = zbo s.ice := by
       funext t
       exact zn2 0 ops.length (fun j _ hj => z j hj) (by omega)
     rw [h1, h2, h3]
     obtain ⟨D, μ, hs⟩ := hs.1
     exact ⟨D, μ, hs.drew⟩
theorem ybj {S : zns} {Q1 : AV -> Prop} (hT : zbw P T) (hS : zdg P S) (hm : P.follows .mixedOrders = true) {draw : Bool} (hB : ybk nt draw ops = true) {id : Nat} {s : St} {a : Act} {w : World} (hs : zn5 base M W nt s a w)
   {k : St -> zcf} (h : Sat P Q1 (zt3 T std S draw ops s k)) {Q : Exit -> Act -> World -> Prop} (hQ : ∀ s' a' w', zn5 base M W nt s' a' w' -> Sat P Q1 (k s') -> Q .normal a' w') :
   (Code.region id ops.toArray draw).wp P Q a w := by
 unfold zt3 at h
 split at h
 rotate_left
 · exact zxo hT hS hm hB hs h hQ
 rename_i v hch
 cases draw with
 | false => cases hch
 | true =>
   simp only [cond_true] at hch
   unfold ydr at hch
   split at hch
   rotate_left
   · cases hch
   rename_i o0 o1 o2 o3
   split at hch
   rotate_left
   · cases hch
   split at hch
   rotate_left
   · cases hch
   rename_i d1 d2 d3 d4 hng
   unfold ybk at hB
   rw [Bool.and_eq_true, List.all_eq_true] at hB
   have hops : ∀ o ∈ [o0, o1, o2, o3], yk8 nt o := fun o ho => ybu (hB.1 o ho)
   have hD := zs1 (by simpa using hB.2 : zmq [o0, o1, o2, o3] 0 [o0, o1, o2, o3] = true)
   obtain ⟨n0, n1, n2, n3⟩ : o0.guard = none /\ o1.guard = none /\ o2.guard = none /\ o3.guard = none := by
     simp only [ztl] at hng
     cases e0 : o0.guard <;> cases e1 : o1.guard <;> cases e2 : o2.guard <;> cases e3 : o3.guard <;> simp_all
   obtain ⟨es, s1, hW, hk1, h⟩ := zf5 hS [o0] 0 s [] hs.2 h
   cases h with
   | and hA hB2 =>
     obtain ⟨esA, sA, hWA, hkA, hA⟩ := zf5 hS [o1, o2, o3] 1 s1 [] hk1 hA
     obtain ⟨esB, sB, hWB, hkB, hB2⟩ := zf5 hS [o2, o1, o3] 1 s1 [] hk1 hB2
     obtain ⟨sA', q1, q2, q3, hkA', hA⟩ := zoa hkA hA
     obtain ⟨sB', p1, p2, p3, hkB', hB2⟩ := zoa hkB hB2
     match es, hW with
     | [e0], ⟨x0, _, w0, w0', w0''⟩ =>
       match esA, hWA with
       | [a1, a2, a3], ⟨xa1, _, xa2, _, xa3, _, wa, wa', wa''⟩ =>
         match esB, hWB with
         | [b1, b2, b3], ⟨xb1, _, xb2, _, xb3, _, wb, wb', wb''⟩ =>
           refine wp_region_any hm ?_
           obtain ⟨D, μ, hs0⟩ := hs.1
           rw [w0, w0', w0''] at xa1 xa2 xa3 xb1 xb2 xb3
           rw [w0] at wa wb
           rw [w0'] at wa' wb'
           rw [w0''] at wa'' wb''
           refine ydq hT hops hD d1 d2 d3 d4
             (h0 := fun a w K hs hK => zpe hT hs hops rfl x0 hK)
             (h1 := fun a w K hs hK => zpe hT hs hops rfl xa1 hK)
             (h2 := fun a w K hs hK => zpe hT hs hops rfl xa2 hK)
             (h3 := fun a w K hs hK => zpe hT hs hops rfl xa3 hK)
             (h1' := fun a w K hs hK => zpe hT hs hops rfl xb1 hK)
             (h2' := fun a w K hs hK => zpe hT hs hops rfl xb2 hK)
             (h3' := fun a w K hs hK => zpe hT hs hops rfl xb3 hK)
             (hQ := fun a w hs => hQ sA' a w ⟨?_, hkA'⟩ hA) (hQ' := fun a w hs => hQ sB' a w ⟨?_, hkB'⟩ hB2) ⟨D, μ, hs0.drew⟩
           · rw [q1, q2, q3, wa, wa', wa'']; exact hs
           · rw [p1, p2, p3, wb, wb', wb'']; exact hs
end
end Sy
end Go.Proofs.YtfonekpmkdkgnaaGreatDoor
namespace Go.Proofs.YtfonekpmkdkgnaaGreatDoor
namespace Sy
open Go Go.RowKit
set_option linter.unusedSimpArgs false
set_option linter.unusedVariables false
set_option linter.unusedSectionVars false
section
variable {P : Program} {Q : AV -> Prop} {base : Nat} {M : Two} {W : World} {nt : Nat} {s tm : St} {a : Act} {w : World} {hold : List Nat} {next : zcf}
def frz (ice : List Nat) (objs : List (Nat × Ob)) (F : List (Nat × Option Nat)) : List Nat := match objs with
 | [] => []
 | (t, _) :: r => match za2 F t with
   | some (some id) => if zbo ice t = true then id :: frz ice r F else frz ice r F
   | _ => frz ice r F
theorem zml {ice : List Nat} {F : List (Nat × Option Nat)} : ∀ {objs : List (Nat × Ob)} {id : Nat}, id ∈ frz ice objs F -> ∃ t, za2 F t = some (some id) /\ zbo ice t = true /\ za2 objs t ≠ none
 | [], id, h => by cases h
 | (t, o) :: r, id, h => by
   unfold frz at h
   have up : ∀ {t'}, za2 r t' ≠ none -> za2 ((t, o) :: r) t' ≠ none := by
     intro t' h
     unfold za2
     split
     · simp
     · exact h
   split at h
   · rename_i k hk
     split at h
     · rename_i e
       rcases List.mem_cons.1 h with rfl | h
       · exact ⟨t, hk, e, by simp [za2, za3]⟩
       · obtain ⟨t', h1, h2, h3⟩ := zml h; exact ⟨t', h1, h2, up h3⟩
     · obtain ⟨t', h1, h2, h3⟩ := zml h; exact ⟨t', h1, h2, up h3⟩
   · obtain ⟨t', h1, h2, h3⟩ := zml h; exact ⟨t', h1, h2, up h3⟩
theorem yc9 {ice : List Nat} {F : List (Nat × Option Nat)} : ∀ {objs : List (Nat × Ob)} {id t : Nat}, za2 F t = some (some id) -> zbo ice t = true -> za2 objs t ≠ none -> id ∈ frz ice objs F
 | [], id, t, _, _, h => by simp [za2] at h
 | (k, o) :: r, id, t, h1, h2, h3 => by
   unfold frz
   unfold za2 at h3
   cases e : za8 k t with
   | true =>
     have := za1 e; subst this
     rw [h1]
     simp only
     rw [if_pos h2]
     simp
   | false =>
     rw [e] at h3
     have ih := yc9 (objs := r) h1 h2 h3
     split
     · split
       · exact List.mem_cons_of_mem _ ih
       · exact ih
     · exact ih
theorem zm1 : ∀ {F : List (Nat × Option Nat)}, ztd F = true -> ∀ t x, za2 F t = some x -> zcy t = true -> x = some t
 | [], _, t, x, h, _ => by cases h
 | (k, y) :: r, e, t, x, h, hp => by
   unfold ztd at e
   unfold za2 at h
   split at h
   · rename_i hb
     have hk := za1 hb; subst hk
     cases h
     rw [hp] at e
     simp only at e
     split at e
     · rename_i hi; exact ztv hi
     · cases e
   · have e' : ztd r = true := by
       split at e
       · split at e
         · exact e
         · cases e
       · exact e
     exact zm1 e' t x h hp
structure zha (g O : Nat -> Option Ob) (F : List (Nat × Option Nat)) : Prop where
 gp : zik g
 opl : ∀ n o, O n = some o -> n < zcn
 dom : ∀ n x, za2 F n = some x -> O n ≠ none
 tb : ∀ n o id, O n = some o -> za2 F n = some (some id) -> ∃ o', g id = some o' /\ zhb o o'
 tid : ∀ t o, O t = some o -> zar o = true -> za2 F t = some (some t)
 inj : Inj F
theorem zha.fp {g O : Nat -> Option Ob} {F : List (Nat × Option Nat)} (m : zha g O F) {n id : Nat} (h : za2 F n = some (some id)) : id < zcn := by
 obtain ⟨o, ho⟩ := Option.ne_none_iff_exists'.1 (m.dom n _ h)
 obtain ⟨o', q, _⟩ := m.tb n o id ho h
 exact (m.gp _ _ q).1
theorem zfj (G : Nat -> Option Ob) {i : Nat} (hi : zax i = true) : gx G i = zet (G (zgy i)) (zqe i) := by unfold gx; rw [if_pos hi]
theorem zha.row {g O : Nat -> Option Ob} {F : List (Nat × Option Nat)} (m : zha g O F) {n : Nat} (hn : zax n = true) :
   (za2 F (zgy n) = some (some (zgy n)) /\ (gx O n = none ↔ gx g n = none) /\ ∀ r, gx O n = some r -> ∃ ty sz k get get', r = .row ty sz k get /\ gx g n = some (.row ty sz k get') /\ ∀ i j, i < k -> j < sz -> get' i j = get i j) \/
   (za2 F (zgy n) ≠ some (some (zgy n)) /\ gx O n = none) := by
 rw [zfj O hn, zfj g hn]
 by_cases hF : za2 F (zgy n) = some (some (zgy n))
 · obtain ⟨o, ho⟩ := Option.ne_none_iff_exists'.1 (m.dom _ _ hF)
   obtain ⟨o', q, ht⟩ := m.tb _ o _ ho hF
   rw [ho, q]
   exact .inl ⟨hF, ht.mem _⟩
 · refine .inr ⟨hF, zcc (fun o ho => ?_) _⟩
   cases e : zar o with
   | false => rfl
   | true => exact absurd (m.tid _ o ho e) hF
theorem zw5 {F : List (Nat × Option Nat)} {O : Nat -> Option Ob} {n : Nat} (hn : zax n = true) : gF F O n = match gx O n with | some _ => some (some n) | none => none := by
 unfold gF
 rw [if_pos hn]
 cases gx O n <;> rfl
theorem zf1 {F : List (Nat × Option Nat)} {O : Nat -> Option Ob} {n : Nat} (hn : ¬ zax n = true) : gF F O n = za2 F n := by unfold gF; rw [if_neg hn]
theorem zha.muF {g O : Nat -> Option Ob} {F : List (Nat × Option Nat)} (m : zha g O F) {μ : Mu} (hd : ∀ id, μ id = none ↔ gx g id = none) (n : Nat) : zgf μ F n = match gF F O n with | some (some id) => μ id | some none => some none | none => none := by
 by_cases hn : zax n = true
 · rw [zw5 hn]
   unfold zgf
   rw [if_pos hn]
   rcases m.row hn with ⟨h1, h2, _⟩ | ⟨h1, h2⟩
   · rw [if_pos h1]
     cases e : gx O n with
     | some _ => rfl
     | none => simp only; rw [hd n]; exact h2.1 e
   · rw [if_neg h1, h2]
 · rw [zf1 hn, zhi (by have := mt zcz.2 hn; omega)]; rfl
theorem zrq {F : List (Nat × Option Nat)} {O : Nat -> Option Ob} {t id : Nat} (ht : zax t = true) (e : gF F O t = some (some id)) : id = t := by
 rw [zw5 ht] at e
 split at e
 · cases e; rfl
 · cases e
theorem zha.gInj {g O : Nat -> Option Ob} {F : List (Nat × Option Nat)} (m : zha g O F) : ∀ t t' id, gF F O t = some (some id) -> gF F O t' = some (some id) -> t = t' := fun t t' id h1 h2 => by
 have nomid : ∀ {i}, i < zcn -> ¬ zax i = true := fun hi => by rw [zb6.2 hi]; decide
 by_cases e1 : zax t = true <;> by_cases e2 : zax t' = true
 · rw [<- zrq e1 h1, <- zrq e2 h2]
 · have q1 := zrq e1 h1
   rw [zf1 e2] at h2
   have q2 := m.fp h2
   rw [q1] at q2
   exact absurd e1 (nomid q2)
 · have q1 := zrq e2 h2
   rw [zf1 e1] at h1
   have q2 := m.fp h1
   rw [q1] at q2
   exact absurd e2 (nomid q2)
 · rw [zf1 e1] at h1
   rw [zf1 e2] at h2
   exact m.inj _ _ _ h1 h2
theorem zha.gDom {g O : Nat -> Option Ob} {F : List (Nat × Option Nat)} (m : zha g O F) {n : Nat} {x : Option Nat} (hx : gF F O n = some x) : gx O n ≠ none := by
 by_cases hn : zax n = true
 · rw [zw5 hn] at hx
   intro e
   rw [e] at hx; cases hx
 · rw [zf1 hn] at hx
   obtain ⟨o, ho⟩ := Option.ne_none_iff_exists'.1 (m.dom n _ hx)
   rw [zah (by simpa using hn), ho]; simp
theorem zxl {h : Array Obj} {D : Nat -> Prop} {μ μ' : Mu} {ty sz k : Nat} {get get' : Nat -> Nat -> AV} (e : ∀ i j, i < k -> j < sz -> get' i j = get i j) {y : Option (Nat × Nat × Nat)} (r : ze6 h D μ (.row ty sz k get') y) : ze6 h D μ' (.row ty sz k get) y := by
 match y, r with
 | none, r => exact r
 | some (b, z, m'), ⟨e0, cc, t, fr', k1, k2, k3, k4, k5⟩ =>
   exact ⟨e0, cc, t, fr', k1, k2, k3, k4, fun i j hi hj => by
     obtain ⟨v, v1, v2, v3⟩ := k5 i j hi hj
     exact ⟨v, v1, v2, by rw [<- e i j hi hj]; exact v3⟩⟩
theorem zh4 {tm : List (Nat × Ob)} : ∀ {objs : List (Nat × Ob)}, zj5 objs tm = true -> ∀ t o, za2 objs t = some o -> zar o = true -> ∃ o', za2 tm t = some o' /\ zar o' = true
 | [], _, _, _, h, _ => by cases h
 | (m, o') :: r, e, t, o, h, ht => by
   unfold zj5 at e
   unfold za2 at h
   split at e
   · rename_i q; cases q
   · rename_i q; cases q
     split at e
     · rename_i hO
       split at h
       · rename_i he
         have := za1 he; subst this
         exact ⟨_, hO, rfl⟩
       · exact zh4 e t o h ht
     · cases e
   · rename_i hno q; cases q
     split at h
     · cases h
       cases o' <;> first | exact (hno _ _ _ _ _ _ rfl).elim | cases ht
     · exact zh4 e t o h ht
theorem znv : ∀ {O : List (Nat × Ob)} {t : Nat} {o : Ob}, za2 O t = some o -> zar o = true -> t ∈ zqi O
 | [], _, _, h, _ => by cases h
 | (m, o') :: r, t, o, h, ht => by
   unfold za2 at h
   split at h
   · rename_i he
     cases h
     rw [za1 he]
     cases o' <;> first | exact List.mem_cons_self .. | cases ht
   · have ih := znv h ht
     cases o' <;> first | exact ih | exact List.mem_cons_of_mem _ ih
theorem zqw : ∀ {l : List Nat} {t : Nat}, t ∈ l -> za2 (zqx l) t = some (some t)
 | [], t, h => by cases h
 | i :: r, t, h => by
   unfold zqx za2
   cases e : za8 i t with
   | true => simp only; rw [za1 e]
   | false =>
     simp only
     rcases List.mem_cons.1 h with rfl | h
     · rw [za3] at e; cases e
     · exact zqw h
theorem yq2 {pin : Nat -> Option (Nat × Nat × Nat)} {μ : Mu} {F : List (Nat × Option Nat)} (h : ∀ id y, zcy id = true -> μ id = some y -> y = pin id) (hF : ztd F = true) {id : Nat} {y : Option (Nat × Nat × Nat)} (hp : zcy id = true) (hy : zgf μ F id = some y) : y = pin id := by
 unfold zgf at hy
 split at hy
 · rename_i hm
   rw [zj6 (Nat.le_trans zqa (zcz.1 hm))] at hp; cases hp
 · unfold yc4 at hy
   split at hy
   · rename_i k hk
     have := zm1 hF id _ hk hp
     cases this
     exact h id y hp hy
   · rename_i hk
     have := zm1 hF id _ hk hp
     cases this
   · cases hy
theorem ycb (hs : zn5 base M W nt s a w) (h : Sat P Q (zy2 s tm hold next)) (hkn : tm.kn = []) : zn5 base M W nt tm a w /\ Sat P Q next := by
 unfold zy2 at h
 split at h
 · rename_i m1 e1
   split at h
   · rename_i m2 e2
     split at h
     · rename_i hin hice hpin
       split at h
       case h_2 => cases h
       rename_i hkb
       rw [Bool.and_eq_true] at hkb
       obtain ⟨hkt, hbk⟩ := hkb
       obtain ⟨hps, hnext⟩ := ziq h
       rw [zae] at hps
       have hps := fun p hh => hps p (List.mem_append_right _ hh)
       refine ⟨?_, hnext⟩
       obtain ⟨⟨D, μ, S⟩, _⟩ := hs
       let F := m2.ids
       obtain ⟨x2, r20⟩ := zed (h := w.heap) (D := D) (μ := μ) e2
       obtain ⟨x1, -⟩ := zey (h := w.heap) (D := D) (μ := μ) (a := a) e1
       have hF2 : Fin m2 F := ⟨fun _ _ h => h, hps⟩
       have hF1 : Fin m1 F := hF2.of x2
       have hInj : Inj F := x2.inj (x1.inj fun t t' id h1 h2 => by
         have q1 := zit h1; have q2 := zit h2
         simp only [Option.some.injEq] at q1 q2
         rw [<- q1, <- q2])
       have TM : zha (za2 s.objs) (za2 tm.objs) F := { gp := S.tbs, opl := zgc hbk, dom := fun n x hx => zmf hin n x hx, tb := fun n o id ho hF => (r20 F hF2 n o ho).tb id hF, tid := fun t o ho ht => x2.ids _ _ (x1.ids _ _ (zqw (by rw [zae]; exact List.mem_append_left _ (znv ho ht)))), inj := hInj }
       have hal : ∀ id, id ∈ frz tm.ice tm.objs F -> ∃ o, za2 s.objs id = some o /\ o ≠ .gone := by
         intro id hid
         obtain ⟨t, h1, h2, h3⟩ := zml hid
         obtain ⟨o, ho⟩ := Option.ne_none_iff_exists'.1 h3
         obtain ⟨x, hx, hp⟩ := (r20 F hF2 t o ho).pair
         rw [h1] at hx
         cases hx
         obtain ⟨_, o', ho', hne, _⟩ := hp
         exact ⟨o', ho', hne⟩
       have S' := S.freeze (frz tm.ice tm.objs F) hal
       obtain ⟨_, r1⟩ := zey (h := w.heap) (D := fun b => D b \/ ∃ id z m, id ∈ frz tm.ice tm.objs F /\ μ id = some (some (b, z, m))) (μ := μ) (a := a) e1
       obtain ⟨_, r2⟩ := zed (h := w.heap) (D := fun b => D b \/ ∃ id z m, id ∈ frz tm.ice tm.objs F /\ μ id = some (some (b, z, m))) (μ := μ) e2
       generalize hDD : (fun b => D b \/ ∃ id z m, id ∈ frz tm.ice tm.objs F /\ μ id = some (some (b, z, m))) = D' at S' r1 r2
       have r1 := r1 F hF1 S'.slots
       have r2 := r2 F hF2
       have muF := TM.muF S.domx
       have pl : ∀ tid b z, zgf μ F tid = some (some (b, z)) -> ∃ id, gF F (za2 tm.objs) tid = some (some id) /\ μ id = some (some (b, z)) := by
         intro tid b z hm
         rw [muF] at hm
         split at hm
         · rename_i id hid; exact ⟨id, hid, hm⟩
         · cases hm
         · cases hm
       have icm : ∀ id, zax id = true -> zbo tm.ice id = false := fun id hm => by
         cases hl : zbo tm.ice id with
         | false => rfl
         | true =>
           obtain ⟨o, ho⟩ := Option.ne_none_iff_exists'.1 (zmi hice id hl)
           rw [zb6.2 (zgc hbk id o ho)] at hm; cases hm
       have obs : ∀ tid o, gx (za2 tm.objs) tid = some o -> ∃ x, gF F (za2 tm.objs) tid = some x /\ match x with
           | some id => (zbo s.ice id = true -> zbo tm.ice tid = true) /\ ∃ o', gx (za2 s.objs) id = some o' /\ o' ≠ .gone /\ ∀ y, ze6 w.heap D' μ o' y -> ze6 w.heap D' (zgf μ F) o y
           | none => ze6 w.heap D' (zgf μ F) o none := by
         intro tid o ho
         by_cases hm : zax tid = true
         · rw [zw5 hm, ho]
           refine ⟨some tid, rfl, fun hi => (by rw [S.icm tid hm] at hi; cases hi), ?_⟩
           rcases TM.row hm with ⟨h1, h2, h3⟩ | ⟨h1, h2⟩
           · obtain ⟨ty, sz, k, get, get', rfl, q1, q2⟩ := h3 o ho
             exact ⟨_, q1, by simp, fun y => zxl q2⟩
           · rw [h2] at ho; cases ho
         · rw [zah (by simpa using hm)] at ho
           rw [zf1 hm]
           obtain ⟨x, hx, hp⟩ := (r2 tid o ho).pair
           refine ⟨x, hx, ?_⟩
           cases x with
           | none => exact hp
           | some id =>
             obtain ⟨h1, o', ho', hne, h2⟩ := hp
             exact ⟨h1, o', S.tbs.up ho', hne, h2⟩
       have obj : ∀ tid id, gF F (za2 tm.objs) tid = some (some id) -> ∃ o', gx (za2 s.objs) id = some o' /\ o' ≠ .gone /\ (zbo s.ice id = true -> zbo tm.ice tid = true) := by
         intro tid id hid
         obtain ⟨o, ho⟩ := Option.ne_none_iff_exists'.1 (TM.gDom hid)
         obtain ⟨x, hx, hp⟩ := obs tid o ho
         rw [hx] at hid
         cases hid
         obtain ⟨h1, o', ho', hne, _⟩ := hp
         exact ⟨o', ho', hne, h1⟩
       refine ⟨⟨D', zgf μ F, { S' with slots := r1, domx := fun id => ?_, obsx := fun id o x h1 h2 => ?_, injx := ?_, own := fun id b z hm => ?_, kdx := ?_, icyx := fun id hc => ?_, pin := fun id y hp hy => yq2 S.pin hpin hp hy, tbs := fun id o ho => ⟨zgc hbk id o ho, fun ht => ?_⟩, icm := icm, mems := fun id y hm hy => ?_ }⟩, fun t b ht => by rw [hkn] at ht; cases ht⟩
       · rw [muF]
         constructor
         · intro hm
           refine Classical.byContradiction fun ho => ?_
           obtain ⟨o, ho⟩ := Option.ne_none_iff_exists'.1 ho
           obtain ⟨x, hx, hp⟩ := obs id o ho
           rw [hx] at hm
           cases x with
           | none => cases hm
           | some k =>
             simp only at hm hp
             obtain ⟨_, o', ho', _, _⟩ := hp
             have := (S.domx k).1 hm
             rw [ho'] at this; cases this
         · intro ho
           cases hf : gF F (za2 tm.objs) id with
           | none => rfl
           | some x => exact absurd ho (TM.gDom hf)
       · obtain ⟨y, hy, hp⟩ := obs id o h1
         rw [muF, hy] at h2
         cases y with
         | none => cases h2; exact hp
         | some k =>
           simp only at h2 hp
           obtain ⟨_, o', ho', _, hr⟩ := hp
           exact hr x (S'.obsx k o' x ho' h2)
       · intro id id' b z z' o o' h1 h2 _ _ _ _
         obtain ⟨k, hk, hm⟩ := pl id b z h1
         obtain ⟨k', hk', hm'⟩ := pl id' b z' h2
         obtain ⟨q, hq, hqn, _⟩ := obj id k hk
         obtain ⟨q', hq', hqn', _⟩ := obj id' k' hk'
         have := S.injx k k' b z z' q q' hm hm' hq hq' hqn hqn'
         subst this
         exact TM.gInj _ _ _ hk hk'
       · obtain ⟨k, hk, hm⟩ := pl id b z hm
         exact S.own k b z hm
       · intro id b z o h1 h2 h3
         obtain ⟨k, hk, hm⟩ := pl id b z h1
         obtain ⟨q, hq, hqn, hic⟩ := obj id k hk
         have K := S'.kdx k b z q hm hq hqn
         by_cases hmid : zax id = true
         · have hki := zrq hmid hk
           subst hki
           have hc0 : zjd (zbo s.ice) (frz tm.ice tm.objs F) k = false := S'.icm k hmid
           refine ⟨fun hc => ?_, fun _ => K.2 hc0⟩
           rw [icm k hmid] at hc; cases hc
         · rw [zf1 hmid] at hk
           rw [zah (by simpa using hmid)] at h2
           refine ⟨fun hc => K.1 ?_, fun hc => K.2 ?_⟩
           · unfold zjd
             rw [zcd.2 (yc9 hk hc (by rw [h2]; simp))]; rfl
           · unfold zjd
             rw [Bool.or_eq_false_iff]
             refine ⟨?_, ?_⟩
             · cases hl : zbo (frz tm.ice tm.objs F) k with
               | false => rfl
               | true =>
                 obtain ⟨t, t1, t2, _⟩ := zml (zcd.1 hl)
                 have := hInj _ _ _ t1 hk
                 subst this
                 rw [hc] at t2; cases t2
             · cases hl : zbo s.ice k with
               | false => rfl
               | true => have := hic hl; rw [hc] at this; cases this
       · obtain ⟨o, ho⟩ := Option.ne_none_iff_exists'.1 (zmi hice id hc)
         rw [zah (zb6.2 (zgc hbk id o ho)), ho]; simp
       · obtain ⟨o', q1, q2⟩ := TM.tb id o id ho (TM.tid id o ho ht)
         exact (S.tbs id o' q1).2 (q2.1.trans ht)
       · have hy := S.mems id y hm hy
         have hg : gx (za2 s.objs) id ≠ none := fun e => by rw [(S.domx id).2 e] at hy; cases hy
         rw [zfj _ hm] at hg
         cases ho : za2 s.objs (zgy id) with
         | none => rw [ho] at hg; exact absurd rfl hg
         | some o =>
           have ht : zar o = true := by
             cases e : zar o with
             | true => rfl
             | false => rw [ho] at hg; exact absurd (zcc (fun x hx => by cases hx; exact e) _) hg
           obtain ⟨o', q1, q2⟩ := zh4 hkt _ o ho ht
           unfold zgf
           rw [if_pos hm, if_pos (TM.tid _ o' q1 q2)]
           exact hy
     · cases h
   · cases h
 · cases h
theorem yca (hs : zn5 base M W nt s a w) (h : Sat P Q (zy2 s tm hold next)) : ∀ n o, za2 tm.objs n = some o -> o ≠ .gone := by
 unfold zy2 at h
 split at h
 · rename_i m1 e1
   split at h
   · rename_i m2 e2
     split at h
     · split at h
       case h_2 => cases h
       obtain ⟨hps, hnext⟩ := ziq h
       rw [zae] at hps
       have hps := fun p hh => hps p (List.mem_append_right _ hh)
       intro n o ho
       obtain ⟨x2, r2⟩ := zed (h := #[]) (D := fun _ => False) (μ := zam) e2
       exact (r2 m2.ids ⟨fun _ _ h => h, hps⟩ n o ho).live
     · cases h
   · cases h
 · cases h
end
end Sy
end Go.Proofs.YtfonekpmkdkgnaaGreatDoor
namespace Go.Proofs.YtfonekpmkdkgnaaGreatDoor
namespace Sy
open Go Go.RowKit
set_option linter.unusedSimpArgs false
set_option linter.unusedVariables false
set_option linter.unusedSectionVars false
def yp8 : Ex -> Exit
 | .normal => .normal
 | .exit id => .exit id
 | .goto l => .goto l
 | .ret => .ret
def zh6 : Code -> List Code
 | .seq a b => zh6 a ++ zh6 b
 | .skip => []
 | .label _ => []
 | c => [c]
def WPl (P : Program) : List Code -> (Exit -> Act -> World -> Prop) -> Act -> World -> Prop
 | [], Q, a, w => Q .normal a w
 | c :: cs, Q, a, w => c.wp P (Exit.then (WPl P cs Q) Q) a w
theorem zfs {P : Program} {Q : Exit -> Act -> World -> Prop} : Exit.then (WPl P [] Q) Q = Q := by
 funext e a w; cases e <;> rfl
theorem zzt {P : Program} {ys : List Code} {Q : Exit -> Act -> World -> Prop} : ∀ {xs : List Code}, WPl P (xs ++ ys) Q = WPl P xs (Exit.then (WPl P ys Q) Q)
 | [] => rfl
 | c :: xs => by
   funext a w
   show c.wp P (Exit.then (WPl P (xs ++ ys) Q) Q) a w = c.wp P (Exit.then (WPl P xs (Exit.then (WPl P ys Q) Q)) (Exit.then (WPl P ys Q) Q)) a w
   rw [zzt (xs := xs)]
   congr 1
   funext e a w
   cases e <;> rfl
theorem zzu {P : Program} {c : Code} {Q : Exit -> Act -> World -> Prop} {a : Act} {w : World} (h : WPl P [c] Q a w) : c.wp P Q a w := by
 have : c.wp P (Exit.then (WPl P [] Q) Q) a w := h
 rwa [zfs] at this
theorem zef {P : Program} : ∀ {c : Code} {Q : Exit -> Act -> World -> Prop} {a : Act} {w : World}, WPl P (zh6 c) Q a w -> c.wp P Q a w := by
 intro c
 induction c with
 | seq x y ih1 ih2 =>
   intro Q a w h
   unfold zh6 at h
   rw [zzt] at h
   refine wp_seq (wp_mono (ih1 h) fun e a w hq => ?_)
   cases e with
   | normal => exact ih2 hq
   | _ => exact hq
 | skip => intro Q a w h; exact wp_skip h
 | label l => intro Q a w h; exact wp_label h
 | _ => intro Q a w h; exact zzu h
def zko : List Nat -> Bool
 | [] => true
 | x :: xs => !zbo xs x && zko xs
def zbx (nt : Nat) : Code -> Bool
 | .region _ ops d => ybk nt d ops.toList
 | .seq a b => zbx nt a && zbx nt b
 | .cond _ a b => zbx nt a && zbx nt b
 | .block _ b => zbx nt b
 | .loop b => zbx nt b
 | .scope b => zko (zdp b) && zbx nt b
 | _ => true
theorem zq2 : ∀ {c : Code} {l : Nat} {r : Code}, findLabel c l = some r -> l ∈ zdp c := by
 intro c
 induction c with
 | seq a b ih1 ih2 =>
   intro l r h
   unfold findLabel at h
   simp only [zdp, zae, List.mem_append]
   cases e : findLabel a l with
   | some x => exact .inl (ih1 e)
   | none => rw [e] at h; exact .inr (ih2 h)
 | label l' =>
   intro l r h
   unfold findLabel at h
   split at h
   · rename_i e; simp [zdp, beq_iff_eq.1 e]
   · cases h
 | _ => intro l r h; simp [findLabel] at h
theorem ydb {nt : Nat} : ∀ {c : Code} {l : Nat} {r : Code}, findLabel c l = some r -> zbx nt c = true -> zbx nt r = true := by
 intro c
 induction c with
 | seq a b ih1 ih2 =>
   intro l r h hc
   unfold zbx at hc
   rw [Bool.and_eq_true] at hc
   unfold findLabel at h
   cases e : findLabel a l with
   | some x =>
     rw [e] at h
     cases h
     unfold zbx
     rw [Bool.and_eq_true]
     exact ⟨ih1 e hc.1, hc.2⟩
   | none => rw [e] at h; exact ih2 h hc.2
 | label l' =>
   intro l r h _
   unfold findLabel at h
   split at h
   · cases h; rfl
   · cases h
 | _ => intro l r h; simp [findLabel] at h
theorem yc0 {xs ys : List Nat} (h : zko (xs ++ ys) = true) : zko xs = true /\ zko ys = true /\ ∀ l, l ∈ xs -> l ∉ ys := by
 induction xs with
 | nil => exact ⟨rfl, h, fun l hl => by cases hl⟩
 | cons x xs ih =>
   simp only [List.cons_append, zko, Bool.and_eq_true, Bool.not_eq_true'] at h |-
   obtain ⟨h1, h2⟩ := h
   obtain ⟨i1, i2, i3⟩ := ih h2
   have hx : x ∉ xs ++ ys := fun hm => by rw [zcd.2 hm] at h1; cases h1
   simp only [List.mem_append, not_or] at hx
   refine ⟨⟨?_, i1⟩, i2, fun l hl => ?_⟩
   · cases e : zbo xs x with
     | false => rfl
     | true => exact absurd (zcd.1 e) hx.1
   · rcases List.mem_cons.1 hl with rfl | hl
     · exact hx.2
     · exact i3 l hl
theorem ydc : ∀ {c : Code} {l0 l : Nat} {r c' : Code}, zko (zdp c) = true -> findLabel c l0 = some r -> findLabel r l = some c' -> ∃ c'', findLabel c l = some c'' /\ zh6 c'' = zh6 c' := by
 intro c
 induction c with
 | seq a b ih1 ih2 =>
   intro l0 l r c' hn h h'
   simp only [zdp, zae] at hn
   obtain ⟨n1, n2, n3⟩ := yc0 hn
   have none_of : ∀ {x}, findLabel b l = some x -> findLabel a l = none := by
     intro x hx
     cases e : findLabel a l with
     | none => rfl
     | some y => exact absurd (zq2 hx) (n3 l (zq2 e))
   unfold findLabel at h
   cases e : findLabel a l0 with
   | some x =>
     rw [e] at h
     cases h
     unfold findLabel at h'
     cases e' : findLabel x l with
     | some y =>
       rw [e'] at h'
       cases h'
       obtain ⟨c'', h1, h2⟩ := ih1 n1 e e'
       exact ⟨.seq c'' b, by simp [findLabel, h1], by simp [zh6, h2]⟩
     | none =>
       rw [e'] at h'
       exact ⟨c', by simp only [findLabel]; rw [none_of h']; exact h', rfl⟩
   | none =>
     rw [e] at h
     obtain ⟨c'', h1, h2⟩ := ih2 n2 h h'
     exact ⟨c'', by simp only [findLabel]; rw [none_of h1]; exact h1, h2⟩
 | label l' =>
   intro l0 l r c' _ h h'
   unfold findLabel at h
   split at h
   · cases h; simp [findLabel] at h'
   · cases h
 | _ => intro l0 l r c' _ h; simp [findLabel] at h
inductive yox (P : Program) (Q : Exit -> Act -> World -> Prop) (body : Code) : Code -> Act -> World -> Prop
 | mk {c : Code} {a : Act} {w : World} (R : Exit -> Act -> World -> Prop) (h : c.wp P R a w)
     (hn : ∀ e a' w', R e a' w' -> (∀ l rest, e = .goto l -> findLabel body l = some rest -> False) -> Q e a' w')
     (hg : ∀ l rest a' w', R (.goto l) a' w' -> findLabel body l = some rest -> yox P Q body rest a' w') : yox P Q body c a w
def Qg (P : Program) (Q : Exit -> Act -> World -> Prop) (body : Code) : Exit -> Act -> World -> Prop
 | .goto l, a, w => match findLabel body l with
   | some rest => yox P Q body rest a w
   | none => Q (.goto l) a w
 | e, a, w => Q e a w
theorem ycw {P : Program} {Q : Exit -> Act -> World -> Prop} {body c : Code} {a : Act} {w : World} (h : c.wp P (Qg P Q body) a w) : yox P Q body c a w := by
 refine .mk _ h (fun e a' w' hq hno => ?_) (fun l rest a' w' hq hf => ?_)
 · cases e with
   | goto l =>
     simp only [Qg] at hq
     split at hq
     · rename_i rest hf; exact (hno l rest rfl hf).elim
     · exact hq
   | _ => exact hq
 · simp only [Qg] at hq
   rw [hf] at hq
   exact hq
theorem ymg {P : Program} {Q : Exit -> Act -> World -> Prop} {body : Code} {c : Code} {a : Act} {w : World} (g : yox P Q body c a w) :
   ∀ (b : Frame) (k : List Item) (cs : List Frame), ∃ e a' w', Q e a' w' /\ Arrives P (lone (b.at a (.code c :: .inScope body :: k)) cs w) b k cs e a' w' := by
 induction g with
 | mk R h hn hg ih =>
   intro b k cs
   obtain ⟨e, a₁, w₁, hq, harr⟩ := h b (.inScope body :: k) cs
   cases e with
   | normal => exact ⟨.normal, a₁, w₁, hn _ _ _ hq (fun _ _ h => by cases h), Steps.trans harr (.one step_inScope)⟩
   | exit id => exact ⟨.exit id, a₁, w₁, hn _ _ _ hq (fun _ _ h => by cases h), fun k' hk => harr k' (by simp [exitTo, hk])⟩
   | goto l =>
     cases hf : findLabel body l with
     | some rest =>
       obtain ⟨e₂, a₂, w₂, hq₂, harr₂⟩ := ih l rest a₁ w₁ hq hf b k cs
       exact ⟨e₂, a₂, w₂, hq₂, .of_steps (harr _ (by simp [gotoIn, hf])) harr₂⟩
     | none =>
       refine ⟨.goto l, a₁, w₁, hn _ _ _ hq (fun l' r h hf' => by cases h; rw [hf] at hf'; cases hf'), fun k' hk => harr k' (by simp [gotoIn, hf, hk])⟩
   | ret => exact ⟨_, a₁, w₁, hn _ _ _ hq (fun _ _ h => by cases h), harr⟩
   | panic ch => exact ⟨_, a₁, w₁, hn _ _ _ hq (fun _ _ h => by cases h), harr⟩
   | outgrown => exact ⟨_, a₁, w₁, hn _ _ _ hq (fun _ _ h => by cases h), harr⟩
theorem zot {P : Program} {Q : Exit -> Act -> World -> Prop} {body : Code} {a : Act} {w : World} (g : yox P Q body body a w) : (Code.scope body).wp P Q a w := by
 intro b k cs
 obtain ⟨e, a₁, w₁, hq, harr⟩ := ymg g b k cs
 exact ⟨e, a₁, w₁, hq, .of_steps (.one step_scope) harr⟩
section
variable {P : Program} {T : TT} {S : zns} {lo lb : Nat -> St -> Option Ann} {base : Nat} {M : Two} {W : World} {nt : Nat} {Q1 : AV -> Prop}
def Kon (P : Program) (base : Nat) (M : Two) (W : World) (nt : Nat) (Q1 : AV -> Prop) (k : K) (Q : Exit -> Act -> World -> Prop) : Prop := ∀ e s a w, zn5 base M W nt s a w -> Sat P Q1 (k e s) -> Q (yp8 e) a w
def yvh (P : Program) (base : Nat) (M : Two) (W : World) (nt : Nat) (Q1 : AV -> Prop) (sc : Code -> St -> K -> zcf) : Prop :=
 ∀ body s k Q a w, zbx nt (.scope body) = true -> zn5 base M W nt s a w -> Sat P Q1 (sc body s k) -> Kon P base M W nt Q1 k Q -> (Code.scope body).wp P Q a w
theorem zfh {an : Ann} {ks : List (Nat × AV)} {ko : List (Nat × Ob)} {ice : List Nat} {m : Option Nat} {s : St} {a : Act} {w : World} (hs : zn5 base M W nt s a w) (h : Sat P Q1 (zg4 an ks ko ice m s)) :
   ∃ x, an.inv x /\ (∀ m0, m = some m0 -> an.mu x < m0) /\ zn5 base M W nt (an.st ks ko ice x) a w := by
 unfold zg4 at h
 cases h with
 | ex x h =>
   obtain ⟨h1, h2⟩ := ycb hs h rfl
   cases h2 with
   | must h3 h4 =>
     refine ⟨x, h3, fun m0 hm => ?_, h1⟩
     subst hm
     cases h4 with | must h5 _ => exact h5
theorem yba {sc : Code -> St -> K -> zcf} {A : Nat -> Bool} {id : Nat} {b : Code} (hb : ∀ body, b ≠ .loop body) {s : St} {k : K} :
   run T std S lo sc A (.block id b) s k = run T std S lo sc noL b s (fun e s' => match e with
   | .exit j => match za8 j id with
     | true => k .normal s'
     | false => k (.exit j) s'
   | e => k e s') := by
 cases b <;> first | rfl | exact absurd rfl (hb _)
def yo7 (P : Program) (T : TT) (S : zns) (lo : Nat -> St -> Option Ann) (base : Nat) (M : Two) (W : World) (nt : Nat) (Q1 : AV -> Prop) (sc : Code -> St -> K -> zcf) (c : Code) : Prop := zbx nt c = true ->
   ∀ (A : Nat -> Bool) (s : St) (k : K) (Q : Exit -> Act -> World -> Prop) (ys : List Code) (a : Act) (w : World), zn5 base M W nt s a w -> Sat P Q1 (run T std S lo sc A c s k) ->
   Kon P base M W nt Q1 k (Exit.then (WPl P ys Q) Q) ->
   (∀ l c' s' a' w', A l = true -> findLabel c l = some c' -> zn5 base M W nt s' a' w' -> Sat P Q1 (k (.goto l) s') -> WPl P (zh6 c' ++ ys) Q a' w') -> WPl P (zh6 c ++ ys) Q a w
theorem yl3 (hT : zbw P T) (hS : zdg P S) (hm : P.follows .mixedOrders = true) {sc : Code -> St -> K -> zcf} (hsc : yvh P base M W nt Q1 sc) : ∀ (c : Code),
   yo7 P T S lo base M W nt Q1 sc c /\ (∀ body, c = .loop body -> yo7 P T S lo base M W nt Q1 sc body) := by
 intro c
 induction c with
 | skip => refine ⟨?_, fun body e => by cases e⟩; intro _ A s k Q ys a w hs h hk _; exact hk .normal s a w hs h
 | region id ops d =>
   refine ⟨?_, fun body e => by cases e⟩
   intro hc A s k Q ys a w hs h hk _
   show (Code.region id ops d).wp P (Exit.then (WPl P ys Q) Q) a w
   have := ybj (id := id) (Q := Exit.then (WPl P ys Q) Q) hT hS hm hc hs h (fun s' a' w' hs' h' => hk .normal s' a' w' hs' h')
   simpa using this
 | seq x y ih1 ih2 =>
   refine ⟨?_, fun body e => by cases e⟩
   intro hc A s k Q ys a w hs h hk hl
   unfold zbx at hc
   rw [Bool.and_eq_true] at hc
   show WPl P ((zh6 x ++ zh6 y) ++ ys) Q a w
   rw [List.append_assoc]
   refine ih1.1 hc.1 A s _ Q (zh6 y ++ ys) a w hs h (fun e s' a' w' hs' h' => ?_) (fun l c' s' a' w' hA hf hs' h' => ?_)
   · cases e with
     | normal =>
       refine ih2.1 hc.2 _ s' k Q ys a' w' hs' h' hk (fun l c' s2 a2 w2 hA hf hs2 h2 => hl l c' s2 a2 w2 ?_ ?_ hs2 h2)
       · split at hA
         · cases hA
         · exact hA
       · split at hA
         · cases hA
         · rename_i e; simp only [findLabel]; rw [e]; exact hf
     | exit id => exact hk (.exit id) s' a' w' hs' h'
     | goto l => exact hk (.goto l) s' a' w' hs' h'
     | ret => exact hk .ret s' a' w' hs' h'
   · have := hl l (.seq c' y) s' a' w' hA (by simp [findLabel, hf]) hs' h'
     simpa [zh6] using this
 | cond x p q ih1 ih2 =>
   refine ⟨?_, fun body e => by cases e⟩
   intro hc A s k Q ys a w hs h hk _
   unfold zbx at hc
   rw [Bool.and_eq_true] at hc
   show (Code.cond x p q).wp P (Exit.then (WPl P ys Q) Q) a w
   have yes : ∀ (k1 : K) (s1 : St), zn5 base M W nt s1 a w -> Sat P Q1 (run T std S lo sc noL p s1 k1) -> Kon P base M W nt Q1 k1 (Exit.then (WPl P ys Q) Q) -> p.wp P (Exit.then (WPl P ys Q) Q) a w := fun k1 s1 h1 h2 hk1 => zef (by
     have := ih1.1 hc.1 noL s1 k1 (Exit.then (WPl P ys Q) Q) [] a w h1 h2 (by rw [zfs]; exact hk1) (fun l c' s' a' w' hA => by cases hA)
     simpa using this)
   have no : ∀ (k1 : K) (s1 : St), zn5 base M W nt s1 a w -> Sat P Q1 (run T std S lo sc noL q s1 k1) -> Kon P base M W nt Q1 k1 (Exit.then (WPl P ys Q) Q) -> q.wp P (Exit.then (WPl P ys Q) Q) a w := fun k1 s1 h1 h2 hk1 => zef (by
     have := ih2.1 hc.2 noL s1 k1 (Exit.then (WPl P ys Q) Q) [] a w h1 h2 (by rw [zfs]; exact hk1) (fun l c' s' a' w' hA => by cases hA)
     simpa using this)
   have lit : ∀ b, litOf s.kn x = some b -> a.eval x = .bool b := by
     intro b hb
     cases x with
     | tmp t =>
       obtain ⟨⟨D, μ, S⟩, hkn⟩ := hs
       exact (S.slots t _ (hkn t b hb)).inv_bool
     | const v => cases v <;> simp [litOf] at hb; subst hb; rfl
     | _ => simp [litOf] at hb
   have one : ∀ v : Bool, litOf s.kn x = some v -> ∀ k1 : K, Kon P base M W nt Q1 k1 (Exit.then (WPl P ys Q) Q) -> Sat P Q1 (match v with | true => run T std S lo sc noL p s k1 | false => run T std S lo sc noL q s k1) -> (Code.cond x p q).wp P (Exit.then (WPl P ys Q) Q) a w := by
     intro v e k1 hk1 h2
     cases v with
     | true => exact wp_cond_true (lit true e) (yes k1 s hs h2 hk1)
     | false => exact wp_cond_false (lit false e) (no k1 s hs h2 hk1)
   unfold run at h
   split at h
   · rename_i v e
     replace one := one v e
     clear e
     split at h
     · exact one k hk h
     · rename_i an _
       split at h
       · rename_i ks _
         split at h
         · rename_i ko _
           cases h with
           | and h1 h2 =>
             refine one _ (fun e s' a' w' hs' h' => ?_) h1
             cases e with
             | normal =>
               obtain ⟨y, hy, _, hsy⟩ := zfh hs' (show Sat P Q1 (zg4 an ks ko s.ice none s') from h')
               cases h2 with
               | all h2 => cases h2 y with
                 | sup h3 => exact hk .normal _ a' w' hsy (h3 hy)
             | exit j => exact hk (.exit j) s' a' w' hs' h'
             | goto l => exact hk (.goto l) s' a' w' hs' h'
             | ret => exact hk .ret s' a' w' hs' h'
         · cases h
       · cases h
   · split at h
     · rename_i t _ _
       split at h
       · rename_i b hb
         have he : a.eval (.tmp t) = .bool b := by
           obtain ⟨⟨D, μ, S⟩, hkn⟩ := hs
           exact (S.slots t _ hb).inv_bool
         have both : ∀ k1 : K, Kon P base M W nt Q1 k1 (Exit.then (WPl P ys Q) Q) -> Sat P Q1 (.ite b (run T std S lo sc noL p (s.know t true) k1) (run T std S lo sc noL q (s.know t false) k1)) -> (Code.cond (.tmp t) p q).wp P (Exit.then (WPl P ys Q) Q) a w := by
           intro k1 hk1 h
           cases h with
           | ite h1 h2 =>
             refine wp_cond_split he (fun ht => ?_) (fun hf => ?_)
             · subst ht
               exact yes k1 (s.know t true) ⟨hs.1, zem hs.2 hb⟩ (h1 rfl) hk1
             · subst hf
               exact no k1 (s.know t false) ⟨hs.1, zem hs.2 hb⟩ (h2 rfl) hk1
         split at h
         · exact both k hk h
         · rename_i an _
           split at h
           · rename_i ks _
             split at h
             · rename_i ko _
               cases h with
               | and h1 h2 =>
                 refine both _ (fun e s' a' w' hs' h' => ?_) h1
                 cases e with
                 | normal =>
                   obtain ⟨y, hy, _, hsy⟩ := zfh hs' h'
                   cases h2 with
                   | all h2 => cases h2 y with
                     | sup h3 => exact hk .normal _ a' w' hsy (h3 hy)
                 | exit j => exact hk (.exit j) s' a' w' hs' h'
                 | goto l => exact hk (.goto l) s' a' w' hs' h'
                 | ret => exact hk .ret s' a' w' hs' h'
             · cases h
           · cases h
       · cases h
     · cases h
 | block id b ih =>
   refine ⟨?_, fun body e => by cases e⟩
   intro hc A s k Q ys a w hs h hk _
   show (Code.block id b).wp P (Exit.then (WPl P ys Q) Q) a w
   generalize Exit.then (WPl P ys Q) Q = Q' at hk
   by_cases hb : ∃ body, b = .loop body
   · obtain ⟨body, rfl⟩ := hb
     have hbody := ih.2 body rfl hc
     unfold run at h
     split at h
     · rename_i an hlo
       split at h
       · rename_i ks hks
         split at h
         · rename_i ko hko
           cases h with
           | and h1 h2 =>
             obtain ⟨x0, i0, _, s0⟩ := zfh hs h1
             cases h2 with
             | all h2 =>
               refine wp_block (wp_loop_ghost (fun n a w => ∃ x, an.inv x /\ an.mu x = n /\ zn5 base M W nt (an.st ks ko s.ice x) a w) (an.mu x0) ⟨x0, i0, rfl, s0⟩ ?_)
               rintro n a1 w1 ⟨x, hx, rfl, hsx⟩
               refine zef ?_
               cases h2 x with
               | sup h3 =>
                 have := hbody noL _ _ (Exit.then (fun a' w' => ∃ n', n' < an.mu x /\ ∃ x, an.inv x /\ an.mu x = n' /\ zn5 base M W nt (an.st ks ko s.ice x) a' w') (Exit.inBlock id Q')) [] a1 w1 hsx (h3 hx) (fun e s' a' w' hs' h' => ?_) (fun l c' s' a' w' hA => by cases hA)
                 · simpa using this
                 · rw [zfs]
                   cases e with
                   | exit j =>
                     simp only at h'
                     show (if j = id then Q' .normal a' w' else Q' (.exit j) a' w')
                     cases e : za8 j id with
                     | true => rw [e] at h'; rw [if_pos (za1 e)]; exact hk .normal s' a' w' hs' h'
                     | false =>
                       rw [e] at h'
                       rw [if_neg (by rintro rfl; rw [za3] at e; cases e)]
                       exact hk (.exit j) s' a' w' hs' h'
                   | normal =>
                     obtain ⟨x', i', m', s2⟩ := zfh hs' h'
                     exact ⟨an.mu x', m' _ rfl, x', i', rfl, s2⟩
                   | goto l => exact hk (.goto l) s' a' w' hs' h'
                   | ret => exact hk .ret s' a' w' hs' h'
         · cases h
       · cases h
     · cases h
   · rw [yba (fun body e => hb ⟨body, e⟩)] at h
     refine wp_block (zef ?_)
     have := ih.1 hc noL s _ (Exit.inBlock id Q') [] a w hs h (fun e s' a' w' hs' h' => ?_) (fun l c' s' a' w' hA => by cases hA)
     · simpa using this
     · rw [zfs]
       cases e with
       | exit j =>
         simp only at h'
         show (if j = id then Q' .normal a' w' else Q' (.exit j) a' w')
         cases e : za8 j id with
         | true => rw [e] at h'; rw [if_pos (za1 e)]; exact hk .normal s' a' w' hs' h'
         | false =>
           rw [e] at h'
           rw [if_neg (by rintro rfl; rw [za3] at e; cases e)]
           exact hk (.exit j) s' a' w' hs' h'
       | normal => exact hk .normal s' a' w' hs' h'
       | goto l => exact hk (.goto l) s' a' w' hs' h'
       | ret => exact hk .ret s' a' w' hs' h'
 | exit id => refine ⟨?_, fun body e => by cases e⟩; intro _ A s k Q ys a w hs h hk _; exact wp_exit (hk (.exit id) s a w hs h)
 | goto l => refine ⟨?_, fun body e => by cases e⟩; intro _ A s k Q ys a w hs h hk _; exact wp_goto (hk (.goto l) s a w hs h)
 | ret => refine ⟨?_, fun body e => by cases e⟩; intro _ A s k Q ys a w hs h hk _; exact wp_ret (hk .ret s a w hs h)
 | label l =>
   refine ⟨?_, fun body e => by cases e⟩
   intro _ A s k Q ys a w hs h hk hl
   unfold run at h
   split at h
   · rename_i hA
     exact hl l .skip s a w hA (by simp [findLabel]) hs h
   · exact hk .normal s a w hs h
 | scope b ih =>
   refine ⟨?_, fun body e => by cases e⟩
   intro hc A s k Q ys a w hs h hk _
   exact hsc b s k _ a w hc hs h hk
 | loop b ih => exact ⟨fun _ A s k Q ys a w hs h hk _ => (by cases h), fun body e => by cases e; exact ih.1⟩
 | _ => refine ⟨?_, fun body e => by cases e⟩; intro _ A s k Q ys a w hs h hk _; cases h
theorem yj2 (hT : zbw P T) (hS : zdg P S) (hm : P.follows .mixedOrders = true) {sc : Code -> St -> K -> zcf} (hsc : yvh P base M W nt Q1 sc) (c : Code) : yo7 P T S lo base M W nt Q1 sc c := (yl3 hT hS hm hsc c).1
def yvk (P : Program) (base : Nat) (M : Two) (W : World) (nt : Nat) (lb : Nat -> St -> Option Ann) (body : Code) (bs : St) (Q : Exit -> Act -> World -> Prop) (m : Option Nat) : Prop :=
 ∀ l an rest ks ko x a w, lb l bs = some an -> findLabel body l = some rest -> znl bs.slots an.keep = some ks -> zpt bs.objs an.hold = some ko -> an.inv x -> (∀ m0, m = some m0 -> an.mu x < m0) ->
   zn5 base M W nt (an.st ks ko bs.ice x) a w -> WPl P (zh6 rest) (Qg P Q body) a w
def yk7 (P : Program) (T : TT) (S : zns) (lo lb : Nat -> St -> Option Ann) (base : Nat) (M : Two) (W : World) (nt : Nat) (Q1 : AV -> Prop) (n : Nat) : Prop :=
 ∀ body rest bs s k m Q a w, zko (zdp body) = true -> zbx nt rest = true -> zbx nt body = true -> (rest = body \/ ∃ l, findLabel body l = some rest) -> zn5 base M W nt s a w -> Sat P Q1 (pass T std S lo lb n body rest s k m bs) ->
   Kon P base M W nt Q1 k Q -> yvk P base M W nt lb body bs Q m -> WPl P (zh6 rest) (Qg P Q body) a w
theorem zq5 {body : Code} {bs : St} {ps : Code -> St -> Nat -> zcf} {t : zcf} : ∀ {ls : List Nat}, Sat P Q1 (zfl lb body bs ps ls t) -> Sat P Q1 t /\
   ∀ l, l ∈ ls -> ∀ an rest ks ko, lb l bs = some an -> findLabel body l = some rest -> znl bs.slots an.keep = some ks -> zpt bs.objs an.hold = some ko -> ∀ x, an.inv x -> Sat P Q1 (ps rest (an.st ks ko bs.ice x) (an.mu x))
 | [], h => ⟨h, fun l hl => by cases hl⟩
 | l0 :: ls, h => by
   unfold zfl at h
   split at h
   · rename_i an hlb
     split at h
     · rename_i rest hf
       split at h
       · rename_i ks hks
         split at h
         · rename_i ko hko
           cases h with
           | and h1 h2 =>
             obtain ⟨i1, i2⟩ := zq5 h2
             refine ⟨i1, fun l hl an' rest' ks' ko' q1 q2 q3 q4 x hx => ?_⟩
             rcases List.mem_cons.1 hl with rfl | hl
             · rw [hlb] at q1; cases q1
               rw [hf] at q2; cases q2
               rw [hks] at q3; cases q3
               rw [hko] at q4; cases q4
               cases h1 with
               | all h1 => cases h1 x with | sup h1 => exact h1 hx
             · exact i2 l hl an' rest' ks' ko' q1 q2 q3 q4 x hx
         · cases h
       · cases h
     · rename_i hf
       obtain ⟨i1, i2⟩ := zq5 h
       refine ⟨i1, fun l hl an' rest' ks' ko' q1 q2 => ?_⟩
       rcases List.mem_cons.1 hl with rfl | hl
       · rw [hf] at q2; cases q2
       · exact i2 l hl an' rest' ks' ko' q1 q2
   · rename_i hlb
     obtain ⟨i1, i2⟩ := zq5 h
     refine ⟨i1, fun l hl an' rest' ks' ko' q1 => ?_⟩
     rcases List.mem_cons.1 hl with rfl | hl
     · rw [hlb] at q1; cases q1
     · exact i2 l hl an' rest' ks' ko' q1
theorem zv3 (n : Nat) (hp : yk7 P T S lo lb base M W nt Q1 n) : yvh P base M W nt Q1 (znx lb (pass T std S lo lb n)) := by
 intro body s k Q a w hc hs h hk
 unfold zbx at hc
 rw [Bool.and_eq_true] at hc
 unfold znx at h
 obtain ⟨h1, h2⟩ := zq5 h
 have lab : ∀ m, ∀ l an rest ks ko x a w, lb l s = some an -> findLabel body l = some rest -> znl s.slots an.keep = some ks -> zpt s.objs an.hold = some ko -> an.inv x -> an.mu x = m ->
     zn5 base M W nt (an.st ks ko s.ice x) a w -> WPl P (zh6 rest) (Qg P Q body) a w := by
   intro m
   induction m using Nat.strongRecOn with
   | _ m ih =>
     intro l an rest ks ko x a w q1 q2 q3 q4 hx hm hsx
     subst hm
     refine hp body rest s _ k (some (an.mu x)) Q a w hc.1 (ydb q2 hc.2) hc.2 (.inr ⟨l, q2⟩) hsx (h2 l (zq2 q2) an rest ks ko q1 q2 q3 q4 x hx) hk ?_
     intro l' an' rest' ks' ko' x' a' w' p1 p2 p3 p4 hx' hlt hs'
     exact ih (an'.mu x') (hlt _ rfl) l' an' rest' ks' ko' x' a' w' p1 p2 p3 p4 hx' rfl hs'
 have := hp body body s s k none Q a w hc.1 hc.2 hc.2 (.inl rfl) hs h1 hk (fun l an rest ks ko x a w q1 q2 q3 q4 hx _ hsx => lab _ l an rest ks ko x a w q1 q2 q3 q4 hx rfl hsx)
 exact zot (ycw (zef this))
theorem ybr (hT : zbw P T) (hS : zdg P S) (hm : P.follows .mixedOrders = true) : ∀ n, yk7 P T S lo lb base M W nt Q1 n
 | 0 => by intro body rest bs s k m Q a w _ _ _ _ _ h; cases h
 | n + 1 => by
   intro body rest bs s k m Q a w hn hr hb hsuf hs h hk hl
   have ih := ybr hT hS hm n
   unfold pass at h
   have go : ∀ l rest' s' a' w', findLabel body l = some rest' -> zn5 base M W nt s' a' w' -> Sat P Q1 (jump lb (fun rest' s' => pass T std S lo lb n body rest' s' k m bs) body bs m k (.goto l) s') -> WPl P (zh6 rest') (Qg P Q body) a' w' := by
     intro l rest' s' a' w' hf hs' h'
     simp only [jump, hf] at h'
     split at h'
     · rename_i an hlb
       split at h'
       · rename_i ks hks
         split at h'
         · rename_i ko hko
           obtain ⟨x, i1, i2, i3⟩ := zfh hs' h'
           exact hl l an rest' ks ko x a' w' hlb hf hks hko i1 i2 i3
         · cases h'
       · cases h'
     · exact ih body rest' bs s' k m Q a' w' hn (ydb hf hb) hb (.inr ⟨l, hf⟩) hs' h' hk hl
   have := yj2 hT hS hm (zv3 n ih) rest hr _ s _ (Qg P Q body) [] a w hs h (fun e s' a' w' hs' h' => ?_) (fun l c' s' a' w' hA hf hs' h' => ?_)
   · simpa using this
   · rw [zfs]
     cases e with
     | goto l =>
       show Qg P Q body (.goto l) a' w'
       simp only [Qg]
       cases hf : findLabel body l with
       | some rest' => exact ycw (zef (go l rest' s' a' w' hf hs' h'))
       | none =>
         simp only [jump, hf] at h'
         exact hk (.goto l) s' a' w' hs' h'
     | normal => exact hk .normal s' a' w' hs' h'
     | exit id => exact hk (.exit id) s' a' w' hs' h'
     | ret => exact hk .ret s' a' w' hs' h'
   · rw [List.append_nil]
     rcases hsuf with rfl | ⟨l0, h0⟩
     · exact go l c' s' a' w' hf hs' h'
     · obtain ⟨c'', e1, e2⟩ := ydc hn h0 hf
       rw [<- e2]
       exact go l c'' s' a' w' e1 hs' h'
theorem ydp (hT : zbw P T) (hS : zdg P S) (hm : P.follows .mixedOrders = true) {n : Nat} {c : Code} (hc : zbx nt c = true) {s : St} {k : K} {Q : Exit -> Act -> World -> Prop} {a : Act} {w : World} (hs : zn5 base M W nt s a w)
   (h : Sat P Q1 (run T std S lo (znx lb (pass T std S lo lb n)) noL c s k)) (hk : Kon P base M W nt Q1 k Q) : c.wp P Q a w := by
 refine zef ?_
 have := yj2 hT hS hm (zv3 n (ybr hT hS hm n)) c hc noL s k Q [] a w hs h (by rw [zfs]; exact hk) (fun l c' s' a' w' hA => by cases hA)
 simpa using this
end
end Sy
end Go.Proofs.YtfonekpmkdkgnaaGreatDoor
namespace Go.Proofs.YtfonekpmkdkgnaaGreatDoor
namespace Sy
open Go Go.RowKit
set_option linter.unusedSimpArgs false
set_option linter.unusedVariables false
set_option linter.unusedSectionVars false
def znr : List Prop -> Prop
 | [] => True
 | p :: r => p /\ znr r
def fits1 (r v : AV) : Prop := match zgk ⟨[], []⟩ r v with
 | some ⟨ps, []⟩ => znr ps
 | _ => False
def zu4 : List AV -> List AV -> Prop
 | [], [] => True
 | x :: xs, y :: ys => fits1 x y /\ zu4 xs ys
 | _, _ => False
def zgn (r v : AV) : Prop := match r, v with
 | .tup rs, .tup vs => zu4 rs vs
 | r, v => fits1 r v
theorem zwn : ∀ {l : List Prop}, znr l -> ∀ p, p ∈ l -> p
 | [], _, p, h => by cases h
 | q :: l, ⟨h1, h2⟩, p, h => by
   rcases List.mem_cons.1 h with rfl | h
   · exact h1
   · exact zwn h2 p h
theorem yln (μ : Mu) : zgf μ [] = zam := by
 funext t
 unfold zgf
 split <;> rfl
theorem yjp (id : Nat) : gx (za2 []) id = none := by unfold gx; split <;> rfl
theorem yda {h : Array Obj} {D : Nat -> Prop} {r v : AV} {x : Value} (f : fits1 r v) (hr : R h D zam v x) : R h D zam r x := by
 unfold fits1 at f
 split at f
 · rename_i ps e
   have := (zvo (h := h) (D := D) (μ := zam) e).2 [] x ⟨fun _ _ h => h, zwn f⟩ hr
   rwa [yln] at this
 · exact f.elim
theorem yd5 {h : Array Obj} {D : Nat -> Prop} : ∀ {rs vs : List AV}, zu4 rs vs -> rs.length = vs.length /\ ∀ (i : Nat) r v x, rs[i]? = some r -> vs[i]? = some v -> R h D zam v x -> R h D zam r x
 | [], [], _ => ⟨rfl, fun i r v x h => by simp at h⟩
 | r :: rs, v :: vs, ⟨f1, f2⟩ => by
   obtain ⟨l1, h1⟩ := yd5 (h := h) (D := D) f2
   refine ⟨by simp [l1], fun i r' v' x hr hv hx => ?_⟩
   cases i with
   | zero => simp at hr hv; subst hr; subst hv; exact yda f1 hx
   | succ i => exact h1 i r' v' x (by simpa using hr) (by simpa using hv) hx
 | [], _ :: _, f => f.elim
 | _ :: _, [], f => f.elim
theorem yjs {h : Array Obj} {D : Nat -> Prop} {r v : AV} {x : Value} (f : zgn r v) (hr : R h D zam v x) : R h D zam r x := by
 unfold zgn at f
 split at f
 · rename_i rs vs
   obtain ⟨us, rfl, l1, h1⟩ := hr.inv_tup
   obtain ⟨l2, h2⟩ := yd5 (h := h) (D := D) f
   refine .tup _ _ (by rw [l2, l1]) fun i r x hr hx => ?_
   obtain ⟨v, hv⟩ : ∃ v, vs[i]? = some v := ⟨_, List.getElem?_eq_getElem (by rw [<- l2]; exact (List.getElem?_eq_some_iff.1 hr).1)⟩
   exact h2 i r v x hr hv (h1 i v x hv hx)
 · exact yda f hr
theorem zz6 {α : Type} (x : Sem α) : x.bind .pure = x := by
 induction x <;> simp only [Sem.bind] <;> (try (congr 1; try funext _)) <;> (first | rfl | (rename_i ih; exact ih _) | (rename_i ih; exact ih) | (rename_i ih _; exact ih _))
theorem zuq {α β γ : Type} (x : Sem α) (f : α -> Sem β) (g : β -> Sem γ) : (x.bind f).bind g = x.bind fun a => (f a).bind g := by
 induction x <;> simp only [Sem.bind] <;> (try (congr 1; try funext _)) <;> (first | rfl | (rename_i ih; exact ih _) | (rename_i ih; exact ih) | (rename_i ih _; exact ih _))
instance : LawfulMonad Sem := LawfulMonad.mk' Sem (fun x => zz6 x) (fun _ _ => rfl) (fun x f g => zuq x f g)
theorem zvr {α : Type} {P : Program} {w : World} {k : α -> Sem Value} : ∀ {zs : List α} {us : Nat -> Value}, (∀ (i : Nat) x, zs[i]? = some x -> (k x).run P w = .ok (us i) w) ->
   (zs.mapM k).run P w = .ok ((List.range zs.length).map us) w
 | [], us, h => by simp
 | z :: zs, us, h => by
   have ih := zvr (zs := zs) (us := fun i => us (i + 1)) (fun i x hx => h (i + 1) x (by simpa using hx))
   rw [List.mapM_cons, Sem.run_bind, h 0 z rfl]
   simp only [Result.andThen_ok, Sem.run_bind, ih, Sem.run_pure]
   rw [List.length_cons, List.range_succ_eq_map]
   simp [Function.comp_def]
section
variable {P : Program} {T : TT} {base : Nat} {M : Two} {W : World} {nt : Nat} {s : St} {a : Act} {w : World} {D : Nat -> Prop} {μ : Mu}
def zxn (tmps : Array Value) : ResultVar -> Sem Value
 | .tmp t => pure (tmps.getD t undef)
 | .cell a t => do loadVar t (<- asAddr (tmps.getD a undef))
theorem ypp (h : Sim base M W nt (za2 s.slots) (za2 s.objs) (zbo s.ice) a w D μ) (hT : zbw P T) {x : ResultVar} {v : AV} (e : ysl T s x = some v) : ∃ u, (zxn a.tmps x).run P w = .ok u w /\ R w.heap D μ v u := by
 have ev : ∀ t, R w.heap D μ (evf (za2 s.slots) [] (.tmp t)) (a.tmps.getD t undef) := fun t => ymw h (fun t b ht => by simp [za2] at ht) (.tmp t) (fun v hv => by cases hv)
 cases x with
 | tmp t =>
   simp only [ysl, Option.some.injEq] at e
   subst e
   exact ⟨_, rfl, ev t⟩
 | cell p t =>
   simp only [ysl] at e
   have hl := zvt h hT (t := t) (ev p) (ob := za2 s.objs) (fun _ _ h => h)
   split at e
   · rename_i v' os ice hc
     rw [hc] at hl
     cases e
     obtain ⟨_, _, y, hy, r⟩ := hl
     refine ⟨y, ?_, r⟩
     simp only [zxn]
     generalize a.tmps.getD p undef = u at *
     unfold Instr.loadAt Instr.sureAddr at hy
     unfold asAddr
     split at hy
     · rename_i q; simpa using hy
     · simp [stuck] at hy
   · cases e
theorem zt2 (h : Sim base M W nt (za2 s.slots) (za2 s.objs) (zbo s.ice) a w D μ) (hT : zbw P T) : ∀ {rs : List ResultVar} {vs : List AV}, ybh T s rs = some vs ->
   vs.length = rs.length /\ ∃ us : Nat -> Value, (∀ (i : Nat) x, rs[i]? = some x -> (zxn a.tmps x).run P w = .ok (us i) w) /\ ∀ (i : Nat) v, vs[i]? = some v -> R w.heap D μ v (us i)
 | [], vs, e => by cases e; exact ⟨rfl, fun _ => undef, fun i x hx => by simp at hx, fun i x hx => by simp at hx⟩
 | x :: rs, vs, e => by
   unfold ybh at e
   split at e
   · rename_i v hv
     split at e
     · rename_i l hl
       cases e
       obtain ⟨u, hu, r⟩ := ypp h hT hv
       obtain ⟨l1, us, h1, h2⟩ := zt2 h hT hl
       refine ⟨by simp [l1], fun i => match i with | 0 => u | i + 1 => us i, fun i x' hx => ?_, fun i v' hv' => ?_⟩
       · cases i with
         | zero => simp at hx; subst hx; exact hu
         | succ i => exact h1 i x' (by simpa using hx)
       · cases i with
         | zero => simp at hv'; subst hv'; exact r
         | succ i => exact h2 i v' (by simpa using hv')
     · cases e
   · cases e
theorem zly {fn : Func} {tmps : Array Value} {us : Nat -> Value} (h : ∀ (i : Nat) x, fn.results.toList[i]? = some x -> (zxn tmps x).run P w = .ok (us i) w) :
   (results fn tmps).run P w = .ok (if fn.results.size = 1 then us 0 else .tuple ((List.range fn.results.size).map us).toArray) w := by
 have h1 : (fn.results.mapM (zxn tmps)).run P w = .ok ((List.range fn.results.size).map us).toArray w := by
   have e : fn.results = fn.results.toList.toArray := by simp
   rw [e, List.mapM_toArray, map_eq_pure_bind, Sem.run_bind, zvr h]
   simp
 have h2 : results fn tmps = (do
     let vs <- fn.results.mapM (zxn tmps)
     pure (if h : vs.size = 1 then vs[0] else .tuple vs)) := by
   unfold results
   congr 1
 rw [h2, Sem.run_bind, h1]
 simp only [Result.andThen_ok, Sem.run_pure]
 congr 1
 by_cases e : fn.results.size = 1
 · rw [if_pos e, dif_pos (by simp [e])]
   try simp
 · rw [if_neg e, dif_neg (by simp [e])]
end
theorem zn4 {α : Type} : ∀ (xs : List α) (i t : Nat), za2 (number i xs) t = if i <= t then xs[t - i]? else none
 | [], i, t => by simp [number, za2]
 | x :: xs, i, t => by
   unfold number za2
   cases e : za8 i t with
   | true => have := za1 e; subst this; simp
   | false =>
     have hne : i ≠ t := by rintro rfl; rw [za3] at e; cases e
     simp only
     rw [zn4 xs (i + 1) t]
     by_cases h : i <= t
     · rw [if_pos (by omega), if_pos h]
       obtain ⟨k, hk⟩ : ∃ k, t - i = k + 1 := ⟨t - i - 1, by omega⟩
       rw [hk, show t - (i + 1) = k by omega]
       simp
     · rw [if_neg (by omega), if_neg h]
theorem zd5 {P : Program} {f : FuncId} {fn : Func} {args : Array Value} {w : World} (hf : P.funcs[f]? = some fn) (hn : (fn.name == "runtime.NumGoroutine") = false) {c : Code} (hb : fn.body = some c) :
   (callFunc f args).run P w = .ok (.enter f args) w := by
 have hn' : ¬ fn.name = "runtime.NumGoroutine" := by simpa using hn
 unfold callFunc
 simp [program, Sem.run, hf, hn', hb]
def zoi : List (Nat × Ob) -> Bool
 | [] => true
 | (t, .tab _ _ n _ _) :: r => match za8 n 0, zbg t zcn, zcy t with | true, true, false => zoi r | _, _, _ => false
 | _ => false
theorem zdn : ∀ {O : List (Nat × Ob)}, zoi O = true -> ∀ t o, za2 O t = some o -> t < zcn /\ zcy t = false /\ ∃ ty sz len get, o = .tab ty sz 0 len get
 | [], _, t, o, h => by cases h
 | (m, o') :: r, e, t, o, h => by
   unfold zoi at e
   unfold za2 at h
   split at e
   · rename_i q; cases q
   · rename_i q; cases q
     split at e
     · rename_i h1 h2 h3
       split at h
       · rename_i hb
         have := za1 hb; subst this
         cases h
         have hn := za1 h1
         subst hn
         exact ⟨zas h2, h3, _, _, _, _, rfl⟩
       · exact zdn e t o h
     · cases e
   · cases e
def muT (O : List (Nat × Ob)) : Mu := fun t => match za2 O t with | some _ => some none | none => none
theorem yji {O : List (Nat × Ob)} (e : zoi O = true) (id : Nat) : gx (za2 O) id = za2 O id := by
 by_cases hm : zax id = true
 · rw [zfj _ hm]
   have h1 : za2 O id = none := by
     cases h : za2 O id with
     | none => rfl
     | some o => rw [zb6.2 (zdn e id o h).1] at hm; cases hm
   rw [h1]
   cases h : za2 O (zgy id) with
   | none => rfl
   | some o =>
     obtain ⟨_, _, ty, sz, len, get, rfl⟩ := zdn e _ o h
     simp [zet]
 · exact zah (by simpa using hm)
theorem yc3 {O : List (Nat × Ob)} {id : Nat} {x : Nat × Nat × Nat} : muT O id ≠ some (some x) := by
 unfold muT
 cases za2 O id <;> simp
theorem zoo {P : Program} {T : TT} {S : zns} {lo lb : Nat -> St -> Option Ann} {n : Nat} {f : FuncId} {fn : Func} {c : Code} {xs : List AV} {r : AV} {O : List (Nat × Ob)} (hO : zoi O = true) (hf : P.funcs[f]? = some fn) (hb : fn.body = some c) (hn : (fn.name == "runtime.NumGoroutine") = false)
   (hc : zbx fn.ntmps c = true) (hx : (zbm xs.length fn.ntmps && zbm fn.ntmps 500000) = true) (hT : zbw P T) (hS : zdg P S) (hm : P.follows .mixedOrders = true) (h : Sat P (zgn r) (yfl T std S lo lb n fn xs O)) : za5 P f xs r := by
 intro D w vs hD hxs hg
 rw [Bool.and_eq_true] at hx
 have hnb := zb3 hx.2
 have hx := zb3 hx.1
 unfold zeq
 rw [zd5 hf hn hb]
 simp only
 refine calls_of_wp hf hb ?_
 unfold yfl at h
 rw [hb] at h
 refine ydp (base := w.heap.size) (M := ⟨fun _ => False, D, fun _ => none, zam⟩) (W := w) hT hS hm hc ⟨⟨D, muT O, ?_⟩, fun t b ht => by simp [za2] at ht⟩ h (fun e s a w' hs h' => ?_)
 · refine { os := rfl, tape := rfl, output := rfl, size := Nat.le_refl _, bs := Nat.le_refl _, old := fun _ _ _ => rfl, defers := rfl, tmps := ?_, slots := fun t v hv => ?_, dlt := hD, low := fun b hb _ => .inl hb, domx := fun id => ?_, obsx := fun id o x ho hx => ?_, injx := fun id id' b z z' o o' h => (yc3 h).elim, own := fun id b z h => (yc3 h).elim, kdx := fun id b z o h => (yc3 h).elim, icyx := fun id h => by (simp [zbo] at h), tbs := fun id o h => ⟨(zdn hO id o h).1, fun _ => (zdn hO id o h).2.1⟩, icm := fun _ _ => rfl, mems := fun id y _ h => (by cases h), ntb := hnb, pin := fun id y hp h => ?_, gl := ⟨hg, zwt hg, fun _ h => h.elim⟩ }
   · rw [hxs.1] at hx
     simp; omega
   · rw [zn4, if_pos (by omega), Nat.sub_zero] at hv
     have hlt : t < vs.size := by rw [<- hxs.1]; exact (List.getElem?_eq_some_iff.1 hv).1
     have h1 : vs[t]? = some vs[t] := by simp [hlt]
     have h2 : (vs ++ Array.replicate (fn.ntmps - vs.size) undef).getD t undef = vs[t] := by
       rw [Array.getD_eq_getD_getElem?, Array.getElem?_append_left hlt, h1]; rfl
     rw [h2]
     exact (hxs.2 t v vs[t] hv h1).free
   · rw [yji hO]
     unfold muT
     cases za2 O id <;> simp
   · rw [yji hO] at ho
     unfold muT at hx
     rw [ho] at hx
     cases hx
     obtain ⟨_, _, ty, sz, len, get, rfl⟩ := zdn hO _ o ho
     exact trivial
   · unfold muT at h
     split at h
     · rename_i o ho
       rw [(zdn hO id o ho).2.1] at hp; cases hp
     · cases h
 · obtain ⟨⟨D1, μ, S1⟩, _⟩ := hs
   have key : Sat P (zgn r) (ysv T std fn.results.toList s) -> a.defers = [] /\ ∃ v, (results fn a.tmps).run P w' = .ok v w' /\ ∃ v' D', Ending.returned v = .returned v' /\ Below w.heap.size w w' /\ (∀ b, D b -> D' b) /\ (∀ b, D' b -> D b \/ (w.heap.size <= b /\ b < w'.heap.size)) /\ R w'.heap D' zam r v' := by
     intro h'
     unfold ysv at h'
     split at h'
     · rename_i vs1 hvs
       obtain ⟨l1, us, h1, h2⟩ := zt2 S1 hT hvs
       have hres := zly (P := P) (w := w') (fn := fn) (tmps := a.tmps) h1
       have hB : Below w.heap.size w w' := ⟨S1.os, S1.tape, S1.output, S1.size, fun b hb => S1.old b hb (fun h => h)⟩
       have lowD : ∀ b, D1 b -> D b \/ (w.heap.size <= b /\ b < w'.heap.size) := fun b hb => by
         by_cases hlt : b < w.heap.size
         · rcases S1.low b hb hlt with h | h
           · exact .inl h
           · exact h.elim
         · exact .inr ⟨by omega, S1.dlt b hb⟩
       have lowM : ∀ id b z, μ id = some (some (b, z)) -> D b \/ (w.heap.size <= b /\ b < w'.heap.size) := fun id b z hm => by
         rcases S1.own id b _ hm with ⟨q1, q2 | q2⟩
         · exact .inr ⟨q2, q1⟩
         · exact q2.elim
       have imm : ∀ vs2, immVs std (za2 s.objs) vs1 = some vs2 -> vs2.length = vs1.length /\ ∀ (i : Nat) v, vs2[i]? = some v -> R w'.heap (fun b => D b \/ DF D1 μ (ze8 vs1) b) zam v (us i) := by
         intro vs2 e2
         obtain ⟨i1, _, i3⟩ := zl9 S1 (ob := za2 s.objs) (fun _ _ h => h) e2 (ids := ze8 vs1) (fun _ h => h)
         refine ⟨i1, fun i v hv => ?_⟩
         obtain ⟨v1, hv1⟩ : ∃ v1, vs1[i]? = some v1 := ⟨_, List.getElem?_eq_getElem (by rw [<- i1]; exact (List.getElem?_eq_some_iff.1 hv).1)⟩
         exact (i3 i v1 v (us i) hv1 hv (h2 i v1 hv1)).mono (fun _ _ => rfl) (fun b hb => .inr hb) (fun _ _ h => by cases h)
       have set : ∀ vs2, zwy std (za2 s.objs) vs1 = some vs2 -> vs2.length = vs1.length /\ ∀ (i : Nat) v, vs2[i]? = some v -> R w'.heap (fun b => D b \/ zzi D1 μ b) zam v (us i) := by
         intro vs2 e2
         obtain ⟨i1, i3⟩ := zoz S1 (ob := za2 s.objs) (fun _ _ h => h) e2
         refine ⟨i1, fun i v hv => ?_⟩
         obtain ⟨v1, hv1⟩ : ∃ v1, vs1[i]? = some v1 := ⟨_, List.getElem?_eq_getElem (by rw [<- i1]; exact (List.getElem?_eq_some_iff.1 hv).1)⟩
         exact (i3 i v1 v (us i) hv1 hv (h2 i v1 hv1)).mono (fun _ _ => rfl) (fun b hb => .inr hb) (fun _ _ h => by cases h)
       have go : ∀ (D2 : Nat -> Prop) (vs2 : List AV), (∀ b, D2 b -> D b \/ (w.heap.size <= b /\ b < w'.heap.size)) -> vs2.length = vs1.length -> (∀ (i : Nat) v, vs2[i]? = some v -> R w'.heap (fun b => D b \/ D2 b) zam v (us i)) ->
           ((∃ v, vs2 = [v] /\ zgn r v) \/ ((∀ v, vs2 ≠ [v]) /\ zgn r (.tup vs2))) -> a.defers = [] /\ ∃ v, (results fn a.tmps).run P w' = .ok v w' /\ ∃ v' D', Ending.returned v = .returned v' /\ Below w.heap.size w w' /\ (∀ b, D b -> D' b) /\ (∀ b, D' b -> D b \/ (w.heap.size <= b /\ b < w'.heap.size)) /\ R w'.heap D' zam r v' := by
         intro D2 vs2 hD2 i1 i2 hf
         refine ⟨S1.defers, _, hres, _, fun b => D b \/ D2 b, rfl, hB, fun b hb => .inl hb, fun b hb => hb.elim .inl (hD2 b), ?_⟩
         rcases hf with ⟨v1, rfl, hf⟩ | ⟨hne, hf⟩
         · have hsz : fn.results.size = 1 := by rw [<- Array.length_toList, <- l1, <- i1]; rfl
           rw [if_pos hsz]
           exact yjs hf (i2 0 v1 rfl)
         · have hl : vs2.length = fn.results.size := by rw [i1, l1, Array.length_toList]
           have hsz : ¬ fn.results.size = 1 := by
             rw [<- hl]
             intro h1
             obtain ⟨v, hv⟩ := List.length_eq_one_iff.1 h1
             exact hne v hv
           rw [if_neg hsz]
           refine yjs hf (.tup _ _ (by simp [hl]) fun i v x hv hx => ?_)
           have hlt : i < fn.results.size := by rw [<- hl]; exact (List.getElem?_eq_some_iff.1 hv).1
           simp [hlt] at hx
           subst hx
           exact i2 i v hv
       have hDF : ∀ b, DF D1 μ (ze8 vs1) b -> D b \/ (w.heap.size <= b /\ b < w'.heap.size) := by
         rintro b (hb | ⟨id, z, m, _, hm⟩)
         · exact lowD b hb
         · exact lowM id b _ hm
       have hDW : ∀ b, zzi D1 μ b -> D b \/ (w.heap.size <= b /\ b < w'.heap.size) := by
         rintro b (hb | ⟨id, z, m, hm⟩)
         · exact lowD b hb
         · exact lowM id b _ hm
       split at h'
       · rename_i v1 e2
         cases h' with
         | done h' =>
           obtain ⟨i1, i2⟩ := imm _ e2
           exact go _ _ hDF i1 i2 (.inl ⟨v1, rfl, h'⟩)
       · rename_i vs2 hne e2
         cases h' with
         | done h' =>
           obtain ⟨i1, i2⟩ := imm _ e2
           exact go _ _ hDF i1 i2 (.inr ⟨hne, h'⟩)
       · split at h'
         · rename_i v1 e2
           cases h' with
           | done h' =>
             obtain ⟨i1, i2⟩ := set _ e2
             exact go _ _ hDW i1 i2 (.inl ⟨v1, rfl, h'⟩)
         · rename_i vs2 hne e2
           cases h' with
           | done h' =>
             obtain ⟨i1, i2⟩ := set _ e2
             exact go _ _ hDW i1 i2 (.inr ⟨hne, h'⟩)
         · cases h'
     · cases h'
   cases e with
   | normal => exact key h'
   | ret => exact key h'
   | exit id => cases h'
   | goto l => cases h'
theorem zsk {P : Program} {T : TT} {S : zns} {lo lb : Nat -> St -> Option Ann} {n : Nat} {f : FuncId} {fn : Func} {c : Code} {xs : List AV} {r : AV} (hf : P.funcs[f]? = some fn) (hb : fn.body = some c) (hn : (fn.name == "runtime.NumGoroutine") = false)
   (hc : zbx fn.ntmps c = true) (hx : (zbm xs.length fn.ntmps && zbm fn.ntmps 500000) = true) (hT : zbw P T) (hS : zdg P S) (hm : P.follows .mixedOrders = true) (h : Sat P (zgn r) (yto T std S lo lb n fn xs)) : za5 P f xs r :=
 zoo (O := []) rfl hf hb hn hc hx hT hS hm h
end Sy
end Go.Proofs.YtfonekpmkdkgnaaGreatDoor
namespace Go.Proofs.YtfonekpmkdkgnaaGreatDoor
namespace Sy
open Go Go.RowKit
section
variable (a b c : Int) (l m : List UInt8) (n : Nat)
theorem yuc : (ilt a b = true) = (a < b) := by simp [ilt]
theorem yud : (ilt a b = false) = (b <= a) := by simp [ilt]
theorem yue : (ile a b = true) = (a <= b) := by simp [ile]
theorem yuf : (ile a b = false) = (b < a) := by simp [ile]
theorem yuh : (ieq a b = true) = (a = b) := by simp [ieq]
theorem yui : (ieq a b = false) = (a ≠ b) := by simp [ieq]
theorem yu8 : (ine a b = true) = (a ≠ b) := by simp [ine]
theorem yu9 : (ine a b = false) = (a = b) := by simp [ine]
theorem ytk : (seq l m = true) = (l = m) := by simp [seq]
theorem ytl : (seq l m = false) = (l ≠ m) := by simp [seq]
theorem ym3 : (inR a b = true) = (0 <= a /\ a < b) := by simp [inR]
theorem yua : (inS a b c = true) = (0 <= a /\ a <= b /\ b <= c) := by simp [inS, and_assoc]
theorem yub : (inC a b = true) = (0 <= a /\ a <= b) := by simp [inC]
theorem yqk (eb : Nat) : (yso eb a b = true) = (0 <= a /\ a <= b /\ (eb : Int) * b <= 140737488355328 /\ b <= 9223372036854775807) := by simp [yso, and_assoc]
theorem zl2 (eb p q : Nat) : (zco eb p q = true) = ((p + q) * eb <= 140737488355328 /\ p + q <= 9223372036854775807) := by simp [zco]
theorem ynh : (yni l m = true) = (l.length + m.length <= 9223372036854775807) := by simp [yni]
theorem yd0 (x y : Bool) : zgn (.bool x) (.bool y) = (y = x) := by simp [zgn, fits1, zgk, zdt, zcq.add, znr]
theorem yhl (k : IntKind) : zgn (.int k a) (.int k b) = (b = a) := by simp [zgn, fits1, zgk, zdt, zcq.add, znr]
theorem zw7 : zgn (.str l) (.str m) = (m = l) := by simp [zgn, fits1, zgk, zdt, zcq.add, znr]
theorem yhm (k : FloatKind) (a b : Nat) : zgn (.flt k a) (.flt k b) = (b = a) := by simp [zgn, fits1, zgk, zdt, zcq.add, znr]
theorem yd8 (k : FloatKind) (a b : Nat) : fits1 (.flt k a) (.flt k b) = (b = a) := by simp [fits1, zgk, zdt, zcq.add, znr]
theorem yhn (k : FloatKind) (a b c d : Nat) : zgn (.cpx k a b) (.cpx k c d) = (d = b /\ c = a) := by simp [zgn, fits1, zgk, zdt, zcq.add, znr]
theorem yd9 (k : FloatKind) (a b c d : Nat) : fits1 (.cpx k a b) (.cpx k c d) = (d = b /\ c = a) := by simp [fits1, zgk, zdt, zcq.add, znr]
theorem zyo (x y : Bool) : fits1 (.bool x) (.bool y) = (y = x) := by simp [fits1, zgk, zdt, zcq.add, znr]
theorem yd7 (k : IntKind) : fits1 (.int k a) (.int k b) = (b = a) := by simp [fits1, zgk, zdt, zcq.add, znr]
theorem yd6 : fits1 (.str l) (.str m) = (m = l) := by simp [fits1, zgk, zdt, zcq.add, znr]
theorem yhk (x y : List AV) : zgn (.tup x) (.tup y) = zu4 x y := rfl
theorem zyn (x y : AV) (r q : List AV) : zu4 (x :: r) (y :: q) = (fits1 x y /\ zu4 r q) := rfl
theorem yd4 : zu4 [] [] = True := rfl
theorem ykq : slen l = l.length := rfl
theorem yku : ytm l m = l ++ m := rfl
theorem ykk : ytg l a b = (l.take b.toNat).drop a.toNat := rfl
theorem yks : zkv l a = (l.getD a.toNat 0).toNat := rfl
theorem ylw : lenN l = l.length := rfl
theorem yhp (p q r : Nat) : yrd p q r = (p + q <= r) := rfl
theorem ylm (p : Nat) : Nat.add 0 p = p := Nat.zero_add p
theorem ym5 : imin a b = min a b := rfl
theorem ym6 : ysq a b = max a b := rfl
theorem ztm : zbh n = n := rfl
end
theorem yp3 (n : Int) : IntKind.i64.wrap n = (n + 9223372036854775808) % 18446744073709551616 - 9223372036854775808 := by simp [IntKind.wrap, IntKind.bits, IntKind.signed]; omega
theorem yt7 (n : Int) : IntKind.i32.wrap n = (n + 2147483648) % 4294967296 - 2147483648 := by simp [IntKind.wrap, IntKind.bits, IntKind.signed]; omega
theorem yt5 (n : Int) : IntKind.u64.wrap n = n % 18446744073709551616 := by simp [IntKind.wrap, IntKind.bits, IntKind.signed]
theorem yt6 (n : Int) : IntKind.u32.wrap n = n % 4294967296 := by simp [IntKind.wrap, IntKind.bits, IntKind.signed]
theorem yp2 (n : Int) : IntKind.u16.wrap n = n % 65536 := by simp [IntKind.wrap, IntKind.bits, IntKind.signed]
theorem w_u8 (n : Int) : IntKind.u8.wrap n = n % 256 := by simp [IntKind.wrap, IntKind.bits, IntKind.signed]
theorem zr4 (ps q : List Prop) (ids : List (Nat × Option Nat)) (x y : Nat) : zew ⟨ps ++ q, ids⟩ x y = (zew ⟨ps, ids⟩ x y).map fun m => ⟨m.ps ++ q, m.ids⟩ := by
 unfold zew
 dsimp only
 repeat' split
 all_goals rfl
theorem zo5 (ps q : List Prop) (ids : List (Nat × Option Nat)) (x : Nat) : zi7 ⟨ps ++ q, ids⟩ x = (zi7 ⟨ps, ids⟩ x).map fun m => ⟨m.ps ++ q, m.ids⟩ := by
 unfold zi7
 dsimp only
 split <;> first | rfl | (cases za2 ids x <;> rfl)
theorem ygd (ps q : List Prop) (ids : List (Nat × Option Nat)) (x y : AV) : zdt ⟨ps ++ q, ids⟩ x y = (zdt ⟨ps, ids⟩ x y).map fun m => ⟨m.ps ++ q, m.ids⟩ := by
 cases x <;> cases y <;> first
   | rfl
   | (simp only [zdt, zcq.add, zr4, zo5]; done)
   | (simp only [zdt, zcq.add, zr4, zo5]
      (repeat' split) <;> (try simp_all) <;> (try (rename_i hh _; subst hh; simp)) <;> (try (rename_i hh _ _; subst hh; simp)))
theorem zvm : ∀ (xs ys : List AV) (ps q : List Prop) (ids : List (Nat × Option Nat)), zj2 ⟨ps ++ q, ids⟩ xs ys = (zj2 ⟨ps, ids⟩ xs ys).map fun m => ⟨m.ps ++ q, m.ids⟩
 | [], [], ps, q, ids => rfl
 | [], _ :: _, ps, q, ids => rfl
 | _ :: _, [], ps, q, ids => rfl
 | x :: xs, y :: ys, ps, q, ids => by
   unfold zj2
   rw [ygd]
   cases e : zdt ⟨ps, ids⟩ x y with
   | none => rfl
   | some m => exact zvm xs ys m.ps q m.ids
theorem zwo : ∀ (p : List Prop) (q : Prop), znr (p ++ [q]) = (q /\ znr p)
 | [], q => by simp [znr]
 | a :: p, q => by
   show (a /\ znr (p ++ [q])) = (q /\ a /\ znr p)
   rw [zwo p q]
   exact propext ⟨fun ⟨h1, h2, h3⟩ => ⟨h2, h1, h3⟩, fun ⟨h1, h2, h3⟩ => ⟨h2, h1, h3⟩⟩
theorem zcu {x y : AV} {q : Prop} (e : zdt ⟨[], []⟩ x y = some ⟨[q], []⟩) (xs ys : List AV) : fits1 (.agg (x :: xs)) (.agg (y :: ys)) = (q /\ fits1 (.agg xs) (.agg ys)) := by
 unfold fits1 zgk
 simp only [zj2, e]
 have := zvm xs ys [] [q] []
 rw [List.nil_append] at this
 rw [this]
 cases zj2 ⟨[], []⟩ xs ys with
 | none => simp
 | some m =>
   obtain ⟨ps, ids⟩ := m
   cases ids with
   | nil => exact zwo ps q
   | cons a b => simp
theorem zc7 : fits1 (.agg []) (.agg []) = True := rfl
theorem zbt (k : IntKind) (a b : Int) (xs ys : List AV) : fits1 (.agg (.int k a :: xs)) (.agg (.int k b :: ys)) = (b = a /\ fits1 (.agg xs) (.agg ys)) := zcu (by simp [zdt, zcq.add]) _ _
theorem zc6 (a b : List UInt8) (xs ys : List AV) : fits1 (.agg (.str a :: xs)) (.agg (.str b :: ys)) = (b = a /\ fits1 (.agg xs) (.agg ys)) := zcu rfl _ _
theorem zoh (a b : Bool) (xs ys : List AV) : fits1 (.agg (.bool a :: xs)) (.agg (.bool b :: ys)) = (b = a /\ fits1 (.agg xs) (.agg ys)) := zcu rfl _ _
theorem zru (sz n n' : Nat) (g g' : Nat -> Nat -> AV) : fits1 (.lst sz n g) (.lst sz n' g') = (n' = n /\ ∀ i j, i < n -> j < sz -> g' i j = g i j) := by simp [fits1, zgk, zdt, zcq.add, za3, znr]
theorem zq1 (sz n n' : Nat) (g g' : Nat -> Nat -> AV) : zgn (.lst sz n g) (.lst sz n' g') = (n' = n /\ ∀ i j, i < n -> j < sz -> g' i j = g i j) := zru sz n n' g g'
theorem zog (sz n : Nat) (g : Nat -> Nat -> AV) : fits1 (.lst sz n g) .nils = (0 = n) := by simp [fits1, zgk, zdt, zcq.add, znr]
theorem ycz (sz n : Nat) (g : Nat -> Nat -> AV) : zgn (.lst sz n g) .nils = (0 = n) := zog sz n g
theorem zdm (sz n n' : Nat) (g g' : Nat -> Nat -> AV) (xs ys : List AV) : fits1 (.agg (.lst sz n g :: xs)) (.agg (.lst sz n' g' :: ys)) = ((n' = n /\ ∀ i j, i < n -> j < sz -> g' i j = g i j) /\ fits1 (.agg xs) (.agg ys)) := zcu (by simp [zdt, zcq.add, za3]) _ _
theorem zfk (sz n : Nat) (g : Nat -> Nat -> AV) (xs ys : List AV) : fits1 (.agg (.lst sz n g :: xs)) (.agg (.nils :: ys)) = (0 = n /\ fits1 (.agg xs) (.agg ys)) := zcu rfl _ _
theorem zrv (n : Nat) (g g' : Nat -> AV) : fits1 (.arr n g) (.arr n g') = (∀ j, j < n -> g' j = g j) := by simp [fits1, zgk, zdt, zcq.add, za3, znr]
theorem yho (n : Nat) (g g' : Nat -> AV) : zgn (.arr n g) (.arr n g') = (∀ j, j < n -> g' j = g j) := zrv n g g'
theorem yd3 : zgn (.agg []) (.agg []) = True := rfl
theorem zh7 (k : IntKind) (a b : Int) (xs ys : List AV) : zgn (.agg (.int k a :: xs)) (.agg (.int k b :: ys)) = (b = a /\ fits1 (.agg xs) (.agg ys)) := zbt _ _ _ _ _
theorem yd1 (a b : List UInt8) (xs ys : List AV) : zgn (.agg (.str a :: xs)) (.agg (.str b :: ys)) = (b = a /\ fits1 (.agg xs) (.agg ys)) := zc6 _ _ _ _
theorem yd2 (a b : Bool) (xs ys : List AV) : zgn (.agg (.bool a :: xs)) (.agg (.bool b :: ys)) = (b = a /\ fits1 (.agg xs) (.agg ys)) := zoh _ _ _ _
theorem yaa {h : Array Obj} {D : Nat -> Prop} {μ : Mu} {l : List UInt8} {v : Value} (r : R h D μ (.str l) v) : v = .string ⟨l.toArray⟩ := by
 obtain ⟨s, rfl, rfl⟩ := r.inv_str
 simp
theorem yf3 (h : Array Obj) (D : Nat -> Prop) (μ : Mu) (l : List UInt8) : R h D μ (.str l) (.string ⟨l.toArray⟩) := .str l _ (by simp)
theorem zep {P : Program} {f : FuncId} {fn : Func} {c : Code} {xs : List AV} {args : Array Value} {v : Value} {r : AV} (hf : P.funcs[f]? = some fn) (hb : fn.body = some c) (hn : (fn.name == "runtime.NumGoroutine") = false)
   (ha : ∀ h D vs, RL h D zam xs vs -> vs = args) (hv : ∀ h D, R h D zam r v) (h : ∀ w, Calls P f args w fun e w' => e = .returned v /\ Below w.heap.size w w') : za5 P f xs r := by
 intro D w vs hD hxs hg
 have := ha _ _ _ hxs
 subst this
 unfold zeq
 rw [zd5 hf hn hb]
 refine (h w).mono ?_
 rintro e w' ⟨rfl, hw⟩
 exact ⟨v, D, rfl, hw, fun _ h => h, fun b hb => .inl hb, hv _ _⟩
def zsl (x : AV) (v : Value) : Prop := ∀ h D u, R h D zam x u -> u = v
theorem zei (k : IntKind) (n : Int) : zsl (.int k n) (.int k n) := fun _ _ _ r => by cases r; rfl
theorem zeh (l : List UInt8) : zsl (.str l) (.string ⟨l.toArray⟩) := fun _ _ _ r => yaa r
theorem yvd {x : AV} {v : Value} (hx : zsl x v) : ∀ h D vs, RL h D zam [x] vs -> vs = #[v] := by
 intro h D vs ⟨hl, hr⟩
 obtain ⟨a, ha⟩ : ∃ a, vs.toList = [a] := List.length_eq_one_iff.1 (by simpa using hl.symm)
 have : vs = #[a] := by rw [<- Array.toArray_toList (xs := vs), ha]
 subst this
 rw [hx _ _ a (hr 0 x a rfl rfl)]
theorem yeg {x y : AV} {v u : Value} (hx : zsl x v) (hy : zsl y u) : ∀ h D vs, RL h D zam [x, y] vs -> vs = #[v, u] := by
 intro h D vs ⟨hl, hr⟩
 obtain ⟨a, b, ha⟩ : ∃ a b, vs.toList = [a, b] := by
   have hl : vs.toList.length = 2 := by simpa using hl.symm
   match vs.toList, hl with
   | [a, b], _ => exact ⟨a, b, rfl⟩
 have : vs = #[a, b] := by rw [<- Array.toArray_toList (xs := vs), ha]
 subst this
 rw [hx _ _ a (hr 0 x a rfl rfl), hy _ _ b (hr 1 y b rfl rfl)]
abbrev zdq := Nat × (List AV -> Option (Prop × AV))
abbrev zuv := Nat × yvj
def yss (l : List zdq) : FuncId -> List AV -> Option (Prop × AV) := fun f xs => match za2 l f with | some g => g xs | none => none
def zb7 (l : List zdq) : zns := ⟨yss l, fun _ => none⟩
def zf6 (l : List zdq) (lm : List zuv) : zns := ⟨yss l, za2 lm⟩
def zbp (P : Program) (e : zdq) : Prop := ∀ xs p r, e.2 xs = some (p, r) -> p -> za5 P e.1 xs r
def yin (P : Program) : List zdq -> Prop
 | [] => True
 | e :: l => zbp P e /\ yin P l
def zhc (P : Program) (e : zuv) : Prop := ∀ raw ob T, e.2 raw ob = some T -> T.p -> zce P e.1 T.xs T.O T.r T.O1
def yeq (P : Program) : List zuv -> Prop
 | [] => True
 | e :: l => zhc P e /\ yeq P l
theorem zu1 {P : Program} : ∀ {l : List zdq}, yin P l -> ∀ f xs p r, yss l f xs = some (p, r) -> p -> za5 P f xs r
 | [], _, f, xs, p, r, h => by cases h
 | (n, g) :: l, ⟨hg, hl⟩, f, xs, p, r, h => by
   unfold yss za2 at h
   by_cases e : n = f
   · subst e
     rw [za3] at h
     exact hg xs p r h
   · rw [zak e] at h
     exact zu1 hl f xs p r h
theorem yc6 {P : Program} : ∀ {l : List zuv}, yeq P l -> ∀ f m, za2 l f = some m -> ∀ raw ob T, m raw ob = some T -> T.p -> zce P f T.xs T.O T.r T.O1
 | [], _, f, m, h => by cases h
 | (n, g) :: l, ⟨hg, hl⟩, f, m, h => by
   unfold za2 at h
   by_cases e : n = f
   · subst e
     rw [za3] at h
     cases h
     exact hg
   · rw [zak e] at h
     exact yc6 hl f m h
theorem za7 {P : Program} {l : List zdq} (h : yin P l) : zdg P (zb7 l) := ⟨zu1 h, fun f m h => by cases h⟩
theorem zc1 {P : Program} {l : List zdq} {lm : List zuv} (h : yin P l) (hm : yeq P lm) : zdg P (zf6 l lm) := ⟨zu1 h, yc6 hm⟩
theorem law_of_ac {P : Program} {f : FuncId} {fn : Func} {c : Code} {xs : List AV} {vs : Array Value} (hf : P.funcs[f]? = some fn) (hb : fn.body = some c) (hn : (fn.name == "runtime.NumGoroutine") = false)
   (h : za5 P f xs (.bool true)) (D : Nat -> Prop) (w : World) (hD : ∀ b, D b -> b < w.heap.size) (hr : RL w.heap D zam xs vs) (hg : GOk w := by trivial) : Calls P f vs w fun e w' => e = .returned (.bool true) /\ Below w.heap.size w w' := by
 have h := h D w vs hD hr hg
 unfold zeq at h
 rw [zd5 hf hn hb] at h
 refine h.mono ?_
 rintro e w' ⟨v, D', rfl, hw, _, _, r⟩
 cases r
 exact ⟨rfl, hw⟩
theorem rl_nil {h : Array Obj} {D : Nat -> Prop} : RL h D zam [] #[] := ⟨rfl, fun i x v h => by simp at h⟩
theorem rl_of {h : Array Obj} {D : Nat -> Prop} {xs : List AV} {vs : Array Value} {x : AV} {v : Value} (hx : R h D zam x v) (hr : RL h D zam xs ⟨vs.toList⟩) : RL h D zam (x :: xs) ⟨v :: vs.toList⟩ := by
 obtain ⟨h1, h2⟩ := hr
 refine ⟨by simpa using h1, ?_⟩
 intro i y u hy hu
 cases i with
 | zero => simp at hy hu; subst hy hu; exact hx
 | succ i => simp at hy hu; exact h2 i y u hy (by simpa using hu)
theorem zih {p q : Nat} (h : p < q) : zbg p q = true := by rw [zbn]; exact h
theorem zki {p q : Nat} (h : ¬ p < q) : zbg p q = false := by rw [Bool.eq_false_iff, ne_eq, zbn]; exact h
theorem ygk {h : Array Obj} {D : Nat -> Prop} {μ : Mu} {sz n : Nat} {g g' : Nat -> Nat -> AV} {v : Value} (r : R h D μ (.lst sz n g) v) (e : ∀ i j, i < n -> j < sz -> g i j = g' i j) : R h D μ (.lst sz n g') v := by
 cases r with
 | lst0 sz get a cap hn => exact .lst0 _ _ _ _ hn
 | lst sz n get b o cap vs hD hc hv h1 hr => exact .lst _ _ _ b o cap vs hD hc hv h1 (fun i j hi hj => by rw [<- e i j hi hj]; exact hr i j hi hj)
set_option linter.defProp false in
def sySet := And.intro @yuc (And.intro @yud (And.intro @yue (And.intro @yuf (And.intro @yuh (And.intro @yui (And.intro @yu8 (And.intro @yu9 (And.intro @ytk (And.intro @ytl (And.intro @ym3 (And.intro @yua (And.intro @yub (And.intro @yqk (And.intro @zl2 (And.intro @ynh (And.intro @yd0 (And.intro @yhl (And.intro @zw7 (And.intro @zyo (And.intro @yd7 (And.intro @yd6 (And.intro @yhk (And.intro @zyn (And.intro @yd4 (And.intro @ykq (And.intro @yku (And.intro @ykk (And.intro @yks (And.intro @ztm (And.intro @ym5 (And.intro @ym6 (And.intro @Bool.not_eq_true' (And.intro @Bool.not_eq_false' (And.intro @Bool.and_eq_true (And.intro @Bool.and_eq_false_imp (And.intro @Bool.or_eq_true (And.intro @Bool.or_eq_false_iff (And.intro @Bool.not_true (And.intro @Bool.not_false (And.intro @yp3 (And.intro @yt7 (And.intro @yt5 (And.intro @yt6 (And.intro @yp2 (And.intro @w_u8 (And.intro @Int.zero_add (And.intro @ylw (And.intro @yhp (And.intro @ylm (And.intro @zc7 (And.intro @zbt (And.intro @zc6 (And.intro @zoh (And.intro @yd3 (And.intro @zh7 (And.intro @yd1 (And.intro @yd2 (And.intro @zru (And.intro @zq1 (And.intro @zog (And.intro @ycz (And.intro @zdm (And.intro @zfk (And.intro @zrv (And.intro @yho (And.intro @yhm (And.intro @yd8 (And.intro @yhn @yd9))))))))))))))))))))))))))))))))))))))))))))))))))))))))))))))))))))
set_option linter.defProp false in
def syB := And.intro @Decidable.not_not (And.intro @true_and (And.intro @and_true (And.intro @decide_eq_true_eq (And.intro @decide_eq_false_iff_not (And.intro @imp_false (And.intro not_false_eq_true (And.intro not_true_eq_false (And.intro @false_imp_iff (And.intro @true_imp_iff (And.intro @forall_const.{0} (And.intro @forall_const.{1} (And.intro @implies_true.{0} (And.intro @implies_true.{1} (And.intro @ne_eq.{1} (And.intro @Int.cast_ofNat_Int (And.intro @Int.toNat_natCast (And.intro @Nat.succ_eq_add_one (And.intro @Nat.le_eq (And.intro @Nat.sub_eq (And.intro @yse.eq_1 (And.intro @yt2.eq_1 (@wmul.eq_1))))))))))))))))))))))
set_option linter.defProp false in
def syS := And.intro sySet syB
end Sy
end Go.Proofs.YtfonekpmkdkgnaaGreatDoor
namespace Go.Proofs.YtfonekpmkdkgnaaGreatDoor
namespace Sy
open Go Go.RowKit
set_option linter.unusedSimpArgs false
set_option linter.unusedVariables false
set_option linter.unusedSectionVars false
def ytr : List (Nat × Ob) -> List Nat
 | [] => []
 | (n, _) :: r => match zcy n with | true => n :: ytr r | false => ytr r
def zks (O1 : List (Nat × Ob)) : List (Nat × Ob) -> Bool
 | [] => true
 | (n, .tab _ _ _ _ _) :: r => match za2 O1 n with
   | some (.tab _ _ _ _ _) => match zbg n zcn, zcy n with | true, false => zks O1 r | _, _ => false
   | _ => false
 | (n, _) :: r => match zcy n with | true => zks O1 r | false => false
def ztz (L : za9) (ice : List Nat) : Nat -> List AV -> List (Nat × Ob) -> Option (List AV × List (Nat × Ob))
 | _, [], O => some ([], O)
 | d, .slc id sz off n cap :: r, O => match za2 O id, zbo ice id, za2 O d, zcy d || zax d with
   | some (.row ty sz' _ get), false, none, false => match cond (zbg 0 sz) (za8 sz sz') false with
     | true => match ztz L ice (d + 1) r ((d, .row ty sz (L2 L Nat.add off n) get) :: (id, .gone) :: O) with
       | some (vs, O') => some (.sl d sz off n :: vs, O')
       | none => none
     | false => none
   | _, _, _, _ => none
 | d, v :: r, O => match ztz L ice d r O with
   | some (vs, O') => some (v :: vs, O')
   | none => none
section
variable (T : TT) (L : za9) (S : zns) (lo lb : Nat -> St -> Option Ann)
def yro (rts : List AV) (O1 : List (Nat × Ob)) (rs : List ResultVar) (s : St) : zcf :=
 match ybh T s rs with
 | some vs => match za8 (ze1 vs) (ze1 rts) with
   | true => match ztz L s.ice 600010 vs s.objs with
     | some (vs, O) => zy2 ⟨zxw 0 vs, O, s.ice, []⟩ ⟨zxw 0 rts, O1, [], []⟩ (ytr O1) .yes
     | none => .fail 265
   | false => .fail 263
 | none => .fail 264
def finM (rts : List AV) (O1 : List (Nat × Ob)) (rs : List ResultVar) : K := fun e s => match e with
 | .normal => yro T L rts O1 rs s
 | .ret => yro T L rts O1 rs s
 | _ => .fail 262
def ytn (n : Nat) (f : Func) (xs : List AV) (O : List (Nat × Ob)) (rts : List AV) (O1 : List (Nat × Ob)) : zcf :=
 match f.body with
 | some c => run T L S lo (znx lb (pass T L S lo lb n)) noL c ⟨zxw 0 xs, O, [], []⟩ (finM T L rts O1 f.results.toList)
 | none => .fail 270
end
def ybi : List AV -> AV
 | [r] => r
 | rs => .tup rs
theorem zhv {O1 : List (Nat × Ob)} : ∀ {O : List (Nat × Ob)}, zks O1 O = true -> ∀ n o, za2 O n = some o -> (zcy n = true /\ zar o = false) \/ (zar o = true /\ n < zcn /\ zcy n = false /\ ∃ o1, za2 O1 n = some o1 /\ zar o1 = true)
 | [], _, n, o, h => by simp [za2] at h
 | (m, o') :: r, e, n, o, h => by
   unfold zks at e
   unfold za2 at h
   split at e
   · rename_i q; cases q
   · rename_i q; cases q
     split at e
     · rename_i h1
       split at e
       · rename_i h2 h3
         split at h
         · rename_i hb
           have := za1 hb; subst this
           cases h
           exact .inr ⟨rfl, zas h2, h3, _, h1, rfl⟩
         · exact zhv e n o h
       · cases e
     · cases e
   · rename_i hno q; cases q
     split at e
     · rename_i hp
       split at h
       · rename_i hb
         cases h
         refine .inl ⟨by rw [<- za1 hb]; exact hp, ?_⟩
         cases o' <;> first | exact (hno _ _ _ _ _ rfl).elim | rfl
       · exact zhv e n o h
     · cases e
theorem zsg {O O1 : List (Nat × Ob)} (e : zks O1 O = true) : zik (za2 O) := fun n o h => by
 rcases zhv e n o h with ⟨h1, h2⟩ | ⟨h1, h2, h3, _⟩
 · refine ⟨Nat.lt_of_lt_of_le (Nat.lt_of_not_le fun q => ?_) zqa, fun q => by rw [h2] at q; cases q⟩
   rw [zj6 q] at h1; cases h1
 · exact ⟨h2, fun _ => h3⟩
section
variable {P : Program} {T : TT} {base : Nat} {M : Two} {W : World} {nt : Nat} {f : Nat -> Option AV} {g : Nat -> Option Ob} {c : Nat -> Bool} {a : Act} {w : World} {D : Nat -> Prop} {μ : Mu} {o : Oper}
theorem Sim.rename (h : Sim base M W nt f g c a w D μ) {d id b z m k ty sz : Nat} {get get' : Nat -> Nat -> AV} (hp : zcy d = false) (hdb : d < zcn) (hd : g d = none) (hμ : μ id = some (some (b, z, m))) (hg : g id = some (.row ty sz m get)) (hc : c id = false)
   (hz : k * sz <= z) (hs : 0 < sz) (hget : ∀ i j, i < k -> j < sz -> (i < m /\ get' i j = get i j) \/ get' i j = .dead) :
   Sim base M W nt f (zbe g [(d, .row ty sz k get'), (id, .gone)]) c a w D (fun i => if i = d then some (some (b, z, k)) else μ i) := by
 have hdid : d ≠ id := by rintro rfl; rw [hd] at hg; cases hg
 obtain ⟨_, C, tt, fr, hh, hcs, hf, hle, hrow⟩ := h.obs id _ _ hg hμ
 obtain ⟨hblt, hbb⟩ := h.own id b _ hμ
 have hnD := (h.kd id b _ _ hμ hg (by simp)).2 hc
 have hfree := h.goneFree hμ hg (by simp)
 have hgone := h.gone hg
 have hd2 : zbe g [(id, .gone)] d = none := by simp [zbe, za2, zak (fun x => hdid x.symm : ¬ id = d), hd]
 have had := hgone.adopt (d := d) hp hd2 hdb (b := b) (z := z) (m := k) hblt hbb hnD hfree (ob := .row ty sz k get') (by simp) C (fun hD => by
   rw [setRow_self w b C tt fr hh]
   refine ⟨rfl, C, tt, fr, hh, hcs, hf, hz, fun i j hi hj => ?_⟩
   have hlt : i * sz + j < C.size := by
     have h3 : (i + 1) * sz <= k * sz := Nat.mul_le_mul_right _ hi
     rw [Nat.add_mul] at h3
     omega
   rcases hget i j hi hj with ⟨him, e⟩ | e
   · rw [e]; exact hrow i j him hj
   · rw [e]
     exact ⟨_, getD_some hlt, hf.2.2.1 _ _ (getD_some hlt), .dead _⟩)
 rw [setRow_self w b C tt fr hh] at had
 have e2 : zbe (zbe g [(id, .gone)]) [(d, .row ty sz k get')] = zbe g [(d, .row ty sz k get'), (id, .gone)] := by
   funext q
   simp only [zbe, za2]
   by_cases k1 : d = q
   · subst k1; simp [za3]
   · by_cases k2 : id = q
     · subst k2; simp [za3, zak hdid]
     · simp [zak k1, zak k2]
 rw [e2] at had
 exact had
theorem Sim.renameNil (h : Sim base M W nt f g c a w D μ) {d id m ty sz : Nat} {get get' : Nat -> Nat -> AV} (hp : zcy d = false) (hdb : d < zcn) (hd : g d = none) (hμ : μ id = some none) (hg : g id = some (.row ty sz m get)) :
   Sim base M W nt f (zbe g [(d, .row ty sz 0 get'), (id, .gone)]) c a w D (fun i => if i = d then some none else μ i) := by
 have hdid : d ≠ id := by rintro rfl; rw [hd] at hg; cases hg
 have hgone := h.gone hg
 have hd2 : zbe g [(id, .gone)] d = none := by simp [zbe, za2, zak (fun x => hdid x.symm : ¬ id = d), hd]
 have had := hgone.newNil (d := d) hp hd2 ty sz get' hdb
 have e2 : zbe (zbe g [(id, .gone)]) [(d, .row ty sz 0 get')] = zbe g [(d, .row ty sz 0 get'), (id, .gone)] := by
   funext q
   simp only [zbe, za2]
   by_cases k1 : d = q
   · subst k1; simp [za3]
   · by_cases k2 : id = q
     · subst k2; simp [za3, zak hdid]
     · simp [zak k1, zak k2]
 rw [e2] at had
 exact had
theorem ydd {d : Nat} {y : Option (Nat × Nat × Nat)} (hd : μ d = none) : ∀ i x, μ i = some x -> (if i = d then some y else μ i) = some x := by
 intro i x hx
 have : i ≠ d := by rintro rfl; rw [hd] at hx; cases hx
 rw [if_neg this, hx]
theorem yve (O : List (Nat × Ob)) (p : Nat × Ob) (q : Nat × Ob) : za2 (p :: q :: O) = zbe (za2 O) [p, q] := by
 funext i
 obtain ⟨p, x⟩ := p
 obtain ⟨q, y⟩ := q
 simp only [zbe, za2]
 cases za8 p i with
 | true => rfl
 | false => cases za8 q i <;> rfl
theorem yuk (h : Sim base M W nt f g c a w D μ) {d id ty sz m off n cap : Nat} {get : Nat -> Nat -> AV} {v : Value} (hp : zcy d = false) (hdb : d < zcn) (hd : g d = none) (hg : g id = some (.row ty sz m get)) (hc : c id = false) (hs : 0 < sz) (r : R w.heap D μ (.slc id sz off n cap) v) :
   ∃ μ', Sim base M W nt f (zbe g [(d, .row ty sz (off + n) get), (id, .gone)]) c a w D μ' /\ (∀ i y, μ i = some y -> μ' i = some y) /\ R w.heap D μ' (.sl d sz off n) v := by
 have hmd : μ d = none := (h.domx d).2 (by rw [zah (zb6.2 hdb)]; exact hd)
 cases r with
 | slcv _ _ ad hm =>
   exact ⟨_, h.renameNil hp hdb hd hm hg, ydd hmd, .slv _ _ _ (by simp)⟩
 | slc0 _ _ _ b z mm o hm ho =>
   have hmm := (h.obs id _ _ hg hm).1
   subst hmm
   obtain ⟨_, C, tt, fr, hh, hcs, hf, hle, hrow⟩ := h.obs id _ _ hg hm
   exact ⟨_, h.rename (k := off + 0) (get' := get) hp hdb hd hm hg hc (Nat.le_trans (Nat.mul_le_mul_right _ ho) hle) hs (fun i j hi hj => .inl ⟨by omega, rfl⟩), ydd hmd, .sl0 _ _ _ b z off o (by simp) (by omega)⟩
 | slc _ _ _ _ _ b z mm hm hn hz ho =>
   have hmm := (h.obs id _ _ hg hm).1
   subst hmm
   exact ⟨_, h.rename (k := off + n) (get' := get) hp hdb hd hm hg hc (Nat.le_trans (Nat.mul_le_mul_right _ (by omega)) hz) hs (fun i j hi hj => .inl ⟨by omega, rfl⟩), ydd hmd, .sl _ _ _ _ b z (off + n) cap (by simp) hn hz (by omega)⟩
theorem zpy {ice : List Nat} : ∀ (vs : List AV) (d : Nat) (O : List (Nat × Ob)) (vs' : List AV) (O' : List (Nat × Ob)) (us : Nat -> Value) {μ : Mu}, ztz std ice d vs O = some (vs', O') -> Sim base M W nt f (za2 O) (zbo ice) a w D μ -> (∀ t v, vs[t]? = some v -> R w.heap D μ v (us t)) ->
   ∃ μ', Sim base M W nt f (za2 O') (zbo ice) a w D μ' /\ vs'.length = vs.length /\ (∀ i y, μ i = some y -> μ' i = some y) /\ ∀ t v, vs'[t]? = some v -> R w.heap D μ' v (us t)
 | [], d, O, vs', O', us, μ, e, h, hr => by cases e; exact ⟨μ, h, rfl, fun _ _ h => h, hr⟩
 | x :: r, d, O, vs', O', us, μ, e, h, hr => by
   have plain : ∀ vs1, ztz std ice d r O = some (vs1, O') -> vs' = x :: vs1 -> ∃ μ', Sim base M W nt f (za2 O') (zbo ice) a w D μ' /\ vs'.length = (x :: r).length /\ (∀ i y, μ i = some y -> μ' i = some y) /\ ∀ t v, vs'[t]? = some v -> R w.heap D μ' v (us t) := by
     rintro vs1 e1 rfl
     obtain ⟨μ2, k1, k2, k3, k4⟩ := zpy r d O vs1 O' (fun t => us (t + 1)) e1 h (fun t v hv => hr (t + 1) v hv)
     refine ⟨μ2, k1, by simp [k2], k3, fun t v hv => ?_⟩
     cases t with
     | zero => cases hv; exact (hr 0 _ rfl).mono (fun _ _ => rfl) (fun _ h => h) k3
     | succ t => exact k4 t v hv
   by_cases hx : ∃ id sz off n cap, x = .slc id sz off n cap
   · obtain ⟨id, sz, off, n, cap, rfl⟩ := hx
     simp only [ztz] at e
     split at e
     · rename_i ty sz' m get hg hc hd hp
       split at e
       · rename_i hsz
         have hs : zbg 0 sz = true := by cases hq : zbg 0 sz <;> simp_all
         rw [hs] at hsz
         obtain rfl := za1 hsz
         split at e
         · rename_i vs1 O1 e1
           cases e
           rw [Bool.or_eq_false_iff] at hp
           obtain ⟨μ1, h1, h2, h3⟩ := yuk h hp.1 (zb6.1 hp.2) hd hg hc (zas hs) (hr 0 _ rfl)
           rw [<- yve] at h1
           obtain ⟨μ2, k1, k2, k3, k4⟩ := zpy r (d + 1) _ vs1 _ (fun t => us (t + 1)) e1 h1 (fun t v hv => (hr (t + 1) v hv).mono (fun _ _ => rfl) (fun _ h => h) h2)
           refine ⟨μ2, k1, by simp [k2], fun i y hy => k3 i y (h2 i y hy), fun t v hv => ?_⟩
           cases t with
           | zero => cases hv; exact h3.mono (fun _ _ => rfl) (fun _ h => h) k3
           | succ t => exact k4 t v hv
         · cases e
       · cases e
     · cases e
   · have e' : (match ztz std ice d r O with | some (vs, O') => some (x :: vs, O') | none => none) = some (vs', O') := by
       cases x <;> first | exact e | exact absurd ⟨_, _, _, _, _, rfl⟩ hx
     split at e'
     · rename_i vs1 O1 e1
       cases e'
       exact plain vs1 e1 rfl
     · cases e'
end
theorem zy5 {P : Program} {T : TT} {Q : AV -> Prop} {fn : Func} {O O1 : List (Nat × Ob)} {rts : List AV} {D : Nat -> Prop} {w : World} {μ : Mu} (hT : zbw P T) (hD : ∀ b, D b -> b < w.heap.size) (hdom : ∀ n, μ n = none ↔ gx (za2 O) n = none) (hobs : ∀ n o x, gx (za2 O) n = some o -> μ n = some x -> ze6 w.heap D μ o x)
   (hown : ∀ n b z, μ n = some (some (b, z)) -> b < w.heap.size /\ ¬ D b) (hrb : fn.results.size <= 500000) (hpin : zks O1 O = true) {nt : Nat} {s : St} {a : Act} {w' : World} {D1 : Nat -> Prop} {μ1 : Mu}
   (S1 : Sim w.heap.size ⟨fun b => ∃ n z, μ n = some (some (b, z)), D, fun n => (μ n).getD none, μ⟩ w nt (za2 s.slots) (za2 s.objs) (zbo s.ice) a w' D1 μ1)
   (h' : Sat P Q (yro T std rts O1 fn.results.toList s)) : a.defers = [] /\ ∃ v, (results fn a.tmps).run P w' = .ok v w' /\ ∃ v' D' μ', ysb D w μ O O1 (ybi rts) (Ending.returned v) v' w' D' μ' := by
 unfold yro at h'
 split at h'
 · rename_i vs1 hvs
   split at h'
   · rename_i hlen
     have hlen := za1 hlen
     rw [zai, zai] at hlen
     obtain ⟨l1, us, h1, h2⟩ := zt2 S1 hT hvs
     split at h'
     rotate_left
     · cases h'
     rename_i vs2 O2 hhide
     obtain ⟨μ3, S3, l3, _, h4⟩ := zpy vs1 600010 s.objs vs2 O2 us hhide S1 h2
     have l1 : vs2.length = fn.results.toList.length := l3.trans l1
     have hlen : vs2.length = rts.length := l3.trans hlen
     clear h2
     have h2 := h4
     have hres := zly (P := P) (w := w') (fn := fn) (tmps := a.tmps) h1
     have hk : vs2.length = fn.results.size := by rw [l1, Array.length_toList]
     have hut : ∀ t, t < fn.results.size -> (((List.range fn.results.size).map us).toArray).getD t undef = us t := by
       intro t ht
       rw [Array.getD_eq_getD_getElem?]
       simp [ht]
     have hs1 : zn5 w.heap.size ⟨fun b => ∃ n z, μ n = some (some (b, z)), D, fun n => (μ n).getD none, μ⟩ w fn.results.size ⟨zxw 0 vs2, O2, s.ice, []⟩ ⟨((List.range fn.results.size).map us).toArray, []⟩ w' :=
       ⟨⟨D1, μ3, {
         os := S1.os, tape := S1.tape, output := S1.output, size := S1.size, bs := S1.bs, old := S1.old, defers := rfl
         tmps := by simp
         slots := fun t v hv => by
           have hv : za2 (zxw 0 vs2) t = some v := hv
           rw [zfo, if_pos (by omega), Nat.sub_zero] at hv
           have ht := (List.getElem?_eq_some_iff.1 hv).1
           rw [hut t (by omega)]
           exact h2 t v hv
         dlt := S3.dlt, low := S3.low, domx := S3.domx, obsx := S3.obsx, injx := S3.injx, own := S3.own, kdx := S3.kdx, icyx := S3.icyx, tbs := S3.tbs, icm := S3.icm, mems := S3.mems, ntb := hrb, pin := S3.pin, gl := S3.gl }⟩, fun t b ht => by simp [za2] at ht⟩
     obtain ⟨⟨⟨D2, μ2, S2⟩, _⟩, _⟩ := ycb hs1 h' rfl
     have live : ∀ n o, gx (za2 O1) n = some o -> o ≠ .gone := fun n o ho => by
       by_cases hm : zax n = true
       · rw [zfj _ hm] at ho
         rintro rfl
         unfold zet at ho
         split at ho
         · split at ho <;> cases ho
         · cases ho
       · rw [zah (by simpa using hm)] at ho
         exact yca hs1 h' n o ho
     refine ⟨S1.defers, _, hres, (if fn.results.size = 1 then us 0 else .tuple ((List.range fn.results.size).map us).toArray), fun b => D b \/ D2 b, μ2, ?_⟩
     exact {
       ret := rfl, os := S2.os, tape := S2.tape, output := S2.output, size := S2.size
       old := fun b h1 h2 => S2.old b h1 fun ⟨n, z, hn⟩ => h2 n z hn
       up := fun b hb => .inl hb
       dn := fun b hb => by
         rcases hb with hb | hb
         · exact .inl hb
         · by_cases hlt : b < w.heap.size
           · rcases S2.low b hb hlt with q | q
             · exact .inl q
             · exact .inr (.inr q)
           · exact .inr (.inl ⟨by omega, S2.dlt b hb⟩)
       dom := S2.domx
       obs := fun n o x ho hx => (S2.obsx n o x ho hx).mono (fun _ _ => rfl) (fun _ h => .inr h) (fun _ _ h => h) (fun _ _ _ _ => rfl)
       inj := fun n n' b z z' h1 h2 => by
         have g1 : gx (za2 O1) n ≠ none := fun e => by rw [(S2.domx n).2 e] at h1; cases h1
         have g2 : gx (za2 O1) n' ≠ none := fun e => by rw [(S2.domx n').2 e] at h2; cases h2
         obtain ⟨o1, q1⟩ := Option.ne_none_iff_exists'.1 g1
         obtain ⟨o2, q2⟩ := Option.ne_none_iff_exists'.1 g2
         exact S2.injx n n' b z z' o1 o2 h1 h2 q1 q2 (live n o1 q1) (live n' o2 q2)
       own := fun n b z h1 => by
         have g1 : gx (za2 O1) n ≠ none := fun e => by rw [(S2.domx n).2 e] at h1; cases h1
         obtain ⟨o1, q1⟩ := Option.ne_none_iff_exists'.1 g1
         have k := (S2.kdx n b z o1 h1 q1 (live n o1 q1)).2 rfl
         obtain ⟨p1, p2⟩ := S2.own n b z h1
         refine ⟨p1, ?_, ?_⟩
         · rintro (hb | hb)
           · rcases p2 with p2 | ⟨m, z2, p2⟩
             · have := hD b hb; omega
             · exact (hown m b z2 p2).2 hb
           · exact k hb
         · rcases p2 with p2 | ⟨m, z2, p2⟩
           · exact .inl p2
           · exact .inr ⟨m, z2, p2⟩
       keep := fun n hn hn1 => by
         obtain ⟨y, hy⟩ := Option.ne_none_iff_exists'.1 (fun e => hn1 ((S2.domx n).1 e) : μ2 n ≠ none)
         have h3 : μ n ≠ none := fun e => hn ((hdom n).1 e)
         obtain ⟨y0, hy0⟩ := Option.ne_none_iff_exists'.1 h3
         by_cases hm : zax n = true
         · have h4 := S2.mems n y0 hm hy0
           rw [hy0]; exact h4
         · have hO := zah (g := za2 O) (by simpa using hm : zax n = false)
           have hO1 := zah (g := za2 O1) (by simpa using hm : zax n = false)
           obtain ⟨o, ho⟩ := Option.ne_none_iff_exists'.1 (hO ▸ hn)
           rcases zhv hpin n o ho with ⟨hp, _⟩ | ⟨ht, _, _, o1, ho1, ht1⟩
           · have := S2.pin n y hp hy
             have h4 : y = (μ n).getD none := this
             rw [hy0] at h4
             rw [hy, hy0, h4]; rfl
           · have k1 := hobs n o y0 (hO.trans ho) hy0
             have k2 := S2.obsx n o1 y (hO1.trans ho1) hy
             rw [hy, hy0]
             cases o <;> first | cases ht | skip
             cases o1 <;> first | cases ht1 | skip
             cases y0 with
             | some _ => exact k1.elim
             | none => cases y with
               | some _ => exact k2.elim
               | none => rfl
       val := by
         have each : ∀ (i : Nat) r, rts[i]? = some r -> R w'.heap (fun b => D b \/ D2 b) μ2 r (us i) := by
           intro i r hr
           have hlt : i < fn.results.size := by
             have := (List.getElem?_eq_some_iff.1 hr).1
             omega
           have := S2.slots i r (by show za2 (zxw 0 rts) i = some r; rw [zfo, if_pos (by omega), Nat.sub_zero]; exact hr)
           have h3 := hut i hlt
           have this : R w'.heap D2 μ2 r ((((List.range fn.results.size).map us).toArray).getD i undef) := this
           rw [h3] at this
           exact this.mono (fun _ _ => rfl) (fun _ h => .inr h) (fun _ _ h => h)
         unfold ybi
         split
         · rename_i r
           have hsz : fn.results.size = 1 := by rw [<- hk, hlen]; rfl
           rw [if_pos hsz]
           exact each 0 _ rfl
         · rename_i hne
           have hsz : ¬ fn.results.size = 1 := by
             rw [<- hk, hlen]
             intro h1
             obtain ⟨v, hv⟩ := List.length_eq_one_iff.1 h1
             exact hne v hv
           rw [if_neg hsz]
           refine .tup _ _ (by simp; omega) fun i v x hv hx => ?_
           have hlt : i < fn.results.size := by
             have := (List.getElem?_eq_some_iff.1 hv).1
             omega
           simp [hlt] at hx
           subst hx
           exact each i v hv }
   · cases h'
 · cases h'
theorem ycd {P : Program} {T : TT} {S : zns} {lo lb : Nat -> St -> Option Ann} {n : Nat} {f : FuncId} {fn : Func} {c : Code} {xs : List AV} {O : List (Nat × Ob)} {rts : List AV} {O1 : List (Nat × Ob)} (hf : P.funcs[f]? = some fn) (hb : fn.body = some c) (hn : (fn.name == "runtime.NumGoroutine") = false)
   (hc : zbx fn.ntmps c = true) (hx : (zbm xs.length fn.ntmps && zbm fn.ntmps 500000 && zbm fn.results.size 500000 && zks O1 O) = true) (hT : zbw P T) (hS : zdg P S) (hm : P.follows .mixedOrders = true) {Q : AV -> Prop} (h : Sat P Q (ytn T std S lo lb n fn xs O rts O1)) : zce P f xs O (ybi rts) O1 := by
 intro D w μ vs hD hxs hdom hobs hinj hown hg hgb
 rw [Bool.and_eq_true, Bool.and_eq_true, Bool.and_eq_true] at hx
 obtain ⟨⟨⟨hx, hnb⟩, hrb⟩, hpin⟩ := hx
 have hx := zb3 hx
 have hnb := zb3 hnb
 have hrb := zb3 hrb
 unfold zeq
 rw [zd5 hf hn hb]
 simp only
 refine calls_of_wp hf hb ?_
 unfold ytn at h
 rw [hb] at h
 refine ydp (base := w.heap.size) (M := ⟨fun b => ∃ n z, μ n = some (some (b, z)), D, fun n => (μ n).getD none, μ⟩) (W := w) hT hS hm hc ⟨⟨D, μ, ?_⟩, fun t b ht => by simp [za2] at ht⟩ h (fun e s a w' hs h' => ?_)
 · exact {
     os := rfl, tape := rfl, output := rfl, size := Nat.le_refl _, bs := Nat.le_refl _, old := fun _ _ _ => rfl, defers := rfl
     tmps := by
       rw [hxs.1] at hx
       simp; omega
     slots := fun t v hv => by
       have hv : za2 (zxw 0 xs) t = some v := hv
       rw [zfo, if_pos (by omega), Nat.sub_zero] at hv
       have hlt : t < vs.size := by rw [<- hxs.1]; exact (List.getElem?_eq_some_iff.1 hv).1
       have h1 : vs[t]? = some vs[t] := by simp [hlt]
       have h2 : (vs ++ Array.replicate (fn.ntmps - vs.size) undef).getD t undef = vs[t] := by
         rw [Array.getD_eq_getD_getElem?, Array.getElem?_append_left hlt, h1]; rfl
       rw [h2]
       exact hxs.2 t v vs[t] hv h1
     dlt := hD, low := fun b hb _ => .inl hb, domx := hdom, obsx := hobs
     tbs := zsg hpin, icm := fun _ _ => rfl, mems := fun _ _ _ h => h
     injx := fun id id' b z z' o o' h1 h2 _ _ _ _ => hinj id id' b z z' h1 h2
     own := fun id b z h1 => ⟨(hown id b z h1).1, .inr ⟨id, z, h1⟩⟩
     kdx := fun id b z o h1 _ _ => ⟨fun hx => by simp [zbo] at hx, fun _ => (hown id b z h1).2⟩
     icyx := fun id h => by simp [zbo] at h
     ntb := hnb
     pin := fun id y _ hy => by show y = (μ id).getD none; rw [hy]; rfl
     gl := ⟨hg, zwt hg, fun b ⟨n, z, hn⟩ => hgb n b z hn⟩ }
 · obtain ⟨⟨D1, μ1, S1⟩, _⟩ := hs
   have key : Sat P Q (yro T std rts O1 fn.results.toList s) -> a.defers = [] /\ ∃ v, (results fn a.tmps).run P w' = .ok v w' /\ ∃ v' D' μ', ysb D w μ O O1 (ybi rts) (Ending.returned v) v' w' D' μ' := fun h' => zy5 hT hD hdom hobs hown hrb hpin S1 h'
   cases e with
   | normal => exact key h'
   | ret => exact key h'
   | exit id => cases h'
   | goto l => cases h'
end Sy
end Go.Proofs.YtfonekpmkdkgnaaGreatDoor
namespace Go.Proofs.YtfonekpmkdkgnaaGreatDoor
namespace Sy
open Go Go.RowKit
set_option maxRecDepth 100000
set_option linter.unusedSimpArgs false
section
variable {P : Program} {Q : AV -> Prop}
theorem yfg {b : Bool} {k : zcf} : Sat P Q (.need b k) ↔ b = true /\ Sat P Q k := ⟨fun h => by cases h with | need h hk => exact ⟨h, hk⟩, fun h => .need h.1 h.2⟩
theorem yfh {p : Prop} {k : zcf} : Sat P Q (.must p k) ↔ p /\ Sat P Q k := ⟨fun h => by cases h with | must h hk => exact ⟨h, hk⟩, fun h => .must h.1 h.2⟩
theorem ykz {b : Bool} {t e : zcf} : Sat P Q (.ite b t e) ↔ (b = true -> Sat P Q t) /\ (b = false -> Sat P Q e) := ⟨fun h => by cases h with | ite h hk => exact ⟨h, hk⟩, fun h => .ite h.1 h.2⟩
theorem yfj {r : AV} : Sat P Q (.done r) ↔ Q r := ⟨fun h => by cases h with | done h => exact h, fun h => .done h⟩
theorem ykx : Sat P Q .yes ↔ True := ⟨fun _ => trivial, fun _ => .yes⟩
theorem ypi {X : Type} {f : X -> zcf} : Sat P Q (.ex X f) ↔ ∃ x, Sat P Q (f x) := ⟨fun h => by cases h with | ex x h => exact ⟨x, h⟩, fun ⟨x, h⟩ => .ex x h⟩
theorem yl1 {X : Type} {f : X -> zcf} : Sat P Q (.all X f) ↔ ∀ x, Sat P Q (f x) := ⟨fun h => by cases h with | all h => exact h, fun h => .all h⟩
theorem yky {p : Prop} {k : zcf} : Sat P Q (.sup p k) ↔ (p -> Sat P Q k) := ⟨fun h => by cases h with | sup h => exact h, fun h => .sup h⟩
theorem yl0 {a b : zcf} : Sat P Q (.and a b) ↔ Sat P Q a /\ Sat P Q b := ⟨fun h => by cases h with | and h hk => exact ⟨h, hk⟩, fun h => .and h.1 h.2⟩
theorem yfi {n : Nat} : Sat P Q (.fail n) ↔ False := ⟨fun h => (by cases h), fun h => h.elim⟩
set_option linter.defProp false in
def syT := And.intro @yfg (And.intro @yfh (And.intro @ykz (And.intro @yfj (And.intro @ykx (And.intro @ypi (And.intro @yl1 (And.intro @yky (And.intro @yl0 (@yfi)))))))))
end
theorem zaw {P : Program} {T : TT} {S : za9 -> zns} {lo lb : za9 -> Nat -> St -> Option Ann} (n : Nat) {f : FuncId} {fn : Func} {c : Code} {xs : List AV} {r : AV} (hf : P.funcs[f]? = some fn) (hb : fn.body = some c) (hn : (fn.name == "runtime.NumGoroutine") = false)
   (hc : zbx fn.ntmps c = true) (hx : (zbm xs.length fn.ntmps && zbm fn.ntmps 500000) = true) (hT : zbw P T) (hS : zdg P (S std)) (hm : P.follows .mixedOrders = true)
   (h : ∀ (L : za9) (P' : Program) (Q' : AV -> Prop), @L = @std -> P' = P -> Q' = zgn r -> Sat P' Q' (yto T L (S L) (lo L) (lb L) n fn xs)) : za5 P f xs r :=
 zsk (lo := lo std) (lb := lb std) hf hb hn hc hx hT hS hm (h std _ _ rfl rfl rfl)
theorem yel {P : Program} {T : TT} {S : za9 -> zns} {lo lb : za9 -> Nat -> St -> Option Ann} (n : Nat) {f : FuncId} {fn : Func} {c : Code} {xs : za9 -> List AV} {r : AV} (O : List (Nat × Ob)) (hO : zoi O = true) (hf : P.funcs[f]? = some fn) (hb : fn.body = some c) (hn : (fn.name == "runtime.NumGoroutine") = false)
   (hc : zbx fn.ntmps c = true) (hx : (zbm (xs std).length fn.ntmps && zbm fn.ntmps 500000) = true) (hT : zbw P T) (hS : zdg P (S std)) (hm : P.follows .mixedOrders = true)
   (h : ∀ (L : za9) (P' : Program) (Q' : AV -> Prop), @L = @std -> P' = P -> Q' = zgn r -> Sat P' Q' (yfl T L (S L) (lo L) (lb L) n fn (xs L) O)) : za5 P f (xs std) r :=
 zoo (lo := lo std) (lb := lb std) hO hf hb hn hc hx hT hS hm (h std _ _ rfl rfl rfl)
theorem za4 {P : Program} {T : TT} {S : za9 -> zns} {lo lb : za9 -> Nat -> St -> Option Ann} (n : Nat) {f : FuncId} {fn : Func} {c : Code} {xs : za9 -> List AV} {r : AV} (hf : P.funcs[f]? = some fn) (hb : fn.body = some c) (hn : (fn.name == "runtime.NumGoroutine") = false)
   (hc : zbx fn.ntmps c = true) (hx : (zbm (xs std).length fn.ntmps && zbm fn.ntmps 500000) = true) (hT : zbw P T) (hS : zdg P (S std)) (hm : P.follows .mixedOrders = true)
   (h : ∀ (L : za9) (P' : Program) (Q' : AV -> Prop), @L = @std -> P' = P -> Q' = zgn r -> Sat P' Q' (yto T L (S L) (lo L) (lb L) n fn (xs L))) : za5 P f (xs std) r :=
 zsk (lo := lo std) (lb := lb std) hf hb hn hc hx hT hS hm (h std _ _ rfl rfl rfl)
theorem zay {P : Program} {T : TT} {S : za9 -> zns} {lo lb : za9 -> Nat -> St -> Option Ann} (n : Nat) {f : FuncId} {fn : Func} {c : Code} {xs rts : za9 -> List AV} {O O1 : za9 -> List (Nat × Ob)} (hf : P.funcs[f]? = some fn) (hb : fn.body = some c) (hn : (fn.name == "runtime.NumGoroutine") = false)
   (hc : zbx fn.ntmps c = true) (hx : (zbm (xs std).length fn.ntmps && zbm fn.ntmps 500000 && zbm fn.results.size 500000 && zks (O1 std) (O std)) = true) (hT : zbw P T) (hS : zdg P (S std)) (hm : P.follows .mixedOrders = true)
   (h : ∀ (L : za9) (P' : Program) (Q' : AV -> Prop), @L = @std -> P' = P -> Q' = (fun _ => True) -> Sat P' Q' (ytn T L (S L) (lo L) (lb L) n fn (xs L) (O L) (rts L) (O1 L))) : zce P f (xs std) (O std) (ybi (rts std)) (O1 std) :=
 ycd (lo := lo std) (lb := lb std) hf hb hn hc hx hT hS hm (h std _ _ rfl rfl rfl)
def noS : za9 -> zns := fun _ => ⟨fun _ _ => none, fun _ => none⟩
theorem zbl (P : Program) : zdg P (noS std) := ⟨fun f xs p r h => by (cases h), fun f m h => by cases h⟩
def noA : za9 -> Nat -> St -> Option Ann := fun _ _ _ => none
def tt : TT :=
 (.node (.node (.node (.node (.node (.node (.node (.node (.node .leaf 1 ⟨1, false, [.nilf], .func, false, none, false, false⟩
         .leaf) 2 ⟨1, false, [.int .i64 0], .int .i64, false, none, false, false⟩
        .leaf) 3 ⟨1, false, [.int .i64 0], .int .i64, false, none, false, false⟩
       (.node .leaf 4 ⟨1, false, [.bool false], .bool, false, none, false, false⟩
        .leaf)) 5 ⟨1, false, [.int .u8 0], .int .u8, false, none, false, false⟩
      (.node (.node .leaf 6 ⟨1, false, [.int .u8 0], .int .u8, false, none, false, false⟩
        .leaf) 7 ⟨4, true, [.int .i64 0, .int .i64 0, .bool false, .int .u8 0], .struct [(0, 2), (1, 3), (2, 4), (3, 6)], true, none, false, false⟩
       (.node .leaf 8 ⟨4, true, [.int .i64 0, .int .i64 0, .bool false, .int .u8 0], .struct [(0, 2), (1, 3), (2, 4), (3, 6)], true, none, false, false⟩
        .leaf))) 9 ⟨1, false, [.str []], .str, false, none, false, false⟩
     (.node (.node (.node .leaf 10 ⟨1, false, [.str []], .str, false, none, false, false⟩
        .leaf) 11 ⟨1, false, [.str []], .str, false, none, false, false⟩
       (.node .leaf 12 ⟨1, false, [.int .u64 0], .int .u64, false, none, false, false⟩
        .leaf)) 13 ⟨2, true, [.str [], .int .u64 0], .struct [(0, 9), (1, 12)], false, none, false, false⟩
      (.node (.node .leaf 14 ⟨2, true, [.str [], .int .u64 0], .struct [(0, 9), (1, 12)], false, none, false, false⟩
        .leaf) 15 ⟨1, false, [.nilp], .ptr, false, some 276, false, false⟩
       (.node .leaf 16 ⟨1, false, [.nilp], .ptr, false, some 279, false, false⟩
        .leaf)))) 17 ⟨1, false, [.nilp], .ptr, false, some 286, false, false⟩
    (.node (.node (.node (.node (.node .leaf 18 ⟨1, true, [.nilp], .struct [(0, 17)], false, none, false, false⟩
         .leaf) 19 ⟨1, true, [.nilp], .struct [(0, 17)], false, none, false, false⟩
        .leaf) 20 ⟨1, false, [.nili], .iface, false, none, false, false⟩
       (.node .leaf 21 ⟨1, false, [.int .i32 0], .int .i32, false, none, false, false⟩
        .leaf)) 22 ⟨1, false, [.int .u64 0], .int .u64, false, none, false, false⟩
      (.node (.node .leaf 23 ⟨1, false, [.nils], .slice 35 7 48, false, none, false, false⟩
        .leaf) 24 ⟨1, false, [.nils], .slice 40 2 40, false, none, false, false⟩
       (.node .leaf 25 ⟨3, true, [.int .u64 0, .nils, .nils], .struct [(0, 22), (1, 23), (2, 24)], false, none, false, false⟩
        .leaf))) 26 ⟨3, true, [.int .u64 0, .nils, .nils], .struct [(0, 22), (1, 23), (2, 24)], false, none, false, false⟩
     (.node (.node (.node .leaf 27 ⟨1, false, [.nilf], .func, false, none, false, false⟩
        .leaf) 28 ⟨1, false, [.nilf], .func, false, none, false, false⟩
       (.node .leaf 29 ⟨4, true, [.int .u8 0, .int .u8 0, .int .u8 0, .int .u8 0], .arr 4 5 1, true, none, false, false⟩
        .leaf)) 30 ⟨1, false, [.int .u16 0], .int .u16, false, none, false, false⟩
      (.node (.node .leaf 31 ⟨5, true, [.int .u8 0, .int .u8 0, .int .u8 0, .int .u8 0, .int .u16 0], .struct [(0, 29), (4, 30)], true, none, false, false⟩
        .leaf) 32 ⟨5, true, [.int .u8 0, .int .u8 0, .int .u8 0, .int .u8 0, .int .u16 0], .struct [(0, 29), (4, 30)], true, none, false, false⟩
       (.node .leaf 33 ⟨1, false, [.nils], .slice 52 4 56, false, none, false, false⟩
        .leaf))))) 34 ⟨7, true, [.str [], .int .u8 0, .int .u8 0, .int .u8 0, .int .u8 0, .int .u16 0, .nils], .struct [(0, 9), (1, 32), (6, 33)], false, none, false, false⟩
   (.node (.node (.node (.node (.node (.node .leaf 35 ⟨7, true, [.str [], .int .u8 0, .int .u8 0, .int .u8 0, .int .u8 0, .int .u16 0, .nils], .struct [(0, 9), (1, 32), (6, 33)], false, none, false, false⟩
         .leaf) 37 ⟨1, false, [.nilf], .func, false, none, false, false⟩
        .leaf) 38 ⟨1, false, [.nils], .slice 54 6 16, false, none, false, false⟩
       (.node .leaf 39 ⟨2, true, [.str [], .nils], .struct [(0, 9), (1, 38)], false, none, false, false⟩
        .leaf)) 40 ⟨2, true, [.str [], .nils], .struct [(0, 9), (1, 38)], false, none, false, false⟩
      (.node (.node .leaf 42 ⟨1, false, [.nilf], .func, false, none, false, false⟩
        .leaf) 43 ⟨1, false, [.nilf], .func, false, none, false, false⟩
       (.node .leaf 44 ⟨1, false, [.nilf], .func, false, none, false, false⟩
        .leaf))) 45 ⟨1, false, [.nilf], .func, false, none, false, false⟩
     (.node (.node (.node .leaf 46 ⟨1, false, [.nils], .slice 85 7 48, false, none, false, false⟩
        .leaf) 47 ⟨1, false, [.nils], .slice 89 2 40, false, none, false, false⟩
       (.node .leaf 48 ⟨3, true, [.int .u64 0, .nils, .nils], .struct [(0, 22), (1, 46), (2, 47)], false, none, false, false⟩
        .leaf)) 49 ⟨3, true, [.int .u64 0, .nils, .nils], .struct [(0, 22), (1, 46), (2, 47)], false, none, false, false⟩
      (.node (.node .leaf 50 ⟨1, false, [.nilf], .func, false, none, false, false⟩
        .leaf) 51 ⟨4, true, [.str [], .str [], .str [], .int .u64 0], .struct [(0, 9), (1, 9), (2, 9), (3, 22)], true, none, false, false⟩
       (.node .leaf 52 ⟨4, true, [.str [], .str [], .str [], .int .u64 0], .struct [(0, 9), (1, 9), (2, 9), (3, 22)], true, none, false, false⟩
        .leaf)))) 53 ⟨6, true, [.int .u8 0, .int .u8 0, .int .u8 0, .int .u8 0, .int .u16 0, .int .i64 0], .struct [(0, 32), (5, 3)], true, none, false, false⟩
    (.node (.node (.node (.node (.node .leaf 54 ⟨6, true, [.int .u8 0, .int .u8 0, .int .u8 0, .int .u8 0, .int .u16 0, .int .i64 0], .struct [(0, 32), (5, 3)], true, none, false, false⟩
         .leaf) 55 ⟨1, false, [.nilf], .func, false, none, false, false⟩
        .leaf) 56 ⟨16, true, [.int .u8 0, .int .u8 0, .int .u8 0, .int .u8 0, .int .u8 0, .int .u8 0, .int .u8 0, .int .u8 0, .int .u8 0, .int .u8 0, .int .u8 0, .int .u8 0, .int .u8 0, .int .u8 0, .int .u8 0, .int .u8 0], .arr 16 5 1, true, none, false, false⟩
       (.node .leaf 57 ⟨16, true, [.int .u8 0, .int .u8 0, .int .u8 0, .int .u8 0, .int .u8 0, .int .u8 0, .int .u8 0, .int .u8 0, .int .u8 0, .int .u8 0, .int .u8 0, .int .u8 0, .int .u8 0, .int .u8 0, .int .u8 0, .int .u8 0], .arr 16 5 1, true, none, false, false⟩
        .leaf)) 58 ⟨1, false, [.int .i64 0], .int .i64, false, none, false, false⟩
      (.node (.node .leaf 60 ⟨1, false, [.nilf], .func, false, none, false, false⟩
        .leaf) 62 ⟨1, false, [.nilf], .func, false, none, false, false⟩
       (.node .leaf 63 ⟨1, false, [.nilf], .func, false, none, false, false⟩
        .leaf))) 64 ⟨1, false, [.nilf], .func, false, none, false, false⟩
     (.node (.node (.node .leaf 66 ⟨1, false, [.nilf], .func, false, none, false, false⟩
        .leaf) 67 ⟨1, false, [.nilf], .func, false, none, false, false⟩
       (.node .leaf 68 ⟨1, false, [.nilf], .func, false, none, false, false⟩
        .leaf)) 69 ⟨1, false, [.nilf], .func, false, none, false, false⟩
      (.node (.node .leaf 70 ⟨1, false, [.nilf], .func, false, none, false, false⟩
        .leaf) 71 ⟨1, false, [.nilf], .func, false, none, false, false⟩
       (.node .leaf 72 ⟨1, false, [.nilf], .func, false, none, false, false⟩
        .leaf)))))) 73 ⟨1, false, [.nilf], .func, false, none, false, false⟩
  (.node (.node (.node (.node (.node (.node (.node .leaf 74 ⟨1, false, [.nilf], .func, false, none, false, false⟩
         .leaf) 75 ⟨1, false, [.nilf], .func, false, none, false, false⟩
        .leaf) 76 ⟨1, false, [.nilf], .func, false, none, false, false⟩
       (.node .leaf 77 ⟨1, false, [.nilf], .func, false, none, false, false⟩
        .leaf)) 78 ⟨1, false, [.nils], .slice 80 4 56, false, none, false, false⟩
      (.node (.node .leaf 79 ⟨4, true, [.int .i64 0, .int .u64 0, .str [], .nils], .struct [(0, 3), (1, 22), (2, 9), (3, 78)], false, none, false, false⟩
        .leaf) 80 ⟨4, true, [.int .i64 0, .int .u64 0, .str [], .nils], .struct [(0, 3), (1, 22), (2, 9), (3, 78)], false, none, false, false⟩
       (.node .leaf 81 ⟨1, false, [.nilf], .func, false, none, false, false⟩
        .leaf))) 82 ⟨5, true, [.int .u8 0, .int .u8 0, .int .u8 0, .int .u8 0, .int .u16 0], .struct [(0, 29), (4, 30)], true, none, false, false⟩
     (.node (.node (.node .leaf 83 ⟨1, false, [.nils], .slice 86 4 56, false, none, false, false⟩
        .leaf) 84 ⟨7, true, [.str [], .int .u8 0, .int .u8 0, .int .u8 0, .int .u8 0, .int .u16 0, .nils], .struct [(0, 9), (1, 82), (6, 83)], false, none, false, false⟩
       (.node .leaf 85 ⟨7, true, [.str [], .int .u8 0, .int .u8 0, .int .u8 0, .int .u8 0, .int .u16 0, .nils], .struct [(0, 9), (1, 82), (6, 83)], false, none, false, false⟩
        .leaf)) 86 ⟨4, true, [.str [], .str [], .str [], .int .u64 0], .struct [(0, 9), (1, 9), (2, 9), (3, 22)], true, none, false, false⟩
      (.node (.node .leaf 87 ⟨1, false, [.nils], .slice 91 6 16, false, none, false, false⟩
        .leaf) 88 ⟨2, true, [.str [], .nils], .struct [(0, 9), (1, 87)], false, none, false, false⟩
       (.node .leaf 89 ⟨2, true, [.str [], .nils], .struct [(0, 9), (1, 87)], false, none, false, false⟩
        .leaf)))) 90 ⟨6, true, [.int .u8 0, .int .u8 0, .int .u8 0, .int .u8 0, .int .u16 0, .int .i64 0], .struct [(0, 82), (5, 3)], true, none, false, false⟩
    (.node (.node (.node (.node (.node .leaf 91 ⟨6, true, [.int .u8 0, .int .u8 0, .int .u8 0, .int .u8 0, .int .u16 0, .int .i64 0], .struct [(0, 82), (5, 3)], true, none, false, false⟩
         .leaf) 92 ⟨1, false, [.nilf], .func, false, none, false, false⟩
        .leaf) 93 ⟨1, false, [.nilf], .func, false, none, false, false⟩
       (.node .leaf 94 ⟨1, false, [.nilf], .func, false, none, false, false⟩
        .leaf)) 96 ⟨1, false, [.nilf], .func, false, none, false, false⟩
      (.node (.node .leaf 97 ⟨1, false, [.nilf], .func, false, none, false, false⟩
        .leaf) 98 ⟨1, false, [.nilf], .func, false, none, false, false⟩
       (.node .leaf 99 ⟨1, false, [.nilf], .func, false, none, false, false⟩
        .leaf))) 100 ⟨1, false, [.nilf], .func, false, none, false, false⟩
     (.node (.node (.node .leaf 101 ⟨1, false, [.nilf], .func, false, none, false, false⟩
        .leaf) 102 ⟨1, false, [.nilf], .func, false, none, false, false⟩
       (.node .leaf 103 ⟨1, false, [.nilf], .func, false, none, false, false⟩
        .leaf)) 104 ⟨1, false, [.nilf], .func, false, none, false, false⟩
      (.node (.node .leaf 105 ⟨1, false, [.nilf], .func, false, none, false, false⟩
        .leaf) 106 ⟨1, false, [.nilf], .func, false, none, false, false⟩
       (.node .leaf 107 ⟨1, false, [.nils], .slice 109 4 56, false, none, false, false⟩
        .leaf))))) 108 ⟨4, true, [.int .i64 0, .int .u64 0, .str [], .nils], .struct [(0, 3), (1, 22), (2, 9), (3, 107)], false, none, false, false⟩
   (.node (.node (.node (.node (.node (.node .leaf 109 ⟨4, true, [.int .i64 0, .int .u64 0, .str [], .nils], .struct [(0, 3), (1, 22), (2, 9), (3, 107)], false, none, false, false⟩
         .leaf) 110 ⟨1, false, [.nilf], .func, false, none, false, false⟩
        .leaf) 111 ⟨1, false, [.nilf], .func, false, none, false, false⟩
       (.node .leaf 112 ⟨1, false, [.nilf], .func, false, none, false, false⟩
        .leaf)) 113 ⟨1, false, [.nilf], .func, false, none, false, false⟩
      (.node (.node .leaf 114 ⟨1, false, [.nilf], .func, false, none, false, false⟩
        .leaf) 115 ⟨1, false, [.nilf], .func, false, none, false, false⟩
       (.node .leaf 116 ⟨1, false, [.nilf], .func, false, none, false, false⟩
        .leaf))) 117 ⟨1, false, [.nilf], .func, false, none, false, false⟩
     (.node (.node (.node .leaf 118 ⟨1, false, [.nils], .slice 5 1 1, false, none, false, false⟩
        .leaf) 119 ⟨1, false, [.int .u64 0], .int .u64, false, none, false, false⟩
       (.node .leaf 120 ⟨1, false, [.nilf], .func, false, none, false, false⟩
        .leaf)) 121 ⟨1, false, [.nilf], .func, false, none, false, false⟩
      (.node (.node .leaf 122 ⟨1, false, [.nilf], .func, false, none, false, false⟩
        .leaf) 123 ⟨1, false, [.nilf], .func, false, none, false, false⟩
       (.node .leaf 124 ⟨1, false, [.nilf], .func, false, none, false, false⟩
        .leaf)))) 125 ⟨1, false, [.nilf], .func, false, none, false, false⟩
    (.node (.node (.node (.node .leaf 126 ⟨1, false, [.nilf], .func, false, none, false, false⟩
        .leaf) 127 ⟨1, false, [.nilf], .func, false, none, false, false⟩
       (.node .leaf 128 ⟨1, false, [.nilf], .func, false, none, false, false⟩
        .leaf)) 129 ⟨1, false, [.nilf], .func, false, none, false, false⟩
      (.node (.node .leaf 130 ⟨1, false, [.nilf], .func, false, none, false, false⟩
        .leaf) 131 ⟨1, false, [.nilf], .func, false, none, false, false⟩
       (.node .leaf 132 ⟨1, false, [.nilf], .func, false, none, false, false⟩
        .leaf))) 133 ⟨1, false, [.nilf], .func, false, none, false, false⟩
     (.node (.node (.node .leaf 134 ⟨1, false, [.nilf], .func, false, none, false, false⟩
        .leaf) 135 ⟨1, false, [.nilp], .ptr, false, some 137, false, false⟩
       (.node .leaf 136 ⟨2, true, [.nilp, .nils], .struct [(0, 135), (1, 118)], false, none, false, false⟩
        .leaf)) 137 ⟨2, true, [.nilp, .nils], .struct [(0, 135), (1, 118)], false, none, false, true⟩
      (.node (.node .leaf 138 ⟨1, false, [.nilf], .func, false, none, false, false⟩
        .leaf) 139 ⟨1, false, [.nilf], .func, false, none, false, false⟩
       (.node .leaf 140 ⟨1, false, [.nilf], .func, false, none, false, false⟩
        .leaf))))))) 141 ⟨1, false, [.nilf], .func, false, none, false, false⟩
 (.node (.node (.node (.node (.node (.node (.node (.node .leaf 142 ⟨1, false, [.nilf], .func, false, none, false, false⟩
         .leaf) 143 ⟨1, false, [.nilf], .func, false, none, false, false⟩
        .leaf) 144 ⟨1, false, [.nilf], .func, false, none, false, false⟩
       (.node .leaf 145 ⟨1, false, [.nilf], .func, false, none, false, false⟩
        .leaf)) 146 ⟨1, false, [.nilf], .func, false, none, false, false⟩
      (.node (.node .leaf 147 ⟨1, false, [.nilf], .func, false, none, false, false⟩
        .leaf) 149 ⟨1, false, [.nilf], .func, false, none, false, false⟩
       (.node .leaf 150 ⟨1, false, [.nilf], .func, false, none, false, false⟩
        .leaf))) 151 ⟨2, true, [.int .i64 0, .str []], .struct [(0, 58), (1, 9)], true, none, false, false⟩
     (.node (.node (.node .leaf 152 ⟨2, true, [.int .i64 0, .str []], .struct [(0, 58), (1, 9)], true, none, false, false⟩
        .leaf) 153 ⟨1, false, [.nilf], .func, false, none, false, false⟩
       (.node .leaf 154 ⟨1, false, [.nils], .slice 9 1 16, false, none, false, false⟩
        .leaf)) 155 ⟨32, true, [.int .u8 0, .int .u8 0, .int .u8 0, .int .u8 0, .int .u8 0, .int .u8 0, .int .u8 0, .int .u8 0, .int .u8 0, .int .u8 0, .int .u8 0, .int .u8 0, .int .u8 0, .int .u8 0, .int .u8 0, .int .u8 0, .int .u8 0, .int .u8 0, .int .u8 0, .int .u8 0, .int .u8 0, .int .u8 0, .int .u8 0, .int .u8 0, .int .u8 0, .int .u8 0, .int .u8 0, .int .u8 0, .int .u8 0, .int .u8 0, .int .u8 0, .int .u8 0], .arr 32 5 1, true, none, false, false⟩
      (.node (.node .leaf 156 ⟨32, true, [.int .u8 0, .int .u8 0, .int .u8 0, .int .u8 0, .int .u8 0, .int .u8 0, .int .u8 0, .int .u8 0, .int .u8 0, .int .u8 0, .int .u8 0, .int .u8 0, .int .u8 0, .int .u8 0, .int .u8 0, .int .u8 0, .int .u8 0, .int .u8 0, .int .u8 0, .int .u8 0, .int .u8 0, .int .u8 0, .int .u8 0, .int .u8 0, .int .u8 0, .int .u8 0, .int .u8 0, .int .u8 0, .int .u8 0, .int .u8 0, .int .u8 0, .int .u8 0], .arr 32 5 1, true, none, false, false⟩
        .leaf) 157 ⟨1, false, [.nilf], .func, false, none, false, false⟩
       (.node .leaf 158 ⟨1, false, [.nilf], .func, false, none, false, false⟩
        .leaf)))) 159 ⟨1, false, [.nilf], .func, false, none, false, false⟩
    (.node (.node (.node (.node (.node .leaf 160 ⟨1, false, [.nilf], .func, false, none, false, false⟩
         .leaf) 161 ⟨1, false, [.nils], .slice 163 1 4, false, none, false, false⟩
        .leaf) 162 ⟨1, false, [.nilf], .func, false, none, false, false⟩
       (.node .leaf 163 ⟨1, false, [.int .u32 0], .int .u32, false, none, false, false⟩
        .leaf)) 164 ⟨1, false, [.nilf], .func, false, none, false, false⟩
      (.node (.node .leaf 165 ⟨1, false, [.nilf], .func, false, none, false, false⟩
        .leaf) 166 ⟨1, false, [.nilf], .func, false, none, false, false⟩
       (.node .leaf 167 ⟨1, false, [.nilf], .func, false, none, false, false⟩
        .leaf))) 168 ⟨1, false, [.nilf], .func, false, none, false, false⟩
     (.node (.node (.node .leaf 169 ⟨1, false, [.nilf], .func, false, none, false, false⟩
        .leaf) 170 ⟨1, false, [.nilf], .func, false, none, false, false⟩
       (.node .leaf 171 ⟨1, false, [.nilf], .func, false, none, false, false⟩
        .leaf)) 172 ⟨1, false, [.nilf], .func, false, none, false, false⟩
      (.node (.node .leaf 173 ⟨1, false, [.nilf], .func, false, none, false, false⟩
        .leaf) 174 ⟨1, false, [.nilf], .func, false, none, false, false⟩
       (.node .leaf 175 ⟨1, false, [.nilf], .func, false, none, false, false⟩
        .leaf))))) 176 ⟨1, false, [.nili], .iface, false, none, false, false⟩
   (.node (.node (.node (.node (.node (.node .leaf 177 ⟨1, false, [.nili], .iface, false, none, false, false⟩
         .leaf) 178 ⟨1, false, [.nilf], .func, false, none, false, false⟩
        .leaf) 180 ⟨1, false, [.nilf], .func, false, none, false, false⟩
       (.node .leaf 181 ⟨1, false, [.nilf], .func, false, none, false, false⟩
        .leaf)) 182 ⟨1, false, [.nilp], .ptr, false, some 5, false, false⟩
      (.node (.node .leaf 184 ⟨1, false, [.nilf], .func, false, none, false, false⟩
        .leaf) 185 ⟨1, false, [.nilf], .func, false, none, false, false⟩
       (.node .leaf 187 ⟨1, false, [.nilf], .func, false, none, false, false⟩
        .leaf))) 188 ⟨1, false, [.nilf], .func, false, none, false, false⟩
     (.node (.node (.node .leaf 189 ⟨1, false, [.nils], .slice 152 2 24, false, none, false, false⟩
        .leaf) 190 ⟨1, false, [.nilf], .func, false, none, false, false⟩
       (.node .leaf 191 ⟨8, true, [.int .u32 0, .int .u32 0, .int .u32 0, .int .u32 0, .int .u32 0, .int .u32 0, .int .u32 0, .int .u32 0], .arr 8 163 1, true, none, false, false⟩
        .leaf)) 192 ⟨1, false, [.nilf], .func, false, none, false, false⟩
      (.node (.node .leaf 193 ⟨64, true, [.int .u32 0, .int .u32 0, .int .u32 0, .int .u32 0, .int .u32 0, .int .u32 0, .int .u32 0, .int .u32 0, .int .u32 0, .int .u32 0, .int .u32 0, .int .u32 0, .int .u32 0, .int .u32 0, .int .u32 0, .int .u32 0, .int .u32 0, .int .u32 0, .int .u32 0, .int .u32 0, .int .u32 0, .int .u32 0, .int .u32 0, .int .u32 0, .int .u32 0, .int .u32 0, .int .u32 0, .int .u32 0, .int .u32 0, .int .u32 0, .int .u32 0, .int .u32 0, .int .u32 0, .int .u32 0, .int .u32 0, .int .u32 0, .int .u32 0, .int .u32 0, .int .u32 0, .int .u32 0, .int .u32 0, .int .u32 0, .int .u32 0, .int .u32 0, .int .u32 0, .int .u32 0, .int .u32 0, .int .u32 0, .int .u32 0, .int .u32 0, .int .u32 0, .int .u32 0, .int .u32 0, .int .u32 0, .int .u32 0, .int .u32 0, .int .u32 0, .int .u32 0, .int .u32 0, .int .u32 0, .int .u32 0, .int .u32 0, .int .u32 0, .int .u32 0], .arr 64 163 1, true, none, false, false⟩
        .leaf) 194 ⟨1, false, [.nilf], .func, false, none, false, false⟩
       (.node .leaf 195 ⟨1, false, [.nilf], .func, false, none, false, false⟩
        .leaf)))) 196 ⟨1, false, [.nilp], .ptr, false, some 193, false, false⟩
    (.node (.node (.node (.node .leaf 197 ⟨1, false, [.nilf], .func, false, none, false, false⟩
        .leaf) 198 ⟨1, false, [.nilf], .func, false, none, false, false⟩
       (.node .leaf 200 ⟨1, false, [.nilf], .func, false, none, false, false⟩
        .leaf)) 201 ⟨1, false, [.nilf], .func, false, none, false, false⟩
      (.node (.node .leaf 202 ⟨1, false, [.nils], .slice 3 1 8, false, none, false, false⟩
        .leaf) 203 ⟨1, false, [.nilf], .func, false, none, false, false⟩
       (.node .leaf 204 ⟨1, false, [.nilf], .func, false, none, false, false⟩
        .leaf))) 205 ⟨1, false, [.nilf], .func, false, none, false, false⟩
     (.node (.node (.node .leaf 206 ⟨1, false, [.nilf], .func, false, none, false, false⟩
        .leaf) 207 ⟨1, false, [.nilf], .func, false, none, false, false⟩
       (.node .leaf 208 ⟨1, false, [.nilf], .func, false, none, false, false⟩
        .leaf)) 209 ⟨1, false, [.nilf], .func, false, none, false, false⟩
      (.node (.node .leaf 210 ⟨8, true, [.int .u64 0, .int .u64 0, .int .u64 0, .int .u64 0, .int .u64 0, .int .u64 0, .int .u64 0, .int .u64 0], .arr 8 22 1, true, none, false, false⟩
        .leaf) 211 ⟨1, false, [.nilf], .func, false, none, false, false⟩
       (.node .leaf 212 ⟨1, false, [.nilf], .func, false, none, false, false⟩
        .leaf)))))) 213 ⟨1, false, [.nilf], .func, false, none, false, false⟩
  (.node (.node (.node (.node (.node (.node (.node .leaf 214 ⟨1, false, [.nilp], .other, false, none, true, false⟩
         .leaf) 215 ⟨1, false, [.nilf], .func, false, none, false, false⟩
        .leaf) 216 ⟨1, false, [.nilf], .func, false, none, false, false⟩
       (.node .leaf 217 ⟨1, false, [.nilf], .func, false, none, false, false⟩
        .leaf)) 218 ⟨1, false, [.nilf], .func, false, none, false, false⟩
      (.node (.node .leaf 219 ⟨1, false, [.nilf], .func, false, none, false, false⟩
        .leaf) 220 ⟨1, false, [.nilf], .func, false, none, false, false⟩
       (.node .leaf 221 ⟨1, false, [.nilf], .func, false, none, false, false⟩
        .leaf))) 222 ⟨1, false, [.nilf], .func, false, none, false, false⟩
     (.node (.node (.node .leaf 223 ⟨1, false, [.nilf], .func, false, none, false, false⟩
        .leaf) 224 ⟨1, false, [.nilf], .func, false, none, false, false⟩
       (.node .leaf 226 ⟨1, false, [.nilf], .func, false, none, false, false⟩
        .leaf)) 227 ⟨1, false, [.nilf], .func, false, none, false, false⟩
      (.node (.node .leaf 229 ⟨1, false, [.nilf], .func, false, none, false, false⟩
        .leaf) 230 ⟨1, false, [.nilf], .func, false, none, false, false⟩
       (.node .leaf 231 ⟨1, false, [.nilf], .func, false, none, false, false⟩
        .leaf)))) 232 ⟨1, false, [.nilf], .func, false, none, false, false⟩
    (.node (.node (.node (.node (.node .leaf 233 ⟨1, false, [.nilf], .func, false, none, false, false⟩
         .leaf) 235 ⟨1, false, [.nilf], .func, false, none, false, false⟩
        .leaf) 236 ⟨1, false, [.int .i64 0], .int .i64, false, none, false, false⟩
       (.node .leaf 237 ⟨1, false, [.nilf], .func, false, none, false, false⟩
        .leaf)) 238 ⟨1, false, [.nilp], .ptr, false, some 257, false, false⟩
      (.node (.node .leaf 239 ⟨1, false, [.nilf], .func, false, none, false, false⟩
        .leaf) 240 ⟨1, false, [.nilf], .func, false, none, false, false⟩
       (.node .leaf 241 ⟨1, false, [.nilf], .func, false, none, false, false⟩
        .leaf))) 242 ⟨24, true, [.int .u8 0, .int .u8 0, .int .u8 0, .int .u8 0, .int .u8 0, .int .u8 0, .int .u8 0, .int .u8 0, .int .u8 0, .int .u8 0, .int .u8 0, .int .u8 0, .int .u8 0, .int .u8 0, .int .u8 0, .int .u8 0, .int .u8 0, .int .u8 0, .int .u8 0, .int .u8 0, .int .u8 0, .int .u8 0, .int .u8 0, .int .u8 0], .arr 24 5 1, true, none, false, false⟩
     (.node (.node (.node .leaf 243 ⟨1, false, [.nilf], .func, false, none, false, false⟩
        .leaf) 244 ⟨1, false, [.nilf], .func, false, none, false, false⟩
       (.node .leaf 246 ⟨1, false, [.nilf], .func, false, none, false, false⟩
        .leaf)) 247 ⟨1, false, [.nilf], .func, false, none, false, false⟩
      (.node (.node .leaf 248 ⟨1, false, [.nils], .slice 58 1 8, false, none, false, false⟩
        .leaf) 249 ⟨1, false, [.nilf], .func, false, none, false, false⟩
       (.node .leaf 250 ⟨1, false, [.nilf], .func, false, none, false, false⟩
        .leaf))))) 252 ⟨1, false, [.nilf], .func, false, none, false, false⟩
   (.node (.node (.node (.node (.node (.node .leaf 254 ⟨1, false, [.nilf], .func, false, none, false, false⟩
         .leaf) 255 ⟨1, false, [.nilf], .func, false, none, false, false⟩
        .leaf) 256 ⟨3, true, [.str [], .str [], .nili], .struct [(0, 9), (1, 9), (2, 177)], false, none, false, false⟩
       (.node .leaf 257 ⟨3, true, [.str [], .str [], .nili], .struct [(0, 9), (1, 9), (2, 177)], false, none, false, false⟩
        .leaf)) 258 ⟨1, false, [.nilf], .func, false, none, false, false⟩
      (.node (.node .leaf 259 ⟨1, false, [.nilf], .func, false, none, false, false⟩
        .leaf) 260 ⟨20, true, [.int .u64 0, .int .u64 0, .int .u64 0, .int .u64 0, .int .u64 0, .int .u64 0, .int .u64 0, .int .u64 0, .int .u64 0, .int .u64 0, .int .u64 0, .int .u64 0, .int .u64 0, .int .u64 0, .int .u64 0, .int .u64 0, .int .u64 0, .int .u64 0, .int .u64 0, .int .u64 0], .arr 20 22 1, true, none, false, false⟩
       (.node .leaf 261 ⟨65, true, [.int .u8 0, .int .u8 0, .int .u8 0, .int .u8 0, .int .u8 0, .int .u8 0, .int .u8 0, .int .u8 0, .int .u8 0, .int .u8 0, .int .u8 0, .int .u8 0, .int .u8 0, .int .u8 0, .int .u8 0, .int .u8 0, .int .u8 0, .int .u8 0, .int .u8 0, .int .u8 0, .int .u8 0, .int .u8 0, .int .u8 0, .int .u8 0, .int .u8 0, .int .u8 0, .int .u8 0, .int .u8 0, .int .u8 0, .int .u8 0, .int .u8 0, .int .u8 0, .int .u8 0, .int .u8 0, .int .u8 0, .int .u8 0, .int .u8 0, .int .u8 0, .int .u8 0, .int .u8 0, .int .u8 0, .int .u8 0, .int .u8 0, .int .u8 0, .int .u8 0, .int .u8 0, .int .u8 0, .int .u8 0, .int .u8 0, .int .u8 0, .int .u8 0, .int .u8 0, .int .u8 0, .int .u8 0, .int .u8 0, .int .u8 0, .int .u8 0, .int .u8 0, .int .u8 0, .int .u8 0, .int .u8 0, .int .u8 0, .int .u8 0, .int .u8 0, .int .u8 0], .arr 65 5 1, true, none, false, false⟩
        .leaf))) 262 ⟨1, false, [.nilf], .func, false, none, false, false⟩
     (.node (.node (.node .leaf 263 ⟨1, false, [.nilf], .func, false, none, false, false⟩
        .leaf) 264 ⟨1, false, [.nilf], .func, false, none, false, false⟩
       (.node .leaf 266 ⟨2, true, [.int .u8 0, .int .u8 0], .struct [(0, 5), (1, 5)], true, none, false, false⟩
        .leaf)) 267 ⟨2, true, [.int .u8 0, .int .u8 0], .struct [(0, 5), (1, 5)], true, none, false, false⟩
      (.node (.node .leaf 268 ⟨32, true, [.int .u8 0, .int .u8 0, .int .u8 0, .int .u8 0, .int .u8 0, .int .u8 0, .int .u8 0, .int .u8 0, .int .u8 0, .int .u8 0, .int .u8 0, .int .u8 0, .int .u8 0, .int .u8 0, .int .u8 0, .int .u8 0, .int .u8 0, .int .u8 0, .int .u8 0, .int .u8 0, .int .u8 0, .int .u8 0, .int .u8 0, .int .u8 0, .int .u8 0, .int .u8 0, .int .u8 0, .int .u8 0, .int .u8 0, .int .u8 0, .int .u8 0, .int .u8 0], .arr 16 267 2, true, none, false, false⟩
        .leaf) 269 ⟨1, false, [.nilp], .ptr, false, some 271, false, false⟩
       (.node .leaf 270 ⟨1, true, [.str []], .struct [(0, 9)], true, none, false, false⟩
        .leaf)))) 271 ⟨1, true, [.str []], .struct [(0, 9)], true, none, false, false⟩
    (.node (.node (.node (.node .leaf 272 ⟨1, false, [.nilf], .func, false, none, false, false⟩
        .leaf) 273 ⟨1, false, [.nilf], .func, false, none, false, false⟩
       (.node .leaf 274 ⟨64, true, [.int .u8 0, .int .u8 0, .int .u8 0, .int .u8 0, .int .u8 0, .int .u8 0, .int .u8 0, .int .u8 0, .int .u8 0, .int .u8 0, .int .u8 0, .int .u8 0, .int .u8 0, .int .u8 0, .int .u8 0, .int .u8 0, .int .u8 0, .int .u8 0, .int .u8 0, .int .u8 0, .int .u8 0, .int .u8 0, .int .u8 0, .int .u8 0, .int .u8 0, .int .u8 0, .int .u8 0, .int .u8 0, .int .u8 0, .int .u8 0, .int .u8 0, .int .u8 0, .int .u8 0, .int .u8 0, .int .u8 0, .int .u8 0, .int .u8 0, .int .u8 0, .int .u8 0, .int .u8 0, .int .u8 0, .int .u8 0, .int .u8 0, .int .u8 0, .int .u8 0, .int .u8 0, .int .u8 0, .int .u8 0, .int .u8 0, .int .u8 0, .int .u8 0, .int .u8 0, .int .u8 0, .int .u8 0, .int .u8 0, .int .u8 0, .int .u8 0, .int .u8 0, .int .u8 0, .int .u8 0, .int .u8 0, .int .u8 0, .int .u8 0, .int .u8 0], .arr 64 5 1, true, none, false, false⟩
        .leaf)) 275 ⟨4, true, [.nilp, .nilp, .nilp, .str []], .struct [(0, 17), (1, 17), (2, 17), (3, 9)], false, none, false, false⟩
      (.node (.node .leaf 276 ⟨4, true, [.nilp, .nilp, .nilp, .str []], .struct [(0, 17), (1, 17), (2, 17), (3, 9)], false, none, false, false⟩
        .leaf) 277 ⟨0, true, [], .arr 0 16 1, false, none, false, false⟩
       (.node .leaf 278 ⟨0, true, [], .struct [(0, 277)], false, none, false, false⟩
        .leaf))) 279 ⟨0, true, [], .struct [(0, 277)], false, none, false, false⟩
     (.node (.node (.node .leaf 280 ⟨1, false, [.int .u8 0], .int .u8, false, none, false, false⟩
        .leaf) 281 ⟨1, false, [.int .u8 0], .int .u8, false, none, false, false⟩
       (.node .leaf 282 ⟨1, false, [.nilf], .func, false, none, false, false⟩
        .leaf)) 283 ⟨1, false, [.int .i32 0], .int .i32, false, none, false, false⟩
      (.node (.node .leaf 284 ⟨1, false, [.int .i32 0], .int .i32, false, none, false, false⟩
        .leaf) 285 ⟨11, true, [.int .u64 0, .int .u64 0, .int .u32 0, .int .u8 0, .int .u8 0, .int .u8 0, .int .u8 0, .nilf, .nilp, .int .i32 0, .int .i32 0], .struct [(0, 12), (1, 12), (2, 163), (3, 280), (4, 5), (5, 5), (6, 281), (7, 282), (8, 182), (9, 283), (10, 284)], false, none, false, false⟩
       (.node .leaf 286 ⟨11, true, [.int .u64 0, .int .u64 0, .int .u32 0, .int .u8 0, .int .u8 0, .int .u8 0, .int .u8 0, .nilf, .nilp, .int .i32 0, .int .i32 0], .struct [(0, 12), (1, 12), (2, 163), (3, 280), (4, 5), (5, 5), (6, 281), (7, 282), (8, 182), (9, 283), (10, 284)], false, none, false, false⟩
        .leaf))))))))
theorem zad : zbw Tryz.prog tt := ykd (by kernel_rfl)
end Sy
end Go.Proofs.YtfonekpmkdkgnaaGreatDoor
namespace Go.Proofs.YtfonekpmkdkgnaaGreatDoor
namespace Sy
open Go Go.RowKit
set_option linter.unusedVariables false
def DW (W : World) : Nat -> Prop := fun b => b < W.heap.size
structure zea {H : Type} (enc : TypeId × Value -> H) (P : Program) (W : World) (t : TypeId) (α : Type) (sz : Nat) (av : α -> Nat -> AV) (ok : α -> Prop) : Prop where
 size : P.cellsOf t = sz
 go : ∀ fuel cs x, DataW.trod enc P W 0 (fun _ => true) true fuel t cs = some x -> ∃ y : α, ok y /\ cs.length = sz /\ ∀ j, j < sz -> ∃ v, cs[j]? = some v /\ one v /\ R W.heap (DW W) zam (av y j) v
structure zwr {H : Type} (enc : TypeId × Value -> H) (P : Program) (W : World) (fs : List Field) (off : Nat) (α : Type) (sz : Nat) (av : α -> Nat -> AV) (ok : α -> Prop) : Prop where
 go : ∀ fuel (cs : List Value) (xs : List (DataW H × List MemPlace)), (∀ (i : Nat) (f : Field), fs[i]? = some f -> ∃ x, DataW.trod enc P W 0 (fun _ => true) true fuel f.type ((cs.drop f.offset).take (P.cellsOf f.type)) = some x) -> ∃ y : α, ok y /\ ∀ j, j < sz -> ∃ v, cs[off + j]? = some v /\ one v /\ R W.heap (DW W) zam (av y j) v
theorem sgl {h : Array Obj} {D : Nat -> Prop} {f : Nat -> AV} {v : Value} (h1 : one v) (h2 : R h D zam (f 0) v) : ∀ j, j < 1 -> ∃ u, [v][j]? = some u /\ one u /\ R h D zam (f j) u := by
 intro j hj
 obtain rfl : j = 0 := by omega
 exact ⟨v, rfl, h1, h2⟩
theorem ztr {α : Type} (p : Nat -> α -> Prop) : ∀ n, (∀ i, i < n -> ∃ y, p i y) -> ∃ l : List α, l.length = n /\ ∀ i, i < n -> ∃ y, l[i]? = some y /\ p i y
 | 0, _ => ⟨[], rfl, fun i hi => by omega⟩
 | m + 1, h => by
   obtain ⟨l, e1, e2⟩ := ztr p m (fun i hi => h i (by omega))
   obtain ⟨y, hy⟩ := h m (by omega)
   refine ⟨l ++ [y], by simp [e1], fun i hi => ?_⟩
   by_cases hi' : i < m
   · obtain ⟨z, z1, z2⟩ := e2 i hi'
     exact ⟨z, by rw [List.getElem?_append_left (by omega)]; exact z1, z2⟩
   · have : i = m := by omega
     subst this
     exact ⟨y, by rw [<- e1]; simp, hy⟩
section
variable {H : Type} {enc : TypeId × Value -> H} {P : Program} {W : World}
theorem zgv {t : TypeId} {k : IntKind} (ht : P.underlying t = some (.int k)) (hc : P.cellsOf t = 1) : zea enc P W t Int 1 (fun n _ => .int k n) (fun n => (Lit.int k n).wf = true) := by
 refine ⟨hc, fun fuel cs x h => ?_⟩
 obtain ⟨n, rfl, rfl, hw⟩ := DataW.trod_int ht h
 exact ⟨n, hw, rfl, sgl rfl (.int k n)⟩
theorem opens_str {t : TypeId} (ht : P.underlying t = some .string) (hc : P.cellsOf t = 1) : zea enc P W t (List UInt8) 1 (fun l _ => .str l) (fun l => l.length <= maxLen) := by
 refine ⟨hc, fun fuel cs x h => ?_⟩
 obtain ⟨s, rfl, rfl, hs⟩ := DataW.trod_string ht h
 exact ⟨s.data.toList, by rw [Array.length_toList]; exact hs, rfl, sgl rfl (.str _ _ rfl)⟩
def avL {α : Type} (av : α -> Nat -> AV) (l : List α) (i j : Nat) : AV := match l[i]? with | some y => av y j | none => .dead
theorem ztf {t e : TypeId} {α : Type} {sz : Nat} {av : α -> Nat -> AV} {ok : α -> Prop} (ht : P.underlying t = some (.slice e)) (hc : P.cellsOf t = 1) (he : zea enc P W e α sz av ok) (hs : 0 < sz) :
   zea enc P W t (List α) 1 (fun l _ => .lst sz l.length (avL av l)) (fun l => l.length <= maxLen /\ ∀ y ∈ l, ok y) := by
 refine ⟨hc, fun fuel cs x h => ?_⟩
 rcases DataW.trod_slice ht h with ⟨rfl, rfl⟩ | ⟨a, len, cap, elems, rest, n, _, rfl, rfl, hb, hl, hm, hlen, hel, _, _⟩
 · exact ⟨[], ⟨Nat.zero_le _, fun y hy => by cases hy⟩, rfl, sgl rfl (.lst0 _ _ _ _ (fun _ => rfl))⟩
 · have each : ∀ i, i < len -> ∃ y : α, ok y /\ ∀ j, j < sz -> ∃ v, W.cell? ((a.add (i * sz)).add j) = some v /\ one v /\ R W.heap (DW W) zam (av y j) v := by
     intro i hi
     have h1 := hel i hi
     rw [he.size] at h1
     obtain ⟨z, hz⟩ : ∃ z, elems[i]? = some z := ⟨elems[i], by simp [hlen, hi]⟩
     rw [hz, Option.bind_eq_some_iff] at h1
     obtain ⟨cs', h2, h3⟩ := h1
     obtain ⟨y, y1, y2, y3⟩ := he.go _ _ _ h3
     refine ⟨y, y1, fun j hj => ?_⟩
     obtain ⟨v, v1, v2, v3⟩ := y3 j hj
     exact ⟨v, by rw [(World.cells?_some h2).2.2 j hj]; exact v1, v2, v3⟩
   obtain ⟨l, hl1, hl2⟩ : ∃ l : List α, l.length = len /\ ∀ i, i < len -> ∃ y, l[i]? = some y /\ ok y /\ ∀ j, j < sz -> ∃ v, W.cell? ((a.add (i * sz)).add j) = some v /\ one v /\ R W.heap (DW W) zam (av y j) v :=
     ztr (fun i y => ok y /\ ∀ j, j < sz -> ∃ v, W.cell? ((a.add (i * sz)).add j) = some v /\ one v /\ R W.heap (DW W) zam (av y j) v) len each
   refine ⟨l, ⟨by omega, fun y hy => ?_⟩, rfl, sgl rfl ?_⟩
   · obtain ⟨i, hi, rfl⟩ := List.getElem_of_mem hy
     obtain ⟨z, z1, z2, _⟩ := hl2 i (by omega)
     rw [List.getElem?_eq_getElem hi] at z1
     cases z1; exact z2
   · show R W.heap (DW W) zam (.lst sz l.length (avL av l)) _
     by_cases h0 : len = 0
     · subst h0; rw [hl1]; exact .lst0 _ _ _ _ (fun h => by cases h)
     · have cell : ∀ i j, i < len -> j < sz -> ∃ v, hcell W.heap a.block (a.off + i * sz + j) = some v /\ one v /\ R W.heap (DW W) zam (avL av l i j) v := by
         intro i j hi hj
         obtain ⟨y, y1, _, y3⟩ := hl2 i hi
         obtain ⟨v, v1, v2, v3⟩ := y3 j hj
         refine ⟨v, ?_, v2, by rw [avL, y1]; exact v3⟩
         rw [<- zmw]
         have hsp : ∀ p : Addr, W.cell? p = some v -> p.spot = none := by
           intro p hp
           unfold World.cell? at hp
           split at hp
           · split at hp
             · cases hp
             · rename_i hn; simpa using hn
           · cases hp
         have h1 := hsp _ v1
         have e : (a.add (i * sz)).add j = ⟨a.block, a.off + i * sz + j, none⟩ := by
           have hb1 : ((a.add (i * sz)).add j).block = a.block := by simp only [Addr.add]; split <;> split <;> rfl
           have hb2 : ((a.add (i * sz)).add j).off = a.off + i * sz + j := by simp only [Addr.add]; split <;> split <;> simp_all
           cases hq : (a.add (i * sz)).add j with
           | mk b o s => rw [hq] at h1 hb1 hb2; simp_all
         rw [<- e]; exact v1
       have hsp0 : a.spot = none := by
         obtain ⟨y, _, _, y3⟩ := hl2 0 (by omega)
         obtain ⟨v, v1, _⟩ := y3 0 hs
         rw [Nat.zero_mul] at v1
         simp only [Addr.add, if_true] at v1
         unfold World.cell? at v1
         split at v1
         · split at v1
           · cases v1
           · rename_i hn; simpa using hn
         · cases v1
       have hD : DW W a.block := by
         obtain ⟨v, v1, _⟩ := cell 0 0 (by omega) hs
         refine Classical.byContradiction fun hn => ?_
         unfold hcell at v1
         rw [Array.getElem?_eq_none (by unfold DW at hn; omega)] at v1
         cases v1
       have ea : a = ⟨a.block, a.off, none⟩ := by cases a; simp_all
       rw [ea, <- hl1]
       refine .lst sz l.length (avL av l) a.block a.off cap (fun i j => (hcell W.heap a.block (a.off + i * sz + j)).getD undef) hD (by omega) (fun i j hi hj => ?_) (fun i j hi hj => ?_) (fun i j hi hj => ?_)
       all_goals
         obtain ⟨v, v1, v2, v3⟩ := cell i j (by omega) hj
         rw [v1]
         first | rfl | exact v2 | exact v3
theorem ybt {t e : TypeId} {α : Type} {sz n : Nat} {av : α -> Nat -> AV} {ok : α -> Prop} (ht : P.underlying t = some (.array n e)) (hc : P.cellsOf t = n * sz) (he : zea enc P W e α sz av ok) (hs : 0 < sz) :
   zea enc P W t (List α) (n * sz) (fun l j => avL av l (j / sz) (j % sz)) (fun l => l.length = n /\ ∀ y ∈ l, ok y) := by
 refine ⟨hc, fun fuel cs x h => ?_⟩
 obtain ⟨xs, m, _, rfl, hl, hx, hel⟩ := DataW.trod_array ht h
 obtain ⟨l, hl1, hl2⟩ : ∃ l : List α, l.length = n /\ ∀ i, i < n -> ∃ y, l[i]? = some y /\ ok y /\ ∀ j, j < sz -> ∃ v, cs[i * sz + j]? = some v /\ one v /\ R W.heap (DW W) zam (av y j) v :=
   ztr (fun i y => ok y /\ ∀ j, j < sz -> ∃ v, cs[i * sz + j]? = some v /\ one v /\ R W.heap (DW W) zam (av y j) v) n (fun i hi => by
     have h1 := hel i hi
     rw [he.size, List.getElem?_eq_getElem (by omega)] at h1
     obtain ⟨y, y1, y2, y3⟩ := he.go _ _ _ h1
     refine ⟨y, y1, fun j hj => ?_⟩
     obtain ⟨v, v1, v2⟩ := y3 j hj
     rw [List.getElem?_take, if_pos hj, List.getElem?_drop] at v1
     exact ⟨v, v1, v2⟩)
 refine ⟨l, ⟨hl1, fun y hy => ?_⟩, by rw [hl, hc], fun j hj => ?_⟩
 · obtain ⟨i, hi, rfl⟩ := List.getElem_of_mem hy
   obtain ⟨z, z1, z2, _⟩ := hl2 i (by omega)
   rw [List.getElem?_eq_getElem hi] at z1
   cases z1; exact z2
 · have hi : j / sz < n := Nat.div_lt_of_lt_mul (by rw [Nat.mul_comm]; exact hj)
   obtain ⟨z, z1, _, z3⟩ := hl2 (j / sz) hi
   obtain ⟨v, v1, v2⟩ := z3 (j % sz) (Nat.mod_lt _ hs)
   rw [show j / sz * sz + j % sz = j by rw [Nat.mul_comm]; exact Nat.div_add_mod j sz] at v1
   exact ⟨v, v1, by unfold avL; rw [z1]; exact v2⟩
theorem zeb (off : Nat) : zwr enc P W [] off Unit 0 (fun _ _ => .dead) (fun _ => True) := ⟨fun _ _ _ _ => ⟨(), trivial, fun j hj => by omega⟩⟩
theorem zaq {f : Field} {fs : List Field} {off : Nat} {α β : Type} {sz sz' : Nat} {av : α -> Nat -> AV} {av' : β -> Nat -> AV} {ok : α -> Prop} {ok' : β -> Prop} (ho : f.offset = off) (hf : zea enc P W f.type α sz av ok) (hr : zwr enc P W fs (off + sz) β sz' av' ok') :
   zwr enc P W (f :: fs) off (α × β) (sz + sz') (fun y j => if j < sz then av y.1 j else av' y.2 (j - sz)) (fun y => ok y.1 /\ ok' y.2) := by
 refine ⟨fun fuel cs xs h => ?_⟩
 obtain ⟨x, hx⟩ := h 0 f rfl
 obtain ⟨y, y1, y2, y3⟩ := hf.go _ _ _ hx
 obtain ⟨z, z1, z2⟩ := hr.go fuel cs xs (fun i g hg => h (i + 1) g hg)
 refine ⟨(y, z), ⟨y1, z1⟩, fun j hj => ?_⟩
 by_cases hlt : j < sz
 · obtain ⟨v, v1, v2, v3⟩ := y3 j hlt
   refine ⟨v, ?_, v2, by simp only [if_pos hlt]; exact v3⟩
   rw [hf.size, List.getElem?_take, if_pos hlt, List.getElem?_drop, ho] at v1
   exact v1
 · obtain ⟨v, v1, v2, v3⟩ := z2 (j - sz) (by omega)
   refine ⟨v, ?_, v2, by simp only [if_neg hlt]; exact v3⟩
   rw [<- v1]; congr 1; omega
theorem zd2 {t : TypeId} {fs : Array Field} {α : Type} {sz : Nat} {av : α -> Nat -> AV} {ok : α -> Prop} (ht : P.underlying t = some (.struct fs)) (hc : P.cellsOf t = sz) (hf : zwr enc P W fs.toList 0 α sz av ok) : zea enc P W t α sz av ok := by
 refine ⟨hc, fun fuel cs x h => ?_⟩
 obtain ⟨xs, n, rfl, rfl, hl, hx, hfs⟩ := DataW.trod_struct ht h
 obtain ⟨y, y1, y2⟩ := hf.go n cs xs (fun i f hi => by
   have := hfs i f (by simpa using hi)
   have hlt : i < xs.length := by rw [hx]; simpa using (List.getElem?_eq_some_iff.1 hi).1
   exact ⟨xs[i], by rw [this]; simp [hlt]⟩)
 exact ⟨y, y1, by omega, fun j hj => by obtain ⟨v, v1, v2⟩ := y2 j hj; exact ⟨v, by simpa using v1, v2⟩⟩
theorem zea.map {t : TypeId} {α β : Type} {sz : Nat} {av : α -> Nat -> AV} {av' : β -> Nat -> AV} {ok : α -> Prop} {ok' : β -> Prop} (O : zea enc P W t α sz av ok) (f : α -> β) (h1 : ∀ y j, j < sz -> av y j = av' (f y) j) (h2 : ∀ y, ok y -> ok' (f y)) : zea enc P W t β sz av' ok' := by
 refine ⟨O.size, fun fuel cs x h => ?_⟩
 obtain ⟨y, y1, y2, y3⟩ := O.go fuel cs x h
 refine ⟨f y, h2 y y1, y2, fun j hj => ?_⟩
 obtain ⟨v, v1, v2, v3⟩ := y3 j hj
 exact ⟨v, v1, v2, by rw [<- h1 y j hj]; exact v3⟩
theorem open_one {t : TypeId} {α : Type} {av : α -> Nat -> AV} {ok : α -> Prop} {v : Value} {d : DataW H} {p : List MemPlace} (O : zea enc P W t α 1 av ok) (hv : v.cells = #[v]) (h : DataW.Trod enc P W 0 (fun _ => true) true t v d p) :
   ∃ y, ok y /\ R W.heap (DW W) zam (av y 0) v := by
 obtain ⟨fuel, h⟩ := h
 obtain ⟨y, y1, y2, y3⟩ := O.go _ _ _ h
 obtain ⟨u, u1, u2, u3⟩ := y3 0 (by omega)
 rw [hv] at u1
 simp at u1
 subst u1
 exact ⟨y, y1, u3⟩
theorem open_agg {t : TypeId} {α : Type} {sz : Nat} {av : α -> Nat -> AV} {ok : α -> Prop} {cs : Array Value} {d : DataW H} {p : List MemPlace} (O : zea enc P W t α sz av ok) (h : DataW.Trod enc P W 0 (fun _ => true) true t (.agg cs) d p) :
   ∃ y, ok y /\ R W.heap (DW W) zam (.agg ((List.range sz).map (av y))) (.agg cs) := by
 obtain ⟨fuel, h⟩ := h
 obtain ⟨y, y1, y2, y3⟩ := O.go _ _ _ h
 refine ⟨y, y1, .agg _ _ (by simpa [Value.cells] using y2.symm) (fun i v hv => ?_) (fun i x v hx hv => ?_)⟩
 · have hi : i < sz := by
     have := (Array.getElem?_eq_some_iff.1 hv).1
     simp [Value.cells] at y2; omega
   obtain ⟨u, u1, u2, u3⟩ := y3 i hi
   simp [Value.cells] at u1
   rw [u1] at hv; cases hv; exact u2
 · have hi : i < sz := by
     have := (List.getElem?_eq_some_iff.1 hx).1
     simpa using this
   obtain ⟨u, u1, u2, u3⟩ := y3 i hi
   simp [Value.cells] at u1
   rw [u1] at hv; cases hv
   simp [hi] at hx
   subst hx; exact u3
end
theorem yem {P : Program} {f : FuncId} {xs ys : List AV} {r : AV} (h : ∀ h D vs, RL h D zam xs vs -> RL h D zam ys vs) (ha : za5 P f ys r) : za5 P f xs r := fun D w vs hD hx => ha D w vs hD (h _ _ _ hx)
end Sy
end Go.Proofs.YtfonekpmkdkgnaaGreatDoor
namespace Go.Proofs.YtfonekpmkdkgnaaGreatDoor
namespace Sy
open Go Go.RowKit
set_option maxRecDepth 100000
set_option linter.unusedSimpArgs false
set_option linter.unusedVariables false
structure Vw (α : Type) where
 sz : Nat
 cell : za9 -> α -> Nat -> AV
 rd : (Nat -> AV) -> α
 ok : (Nat -> AV) -> Prop
 d : α
structure zwq {α : Type} (V : Vw α) : Prop where
 turn : ∀ c, V.ok c -> ∀ j, j < V.sz -> ∀ (h : Array Obj) (D : Nat -> Prop) (μ : Mu) (v : Value), R h D μ (c j) v -> R h D μ (V.cell std (V.rd c) j) v
 back : ∀ c x, (∀ j, j < V.sz -> c j = V.cell std x j) -> V.ok c /\ V.rd c = x
def zil {α : Type} (V : Vw α) (l : List α) (i : Nat) : α := l.getD i V.d
def zab {α : Type} (l : List α) : Nat := l.length
def getW {α : Type} (L : za9) (V : Vw α) (l : List α) : Nat -> Nat -> AV := fun i j => V.cell L (L (L (zil V) l) i) j
def ycf {α : Type} (L : za9) (V : Vw α) (l : List α) : AV := .lst V.sz (L zab l) (getW L V l)
def rdW {α : Type} (V : Vw α) : AV -> List α
 | .lst _ n get => (List.range n).map fun i => V.rd (get i)
 | _ => []
def okW {α : Type} (V : Vw α) : AV -> Prop
 | .lst sz n get => sz = V.sz /\ ∀ i, i < n -> V.ok (get i)
 | .nils => True
 | _ => False
theorem zat {α : Type} {V : Vw α} {l : List α} {i : Nat} (h : i < l.length) : zil V l i = l[i] := by
 rw [zil, List.getD_eq_getElem?_getD, List.getElem?_eq_getElem h]; rfl
theorem zt4 {α : Type} (V : Vw α) (sz n : Nat) (get : Nat -> Nat -> AV) : (rdW V (.lst sz n get)).length = n := by simp [rdW]
theorem yja {α : Type} {V : Vw α} {sz n : Nat} {get : Nat -> Nat -> AV} {i : Nat} (h : i < n) : zil V (rdW V (.lst sz n get)) i = V.rd (get i) := by
 rw [zat (by rw [zt4]; exact h)]
 simp [rdW]
theorem zxv {α : Type} {V : Vw α} (K : zwq V) {h : Array Obj} {D : Nat -> Prop} {μ : Mu} {x : AV} {v : Value} (ho : okW V x) (r : R h D μ x v) : R h D μ (ycf std V (rdW V x)) v := by
 match x, ho with
 | .nils, _ => cases r; exact .lst0 _ _ none 0 (fun _ => rfl)
 | .lst sz n get, ho =>
   obtain ⟨rfl, ho⟩ := ho
   have e : ycf std V (rdW V (.lst V.sz n get)) = .lst V.sz n (getW std V (rdW V (.lst V.sz n get))) := by
     show AV.lst V.sz (zab (rdW V (.lst V.sz n get))) _ = _
     rw [show zab (rdW V (.lst V.sz n get)) = n from zt4 _ _ _ _]
   rw [e]
   cases r with
   | lst0 _ _ a cap hn => exact .lst0 _ _ a cap hn
   | lst _ _ _ b o cap vs hD hc hv h1 hr =>
     refine .lst _ _ _ b o cap vs hD hc hv h1 (fun i j hi hj => ?_)
     show R h D zam (V.cell std (zil V (rdW V (.lst V.sz n get)) i) j) (vs i j)
     rw [yja hi]
     exact K.turn _ (ho i hi) j hj _ _ _ _ (hr i j hi hj)
theorem ziv {α : Type} {V : Vw α} (K : zwq V) {n : Nat} {get : Nat -> Nat -> AV} {l : List α} (hn : n = l.length) (h : ∀ i j, i < n -> j < V.sz -> get i j = V.cell std (zil V l i) j) : okW V (.lst V.sz n get) /\ rdW V (.lst V.sz n get) = l := by
 subst hn
 refine ⟨⟨rfl, fun i hi => (K.back _ _ (fun j hj => h i j hi hj)).1⟩, ?_⟩
 apply List.ext_getElem
 · rw [zt4]
 · intro i h1 h2
   have := yja (V := V) (sz := V.sz) (get := get) h2
   rw [zat h1] at this
   rw [this, (K.back _ _ (fun j hj => h i j h2 hj)).2, zat h2]
theorem zdx {α : Type} {V : Vw α} (K : zwq V) (l : List α) : okW V (ycf std V l) /\ rdW V (ycf std V l) = l := ziv K rfl (fun i j hi hj => rfl)
theorem zhx {α : Type} {V : Vw α} (K : zwq V) {P : Program} {f : FuncId} {x r : AV} {xs : List AV} (ho : okW V x) (h : za5 P f (ycf std V (rdW V x) :: xs) r) : za5 P f (x :: xs) r :=
 yem (fun hp D vs hr => by
   refine ⟨by rw [<- hr.1]; rfl, fun i z v hz hv => ?_⟩
   cases i with
   | zero => cases hz; exact zxv K ho (hr.2 0 x v rfl hv)
   | succ i => exact hr.2 (i + 1) z v hz hv) h
theorem yik {α : Type} {V : Vw α} (K : zwq V) {P : Program} {f : FuncId} {y x r : AV} {xs : List AV} (ho : okW V x) (h : za5 P f (y :: ycf std V (rdW V x) :: xs) r) : za5 P f (y :: x :: xs) r :=
 yem (fun hp D vs hr => by
   refine ⟨by rw [<- hr.1]; rfl, fun i z v hz hv => ?_⟩
   match i, hz with
   | 0, hz => exact hr.2 0 z v hz hv
   | 1, hz => cases hz; exact zxv K ho (hr.2 1 x v rfl hv)
   | i + 2, hz => exact hr.2 (i + 2) z v hz hv) h
def ybn (x : AV) : List UInt8 := match x with | .str s => s | _ => []
def isS (x : AV) : Prop := ∃ s, x = .str s
def isI (k : IntKind) (x : AV) : Prop := ∃ n, x = .int k n
theorem ycm {x : AV} (h : isS x) {hp : Array Obj} {D : Nat -> Prop} {μ : Mu} {v : Value} (r : R hp D μ x v) : R hp D μ (.str (ybn x)) v := by obtain ⟨s, rfl⟩ := h; exact r
theorem zrl {k : IntKind} {x : AV} (h : isI k x) {hp : Array Obj} {D : Nat -> Prop} {μ : Mu} {v : Value} (r : R hp D μ x v) : R hp D μ (.int k x.toI) v := by obtain ⟨s, rfl⟩ := h; exact r
def zfi {α : Type} (p : α -> Bool) : List α -> Int
 | [] => -1
 | x :: l => if p x = true then 0 else if zfi p l < 0 then -1 else zfi p l + 1
theorem zbd {α : Type} (p : α -> Bool) : ∀ l : List α, -1 <= zfi p l /\ zfi p l < l.length
 | [] => by simp [zfi]
 | x :: l => by
   have ih := zbd p l
   rw [List.length_cons]
   unfold zfi
   split
   · omega
   · split <;> omega
theorem zj7 {α : Type} (p : α -> Bool) : ∀ l : List α, decide (0 <= zfi p l) = l.any p
 | [] => by simp [zfi]
 | x :: l => by
   have ih := zj7 p l
   unfold zfi
   by_cases h : p x = true
   · simp [h]
   · have h' : p x = false := by simpa using h
     rw [if_neg h, List.any_cons, h', Bool.false_or, <- ih]
     split
     · rename_i h2; rw [decide_eq_false (by omega), decide_eq_false (by omega)]
     · rename_i h2; rw [decide_eq_true (by omega), decide_eq_true (by omega)]
theorem ycu {α : Type} {p : α -> Bool} : ∀ {l : List α} {i : Nat} (hi : i < l.length), (∀ k (hk : k < i), p (l[k]'(by omega)) = false) -> p l[i] = true -> zfi p l = i
 | [], i, hi, _, _ => by simp at hi
 | x :: l, 0, hi, _, h => by simp at h; simp [zfi, h]
 | x :: l, i + 1, hi, h0, h => by
   have hx : p x = false := by simpa using h0 0 (by omega)
   have ih := ycu (p := p) (l := l) (i := i) (by simpa using hi) (fun k hk => by have := h0 (k + 1) (by omega); simpa using this) (by simpa using h)
   rw [zfi, if_neg (by rw [hx]; decide), if_neg (by omega), ih]; simp
theorem yct {α : Type} {p : α -> Bool} : ∀ {l : List α}, (∀ x ∈ l, p x = false) -> zfi p l = -1
 | [], _ => rfl
 | x :: l, h => by
   have hx := h x (by simp)
   have ih := yct (p := p) (l := l) (fun y hy => h y (by simp [hy]))
   rw [zfi, if_neg (by rw [hx]; decide), if_pos (by omega)]
def zm3 {α : Type} (p : α -> Bool) (l : List α) (i : Nat) : Prop := i <= l.length /\ ∀ x ∈ l.take i, p x = false
theorem zk6 {α : Type} (p : α -> Bool) (l : List α) : zm3 p l 0 := ⟨Nat.zero_le _, fun x hx => by simp at hx⟩
theorem zec {α : Type} {V : Vw α} {p : α -> Bool} {l : List α} {i : Nat} (h : zm3 p l i) (hi : i < l.length) (hp : p (zil V l i) = false) : zm3 p l (i + 1) := by
 refine ⟨hi, fun x hx => ?_⟩
 rw [List.take_succ_eq_append_getElem hi, List.mem_append] at hx
 rcases hx with hx | hx
 · exact h.2 x hx
 · rw [List.mem_singleton.1 hx, <- zat (V := V) hi]; exact hp
theorem zfd {α : Type} {V : Vw α} {p : α -> Bool} {l : List α} {i : Nat} (h : zm3 p l i) (hi : i < l.length) (hp : p (zil V l i) = true) : zfi p l = i := by
 rw [zat hi] at hp
 refine ycu hi (fun k hk => h.2 _ ?_) hp
 rw [List.mem_take_iff_getElem]
 exact ⟨k, by omega, rfl⟩
theorem zfe {α : Type} {p : α -> Bool} {l : List α} {i : Nat} (h : zm3 p l i) (hi : ¬ i < l.length) : zfi p l = -1 := by
 have := h.2
 rw [List.take_of_length_le (by omega)] at this
 exact yct this
end Sy
end Go.Proofs.YtfonekpmkdkgnaaGreatDoor
namespace Go.Proofs.YtfonekpmkdkgnaaGreatDoor
open Go.RowKit Go.WideShapes Go.ChangeShapes Go.ChangeAt
def zn0 (b : UInt8) : Value := .int .u8 (b.toNat : Int)
def str (l : List UInt8) : Value := .string ⟨l.toArray⟩
theorem zii (n : Nat) : zn0 (UInt8.ofNat n) = .int .u8 ((n : Int) % 256) := by
 have h : (((UInt8.ofNat n).toNat : Nat) : Int) = (n : Int) % 256 := by
   rw [UInt8.toNat_ofNat']; omega
 unfold zn0; rw [h]
@[go_sem] theorem ba_get (l : List UInt8) (k : Nat) (h : k < (⟨l.toArray⟩ : ByteArray).size) : (⟨l.toArray⟩ : ByteArray)[k] = l[k]'h := rfl
@[go_sem] theorem ba_append (a b : List UInt8) : (⟨a.toArray⟩ : ByteArray) ++ ⟨b.toArray⟩ = ⟨(a ++ b).toArray⟩ := by
 apply ByteArray.ext; simp
theorem zjj (l : List UInt8) (a b : Nat) : (⟨l.toArray⟩ : ByteArray).extract a b = ⟨((l.drop a).take (b - a)).toArray⟩ := by
 apply ByteArray.ext; simp [ByteArray.data_extract]
@[go_sem] theorem ba_extract_all (l : List UInt8) (a : Nat) : (⟨l.toArray⟩ : ByteArray).extract a l.length = ⟨(l.drop a).toArray⟩ := by
 rw [zjj, List.take_of_length_le (by simp)]
@[go_sem] theorem ba_extract_zero (l : List UInt8) (b : Nat) : (⟨l.toArray⟩ : ByteArray).extract 0 b = ⟨(l.take b).toArray⟩ := by
 rw [zjj, List.drop_zero, Nat.sub_zero]
@[go_sem] theorem wrap_byte_u64 (b : UInt8) : IntKind.u64.wrap (b.toNat : Int) = b.toNat := by
 have := b.toNat_lt; rw [IntKind.wrap_u64]; omega
@[go_sem] theorem wrap_byte_u32 (b : UInt8) : IntKind.u32.wrap (b.toNat : Int) = b.toNat := by
 have := b.toNat_lt; rw [IntKind.wrap_u32]; omega
@[go_sem] theorem wrap_byte_u16 (b : UInt8) : IntKind.u16.wrap (b.toNat : Int) = b.toNat := by
 have := b.toNat_lt; rw [IntKind.wrap_u16]; omega
@[go_sem] theorem wrap_byte_u8 (b : UInt8) : IntKind.u8.wrap (b.toNat : Int) = b.toNat := by
 have := b.toNat_lt; rw [IntKind.wrap_u8]; omega
@[go_sem] theorem wrap_byte_i64 (b : UInt8) : IntKind.i64.wrap (b.toNat : Int) = b.toNat := by
 have := b.toNat_lt; rw [IntKind.wrap_i64]; omega
theorem zjl (g j : Nat) : (⟨g, 0, none⟩ : Addr).add j = ⟨g, j, none⟩ := by
 unfold Addr.add
 split
 · rename_i h; rw [h]
 · rw [Nat.zero_add]
theorem yi8 {P : Program} {w : World} {src dst e : TypeId} {g n cap : Nat} {f : Nat -> Value} (l : List UInt8) (hs : P.underlying src = some (.slice e)) (he : P.underlying e = some (.int .u8)) (hd : P.underlying dst = some .string)
   (hr : w.rowIs g e n f) (hl : l.length = n) (hf : ∀ i (hi : i < l.length), f i = zn0 l[i]) :
   (convert src dst (.slice (some ⟨g, 0, none⟩) n cap)).run P w = .ok (.string ⟨l.toArray⟩) w := by
 subst hl
 refine run_convert_bytes_back w src dst e _ cap l hs he hd fun j hj => ?_
 have := hr.cell hj
 rw [hf j hj] at this
 rw [zjl]
 exact this
def Row (w : World) (b : Nat) (t : TypeId) (n : Nat) (f : Nat -> Value) : Prop :=
 ∃ (c : Array Value) (lo hi : Nat), w.heap[b]? = some (.cells c t (lo, hi)) /\ n <= c.size /\ (hi = 0 \/ n <= lo) /\ ∀ i, i < n -> c[i]? = some (f i)
section
variable {w w' : World} {b : Nat} {t : TypeId} {n : Nat} {f g : Nat -> Value}
theorem Row.cell (h : Row w b t n f) {i : Nat} (hi : i < n) : w.cell? ⟨b, i, none⟩ = some (f i) := by
 obtain ⟨c, lo, hi', hb, _, _, hc⟩ := h
 simp [World.cell?, hb, hc i hi]
theorem Row.frozen (h : Row w b t n f) {i : Nat} (hi : i < n) : w.frozen? ⟨b, i, none⟩ = false := by
 obtain ⟨c, lo, hi', hb, _, hf, _⟩ := h
 simp only [World.frozen?, hb]
 rcases hf with hf | hf
 · subst hf; simp
 · simp; omega
theorem Row.lt (h : Row w b t n f) : b < w.heap.size := by
 obtain ⟨c, lo, hi, hb, _⟩ := h
 exact (Array.getElem?_eq_some_iff.1 hb).1
theorem Row.congr (h : Row w b t n f) (e : ∀ i, i < n -> f i = g i) : Row w b t n g := by
 obtain ⟨c, lo, hi, hb, hn, hf, hc⟩ := h
 exact ⟨c, lo, hi, hb, hn, hf, fun i hi => by rw [hc i hi, e i hi]⟩
theorem Row.of_block (h : Row w b t n f) (e : w'.heap[b]? = w.heap[b]?) : Row w' b t n f := by
 obtain ⟨c, lo, hi, hb, hn, hf, hc⟩ := h
 exact ⟨c, lo, hi, e.trans hb, hn, hf, hc⟩
theorem Row.set (h : Row w b t n f) (i : Nat) (v : Value) : Row (w.setCell ⟨b, i, none⟩ v) b t n (fun j => if j = i then v else f j) := by
 obtain ⟨c, lo, hi', hb, hn, hf, hc⟩ := h
 refine ⟨c.setIfInBounds i v, lo, hi', ?_, by simpa using hn, hf, fun j hj => ?_⟩
 · simp [World.setCell, Array.getElem?_modify, hb]
 · rw [Array.getElem?_setIfInBounds]
   by_cases e : i = j
   · subst e
     have : i < c.size := by omega
     simp [this]
   · rw [if_neg e, hc j hj]
     show _ = some (if j = i then v else f j)
     rw [if_neg (fun (h : j = i) => e h.symm)]
theorem Row.alloc (h : Row w b t n f) (o : Obj) : Row (w.alloc o) b t n f := h.of_block (Below.heap_alloc _ _ _ h.lt)
theorem Row.drewN (h : Row w b t n f) (k : Nat) : Row (w.drewN k) b t n f := h
theorem Row.bytes (w : World) (t : TypeId) (l : List UInt8) (cap : Nat) : Row (w.alloc (.cells (bytesRow ⟨l.toArray⟩ cap) t ((bytesRow ⟨l.toArray⟩ cap).size, (bytesRow ⟨l.toArray⟩ cap).size + 1))) w.heap.size t l.length (fun j => zn0 (l.getD j 0)) := by
 refine ⟨bytesRow ⟨l.toArray⟩ cap, _, _, heap_alloc_new _ _, by simp [bytesRow], .inr (by simp [bytesRow]), fun i hi => ?_⟩
 rw [bytesRow_at _ _ _ (by simpa using hi)]
 simp [zn0, hi]
end
def Blk (w : World) (g : Nat) (t : TypeId) (cs : Array Value) : Prop := w.heap[g]? = some (.cells cs t (0, 0))
section
variable {w w' : World} {g : Nat} {t : TypeId} {cs : Array Value}
theorem Blk.lt (h : Blk w g t cs) : g < w.heap.size := by
 rcases Nat.lt_or_ge g w.heap.size with hlt | hge
 · exact hlt
 · unfold Blk at h; rw [Array.getElem?_eq_none hge] at h; cases h
theorem Blk.cell (h : Blk w g t cs) (i : Nat) : w.cell? ⟨g, i, none⟩ = cs[i]? := cell_of_row w g i cs t (0, 0) h
theorem Blk.frozen (h : Blk w g t cs) (i : Nat) : w.frozen? ⟨g, i, none⟩ = false := by
 unfold Blk at h
 simp [World.frozen?, h]
theorem Blk.new (w : World) (t : TypeId) (cs : Array Value) : Blk (w.alloc (.cells cs t)) w.heap.size t cs := heap_alloc_new w _
theorem Blk.drew (h : Blk w g t cs) : Blk w.drew g t cs := h
theorem Blk.drewN (h : Blk w g t cs) (n : Nat) : Blk (w.drewN n) g t cs := h
theorem Blk.alloc (h : Blk w g t cs) (o : Obj) : Blk (w.alloc o) g t cs := (Below.heap_alloc w o g h.lt).trans h
theorem Blk.grown {row : Option Nat} (h : Blk w g t cs) (hb : w.grownBy w' row) (hg : some g ≠ row) : Blk w' g t cs := (hb.block g h.lt hg).trans h
end
theorem zmz {base : Nat} {e : TypeId} {size n : Nat} {v : Value} {xs : List Value} {w w' : World} (hown : w.ownsRow base e size v n xs) (hb : base <= w.heap.size) (hg : w.grownBy w' v.ownBlock) : Below base w w' :=
 (Below.refl _ _).grown hg hb fun k hk => (hown.lt k hk).1
theorem zlj {P : Program} {ops : Array Oper} {rest : List Oper} {o : Oper} {a : Act} {Q : Exit -> Act -> World -> Prop} (wr : World) (hgd : o.guard = none) (s x : Operand) (t : TypeId)
   (ho : o.op = .call { callee := .builtin .append, args := #[s, x], argTypes := #[t, t] })
   (base : Nat) (e : TypeId) (z : Value) (bytes : Nat) (ht : P.underlying t = some (.slice e)) (hinfo : (P.info? e).map (fun i => (i.zero, i.size, i.bytes)) = some (some z, 1, bytes)) (hz1 : z.cells.size = 1)
   (v : Value) (n : Nat) (xs : List Value) (hs : a.eval s = v) (hown : wr.ownsRow base e 1 v n xs)
   (c : Value) (h1 : c.oneCell' = true) (hx : a.eval x = .slice (some ⟨wr.heap.size, 0, none⟩) 1 1)
   (hbytes : (n + 1) * bytes <= 140737488355328) (hn : n < 9223372036854775807) (hbase : base <= wr.heap.size)
   (h : ∀ v' w', w'.ownsRow base e 1 v' (n + 1) (xs ++ [c]) -> Below base wr w' -> wpList P ops Q rest (a.put o.dst v') w') : wpList P ops Q (o :: rest) a (wr.alloc (.cells #[c] e)) := by
 obtain ⟨i, hi, hzz⟩ := Option.map_eq_some_iff.1 hinfo
 simp only [Prod.mk.injEq] at hzz
 obtain ⟨hz, hsz, hby⟩ := hzz
 have hown' := hown.alloc (.cells #[c] e)
 refine wpList_append_own _ hgd s x t ho base e i z 1 bytes ht hi hz hsz hby hz1 (by decide) v n xs hs hown' ⟨wr.heap.size, 0, none⟩ 1 1 [c] hx rfl ?_ ?_ ?_ hbytes ?_ ?_
 · intro j u hj
   match j, hj with
   | 0, hj =>
     simp at hj; subst hj
     rw [zjl, cell_of_row _ _ _ _ _ _ (heap_alloc_new wr _)]; rfl
 · intro u hu
   simp at hu; subst hu; exact h1
 · unfold maxLen; omega
 · simp; omega
 · intro v' w' ho' hg _
   exact h v' w' ho' (((Below.refl _ _).alloc hbase _).trans (zmz hown' (by simp; omega) hg))
theorem zz1 {P : Program} {src dst e : TypeId} (hs : P.underlying src = some (.slice e)) (he : P.underlying e = some (.int .u8)) (hd : P.underlying dst = some .string) {w : World} {base n : Nat} {v : Value} (l : List UInt8)
   (h : w.ownsRow base e 1 v n (l.map zn0)) : (convert src dst v).run P w = .ok (.string ⟨l.toArray⟩) w := by
 rcases h.2 with ⟨rfl, rfl⟩ | ⟨g, cap, cur, rfl, _, hh, hnc, _, hsz, hx⟩
 · have hl : l = [] := by have := h.1; simpa using this
   subst hl
   rw [run_convert_bytes_string w src dst e none 0 0 hs he hd]
   simp [Conv.bytesToString]; rfl
 · have hl : l.length = n := by have := h.1; simpa using this
   subst hl
   refine run_convert_bytes_back w src dst e _ cap l hs he hd fun j hj => ?_
   have := h.cells (g := g) rfl j (zn0 l[j]) (by simp [hj])
   exact this
theorem ybf {a b : List UInt8} (h : a = b) : Ending.returned (.string ⟨a.toArray⟩) = .returned (.string ⟨b.toArray⟩) := by rw [h]
theorem znc {P : Program} {a : Act} {w : World} {Q : Exit -> Act -> World -> Prop} {c rest : Code} (l : Nat) (J : Act -> World -> Prop) (μ : Act -> World -> Nat) (hf : findLabel c l = some (.seq .skip rest))
   (pass : ∀ a w, J a w -> rest.wp P (Exit.jump l (fun a' w' => J a' w' /\ μ a' w' < μ a w) Q) a w)
   (first : Hid (∀ a w, J a w -> rest.wp P (Exit.jump l J Q) a w) -> c.wp P (Exit.jump l J Q) a w) : (Code.scope c).wp P Q a w := by
 refine wp_scope_jumps l J μ hf (first fun a w hJ => Code.wp_mono (fun e a' w' hq => ?_) (pass a w hJ)) fun a w hJ => wp_seq (wp_skip (pass a w hJ))
 cases e <;> first | exact hq | exact ⟨hq.1, hq.2.1⟩
section
variable {l : Nat} {J : Act -> World -> Prop} {Q : Exit -> Act -> World -> Prop} {a : Act} {w : World}
@[go_sem] theorem jump_normal : Exit.jump l J Q .normal a w = Q .normal a w := rfl
@[go_sem] theorem jump_exit (id : Nat) : Exit.jump l J Q (.exit id) a w = Q (.exit id) a w := rfl
@[go_sem] theorem jump_ret : Exit.jump l J Q .ret a w = Q .ret a w := rfl
@[go_sem] theorem jump_panic (ch : List PanicEntry) : Exit.jump l J Q (.panic ch) a w = Q (.panic ch) a w := rfl
end
section
variable {H : Type} {enc : TypeId × Value -> H} {P : Program}
theorem zpc {f : Func} {s : ChangeSpec} {apart fresh handsOn again : Bool} {W W' : World} {args : Array Value} {v : Value} {ds gs : List (DataW H)} {before pa pv : List MemPlace}
   (hW : DataW.Whole enc P f.params.toList s.vars apart W args.toList ds gs before)
   (hres : ∀ (b : Nat) (sp : Nat -> Bool) (hd : Bool), DataW.TrodAll enc P W' b sp hd f.resultTypes.toList (v.resultList f.resultTypes.size) (s.fn H (ds ++ gs)).results [])
   (hargs : ∀ sp : Nat -> Bool, (∀ p ∈ before, sp p.block = true) -> DataW.TrodAll enc P W' 0 sp true f.params.toList args.toList (s.fn H (ds ++ gs)).args pa)
   (hvars : ∀ sp : Nat -> Bool, (∀ p ∈ before, sp p.block = true) -> DataW.TrodVars enc P W' sp s.vars (s.fn H (ds ++ gs)).vars pv)
   (hps : before = pa ++ pv) (hb : Below W.heap.size W W')
   (hok : ∀ (j : Nat) (t : TypeId) (r : Value), f.resultTypes[j]? = some t -> (v.resultList f.resultTypes.size)[j]? = some r -> Value.okWide P W' .any 0 t r) :
   s.post enc P f apart fresh handsOn again W args v W' := by
 have hlt : ∀ p ∈ before, p.block < W.heap.size := fun p hp => hW.lt p hp
 have hold : ∀ p ∈ before, (fun b => decide (b < W.heap.size)) p.block = true := fun p hp => by simpa using hlt p hp
 refine ⟨ds, gs, before, [], pa, pv, hW, hres _ _ _, hargs _ hold, hvars _ hold, World.keptBut_mono (fun p hp => ⟨hp, ?_⟩) (hb.frame (· ∈ before)), fun _ => ?_⟩
 · rw [hps, List.mem_append] at hp
   exact Or.inr hp
 · obtain ⟨_, _, _, _, _, hz, hn⟩ := hW
   refine ⟨hok, _, _, ([] ++ pa) ++ pv, ⟨[] ++ pa, pv, trodAll_append (hargs _ (fun _ _ => rfl)) (hres _ _ _), hvars _ (fun _ _ => rfl), rfl, ?_, ?_⟩, ?_⟩
   · intro b off hp
     have hin : MemPlace.cell b off ∈ before := by rw [hps]; simpa using hp
     rw [hb.frozen (hlt _ hin)]
     exact hz b off hin
   · intro ha
     have := hn ha
     rw [hps] at this
     simpa using this
   · intro p hp _
     rw [hps]
     simpa using hp
theorem zio (hl : laidOutB P = true) {W W' : World} (hb : Below W.heap.size W W') {sp : Nat -> Bool} :
   ∀ {ts : List TypeId} {vs : List Value} {ds : List (DataW H)} {ps : List MemPlace}, (∀ t ∈ ts, P.readableRec t = true /\ t < P.types.size) ->
   DataW.TrodAll enc P W 0 (fun _ => true) true ts vs ds ps -> (∀ x ∈ ps, x.block < W.heap.size) -> (∀ x ∈ ps, sp x.block = true) -> DataW.TrodAll enc P W' 0 sp true ts vs ds ps
 | [], [], [], _, _, h, _, _ => h
 | _ :: _, _ :: _, _ :: _, _, hr, ⟨p, q, h1, h2, e⟩, hlt, hs =>
   ⟨p, q, WideElems.Trod_stays hl (hr _ (List.mem_cons.2 (Or.inl rfl))).1 (hr _ (List.mem_cons.2 (Or.inl rfl))).2 h1
       (fun x hx => hb.same (hlt x (by rw [e]; exact List.mem_append_left _ hx))) (fun x hx => hs x (by rw [e]; exact List.mem_append_left _ hx)),
     zio hl hb (fun t ht => hr t (List.mem_cons.2 (Or.inr ht))) h2 (fun x hx => hlt x (by rw [e]; exact List.mem_append_right _ hx)) (fun x hx => hs x (by rw [e]; exact List.mem_append_right _ hx)), e⟩
theorem post_law {f : Func} {s : ChangeSpec} {apart fresh handsOn again : Bool} {W W' : World} {args : Array Value} {ds : List (DataW H)} {before : List MemPlace} {tb : TypeId}
   (hl : laidOutB P = true) (hr : (f.params.toList.all fun t => P.readableRec t && decide (t < P.types.size)) = true) (hbt : f.resultTypes = #[tb]) (hub : P.underlying tb = some .bool) (hsv : s.vars = [])
   (hW : DataW.Whole enc P f.params.toList s.vars apart W args.toList ds [] before)
   (hfn : s.fn H (ds ++ []) = { results := [.lit (.bool true)], args := ds }) (hb : Below W.heap.size W W') :
   s.post enc P f apart fresh handsOn again W args (.bool true) W' := by
 have hlt : ∀ p ∈ before, p.block < W.heap.size := fun p hp => hW.lt p hp
 obtain ⟨p, q, hA, hV, hpq, _, _⟩ := id hW
 rw [hsv] at hV
 have hq : q = [] := hV
 subst hq
 rw [List.append_nil] at hpq
 subst hpq
 refine zpc (pa := before) (pv := []) hW ?_ ?_ ?_ (by simp) hb ?_
 · intro _ _ _
   rw [hfn, hbt]
   exact trodAll_mk1 (shut_bool hub true)
 · intro sp hsp
   rw [hfn]
   exact zio hl hb (fun t ht => by simpa using List.all_eq_true.1 hr t ht) hA hlt hsp
 · intro sp _
   rw [hfn, hsv]
   rfl
 · exact ok_one hbt rfl (okWide_bool_mk hub true)
end
end Go.Proofs.YtfonekpmkdkgnaaGreatDoor
namespace Go.Proofs.YtfonekpmkdkgnaaGreatDoor
open Go.RowKit
theorem i5 : (Tryz.prog.info? 5).map (fun i => (i.zero, i.size, i.bytes)) = some (some (.int .u8 0), 1, 1) := by kernel_rfl
def cl8 (k : Int) : Nat := (min (max k 0) 8).toNat
def zt8 (n : Nat) : Nat -> List UInt8
 | 0 => []
 | i+1 => UInt8.ofNat (n / 256^i) :: zt8 n i
theorem yru (k : Int) : cl8 k <= 8 := by unfold cl8; omega
theorem zt7 (n c : Nat) : (zt8 n c).length = c := by induction c <;> simp_all [zt8]
theorem yft (n c t : Nat) (h : t < (zt8 n c).length) : (zt8 n c)[t] = UInt8.ofNat (n / 256 ^ (c - 1 - t)) := by
 induction c generalizing t with
 | zero => simp [zt8] at h
 | succ c ih =>
   rcases t with _ | t
   · simp [zt8]
   · simp only [zt8, List.getElem_cons_succ]
     rw [ih]
     congr 3; omega
set_option maxRecDepth 100000 in
set_option maxHeartbeats 400000 in
theorem yl8 (n : Nat) (k : Int) (w : World) (_hn : n < 18446744073709551616) :
   Calls Tryz.prog 114 #[.int .u64 n, .int .i64 k] w fun e w' => e = .returned (.string ⟨(zt8 n (cl8 k)).toArray⟩) /\ Below w.heap.size w w' := by
 have h8 := yru k
 have hmk := fun W => run_make_row' (P := Tryz.prog) 118 5 (.int .u8 0) 1 Tryz.underlying118 i5 rfl .i64 .i64 (cl8 k) (by omega) (by omega) W
 go_enter Tryz.func114, Tryz.ntmps114
 go_upto_region 1 with (fail)
 go_cut [1] (fun v wx => v = .int .i64 (cl8 k) /\ w = wx)
 case first =>
   go_wp2
   all_goals (go_meet; exact ⟨by unfold cl8; go_num, rfl⟩)
 case rest =>
   obtain ⟨rfl, rfl⟩ := hcut
   generalize hc : cl8 k = c at *
   have Hc := Lib.hid hc
   clear hc
   go_wp2
   go_loopw [0, 6] (fun m i wr => ∃ j x : Nat, j <= c /\ i = .int .i64 ((j : Int) - 1) /\ m = .int .u64 (x : Int) /\ Hid (x = n / 256 ^ (c - j)) /\
      wr.rowIs w.heap.size 5 c (fun t => if t < j then .int .u8 0 else zn0 (UInt8.ofNat (n / 256 ^ (c - 1 - t)))) /\ Below w.heap.size w wr) (fun _ i _ => (intOf i + 1).toNat)
   case atStart =>
     refine ⟨c, n, by omega, by simp, by simp, Lib.hid (by simp), ?_, ?_⟩
     · exact (World.rowIs_made w (.int .u8 0) c 5).congr (fun i hi => by simp [hi])
     · exact (Below.refl _ _).alloc (Nat.le_refl _) _
   case round =>
     obtain ⟨j, x, hj, rfl, rfl, hx, hrow, hb⟩ := hrel
     rcases j with _ | j
     · have hconv := fun cc => yi8 (P := Tryz.prog) (src := 118) (dst := 9) (cap := cc) (zt8 n c) Tryz.underlying118 Tryz.underlying5 Tryz.underlying9 hrow (zt7 n c) (fun i hi => by simp [yft])
       go_wp2
       go_ret
       exact ⟨ybf (by rw [Hc.out]), hb⟩
     · have hc := hrow.cell (i := j) (by omega)
       have hf := hrow.frozen j
       have hs := hrow.set j (.int .u8 ((x : Int) % 256))
       have hB := hb.setCell (p := ⟨w.heap.size, j, none⟩) (Nat.le_refl _) (.int .u8 ((x : Int) % 256))
       have h0 : ((j + 1 : Nat) : Int) - 1 = j := by omega
       rw [h0]
       simp only [Nat.lt_succ_self, if_true] at hc
       clear hrow hb h0
       go_wp2
       go_roundw
       case rel =>
         refine ⟨j, x / 256, by omega, rfl, rfl, Lib.hid ?_, hs.congr fun t ht => ?_, hB⟩
         · rw [hx.out, Nat.div_div_eq_div_mul, <- Nat.pow_succ]; congr 2; omega
         · by_cases h1 : t = j
           · subst h1; rw [if_pos rfl, if_neg (by omega), zii, hx.out, show c - (t + 1) = c - 1 - t by omega]
           · rw [if_neg h1]
             by_cases h2 : t < j
             · rw [if_pos h2, if_pos (by omega)]
             · rw [if_neg h2, if_neg (by omega)]
       case measure => simp [intOf] <;> omega
def ze3 (n : Nat) : List UInt8 := if n < 128 then [UInt8.ofNat n] else UInt8.ofNat (n % 128 + 128) :: ze3 (n / 128)
termination_by n
decreasing_by omega
theorem zbk {n : Nat} (h : n < 128) : ze3 n = [UInt8.ofNat n] := by rw [ze3, if_pos h]
theorem zhf {n : Nat} (h : 128 <= n) : ze3 n = UInt8.ofNat (n % 128 + 128) :: ze3 (n / 128) := by rw [ze3, if_neg (by omega)]
theorem ytu (x : Nat) : bits .or .u8 ((x : Int) % 256) 128 = (x : Int) % 128 + 128 := by
 have h := u8_or_nat (x % 256) 128 (by omega) (by omega)
 have h2 : x % 256 ||| 128 = x % 128 + 128 := by
   have e1 : x % 256 = x % 128 + x / 128 % 2 * 128 := by omega
   have h3 : x / 128 % 2 = 0 \/ x / 128 % 2 = 1 := by omega
   have j1 : ∀ y, y < 128 -> 128 ||| y = 128 + y := fun y hy => nat_join 7 128 y (by decide) hy
   have e2 : ∀ y, y < 128 -> (y + 128) ||| 128 = y + 128 := fun y hy => by
     rw [Nat.add_comm y 128, <- j1 y hy, Nat.or_comm 128 y, Nat.or_assoc, Nat.or_self]
   rcases h3 with h3 | h3
   · rw [e1, h3, Nat.or_comm]; simp only [Nat.zero_mul, Nat.add_zero]; rw [j1 _ (by omega)]; omega
   · rw [e1, h3, Nat.one_mul, e2 _ (by omega)]
 rw [h2] at h
 have e : (((x % 256 : Nat) : Int)) = (x : Int) % 256 := by omega
 rw [e] at h
 rw [show ((128 : Nat) : Int) = 128 from rfl] at h
 rw [h]; omega
set_option maxRecDepth 100000 in
set_option maxHeartbeats 400000 in
theorem yab (n : Nat) (w : World) (hn : n < 18446744073709551616) :
   Calls Tryz.prog 122 #[.int .u64 n] w fun e w' => e = .returned (.string ⟨(ze3 n).toArray⟩) /\ Below w.heap.size w w' := by
 go_enter Tryz.func122, Tryz.ntmps122
 go_wp2
 refine znc 0 (fun a' w' => Below w.heap.size w w' /\ ∃ (x k : Nat) (v : Value) (pre : List UInt8), Hid (pre ++ ze3 x = ze3 n) /\ x < 18446744073709551616 /\ k <= 10 /\ Hid (x * 128 ^ k <= n) /\ w'.ownsRow w.heap.size 5 1 v k (pre.map zn0) /\ ∃ u1 u2 u4 u5 u6 u7 u8 u9 u10 u11 u12 u13 u14 u15 u16 u17 u18 u19 : Value, a' = ⟨#[.int .u64 (x : Int), u1, u2, v, u4, u5, u6, u7, u8, u9, u10, u11, u12, u13, u14, u15, u16, u17, u18, u19], []⟩) (fun a' _ => (intOf (a'.tmps.getD 0 undef)).toNat) rfl ?_ ?_
 · rintro a' wr ⟨hb, x, k, v, pre, hpre, hx, hk, hxk, hown, u1, u2, u4, u5, u6, u7, u8, u9, u10, u11, u12, u13, u14, u15, u16, u17, u18, u19, rfl⟩
   have hor := ytu x
   have hsz := hb.size
   by_cases hlt : x < 128
   · have hx8 : ∀ w1 : World, ∀ v1, w1.ownsRow w.heap.size 5 1 v1 (k + 1) (List.map zn0 pre ++ [Value.int .u8 (x : Int)]) -> (convert 118 9 v1).run Tryz.prog w1 = .ok (.string ⟨(pre ++ [UInt8.ofNat x]).toArray⟩) w1 := fun w1 v1 h =>
       zz1 (P := Tryz.prog) (src := 118) (dst := 9) (e := 5) Tryz.underlying118 Tryz.underlying5 Tryz.underlying9 (pre ++ [UInt8.ofNat x]) (by
         have e : (Value.int .u8 (x : Int)) = zn0 (UInt8.ofNat x) := by rw [zii]; go_num
         rw [List.map_append, List.map_singleton, <- e]; exact h)
     have Hx8 := Lib.hid hx8
     clear hx8
     go_wp2_with (at_builtin; refine zlj _ rfl _ _ 118 rfl w.heap.size 5 (.int .u8 0) 1 Tryz.underlying118 i5 rfl _ _ _ rfl hown _ rfl rfl (by omega) (by omega) hsz ?_; intro v1 w1 hown1 hb1; have hcv := Hx8.out w1 v1 hown1; clear hown1 hown hor)
     go_ret
     exact ⟨ybf (by rw [<- hpre.out, zbk hlt]), hb.trans (by assumption)⟩
   · go_wp2_with (at_builtin; refine zlj _ rfl _ _ 118 rfl w.heap.size 5 (.int .u8 0) 1 Tryz.underlying118 i5 rfl _ _ _ rfl hown _ rfl rfl (by omega) (by omega) hsz ?_; intro v1 w1 hown1 hb1)
     go_step3
     have h128 : 128 * 128 ^ k <= n := Nat.le_trans (Nat.mul_le_mul_right _ (by omega)) hxk.out
     have hk9 : k + 1 <= 10 := by
       refine Decidable.byContradiction fun h => ?_
       have : 128 ^ 10 <= 128 ^ k := Nat.pow_le_pow_right (by decide) (by omega)
       have h3 : (128 : Nat) ^ 10 = 1180591620717411303424 := by decide
       omega
     exact ⟨rfl, ⟨hb.trans hb1, x / 128, k + 1, v1, pre ++ [UInt8.ofNat (x % 128 + 128)], Lib.hid (by rw [List.append_assoc, <- hpre.out, zhf (n := x) (by omega)]; rfl), by omega, hk9, Lib.hid (by
       rw [Nat.pow_succ]; have h4 : x / 128 * (128 ^ k * 128) <= x * 128 ^ k := by
         rw [Nat.mul_comm (128 ^ k) 128, <- Nat.mul_assoc]; exact Nat.mul_le_mul_right _ (by omega)
       exact Nat.le_trans h4 hxk.out), by
       rw [List.map_append, List.map_singleton, zii]; rw [show (((x % 128 + 128 : Nat) : Int) % 256) = (x : Int) % 128 + 128 by omega]; exact hown1, _, _, _, _, _, _, _, _, _, _, _, _, _, _, _, _, _, _, rfl⟩, by simp [intOf]; omega⟩
 · intro hP
   go_wp2
   go_step3
   simp only [Exit.then]
   apply_assumption
   exact hP.out _ _ ⟨Below.refl _ _, n, 0, _, [], Lib.hid rfl, hn, by omega, Lib.hid (by simp), World.ownsRow_nil _ _ _ _, _, _, _, _, _, _, _, _, _, _, _, _, _, _, _, _, _, _, rfl⟩
end Go.Proofs.YtfonekpmkdkgnaaGreatDoor
namespace Go.Proofs.YtfonekpmkdkgnaaGreatDoor
open Go.RowKit
def yeo (w : World) (g : Nat) (ps : List (List UInt8)) : Prop := ∀ j (h : j < ps.length), w.cell? ⟨g, j, none⟩ = some (.string ⟨ps[j].toArray⟩)
def zzn (ps : List (List UInt8)) : List UInt8 := ps.flatten
end Go.Proofs.YtfonekpmkdkgnaaGreatDoor
namespace Go.Proofs.YtfonekpmkdkgnaaGreatDoor
namespace Sy
open Go Go.RowKit
set_option maxRecDepth 100000
def putZ (e n : Int) : List UInt8 := zt8 e.toNat (cl8 n)
def yl9 (e n : Int) : Prop := 0 <= e /\ e < 18446744073709551616 /\ -9223372036854775808 <= n /\ n <= 9223372036854775807
def upto (n : Nat) (l : List UInt8) : Prop := l.length <= n
def yfs (L : za9) : zdq := (114, fun xs => match xs with | [.int .u64 e, .int .i64 n] => some (L2 L yl9 e n, .str (L2 L putZ e n)) | _ => none)
theorem ym2 (k : IntKind) (n : Int) : ∀ h D, R h D zam (.int k n) (.int k n) := fun _ _ => .int k n
theorem zo8 {e : Int} (h : 0 <= e) : ∃ n : Nat, e = n := ⟨e.toNat, by omega⟩
theorem zv7 : zbp Tryz.prog (yfs std) := by
 intro xs p r h hp
 dsimp only [yfs] at h |-
 split at h <;> cases h
 rename_i e n
 obtain ⟨h0, h1, h2, h3⟩ : yl9 e n := hp
 obtain ⟨k, rfl⟩ := zo8 h0
 exact zep (fn := Tryz.f114) rfl rfl (by kernel_rfl) (yeg (zei _ _) (zei _ _)) (fun h D => yf3 h D _ _) (fun w => yl8 k n w (by omega))
end Sy
end Go.Proofs.YtfonekpmkdkgnaaGreatDoor
namespace Go.Proofs.YtfonekpmkdkgnaaGreatDoor
namespace Sy
open Go Go.RowKit
set_option maxRecDepth 100000
set_option linter.unusedSimpArgs false
set_option linter.unusedVariables false
def zd6 (n : Int) : Prop := 0 <= n /\ n < 18446744073709551616
def zb8 (n : Int) : List UInt8 := ze3 n.toNat
def zlr (L : za9) : zdq := (122, fun xs => match xs with | [.int .u64 n] => some (L zd6 n, .str (L zb8 n)) | _ => none)
theorem zjt : zbp Tryz.prog (zlr std) := by
 intro xs p r h hp
 dsimp only [zlr] at h |-
 split at h <;> cases h
 try simp only [L2, L3, std] at hp |-
 rename_i n
 obtain ⟨h0, h1⟩ : zd6 n := hp
 obtain ⟨k, rfl⟩ := zo8 h0
 exact zep (fn := Tryz.f122) rfl rfl (by kernel_rfl) (yvd (zei _ _)) (fun h D => yf3 h D _ _) (fun w => yab k w (by omega))
theorem zzb : za5 Tryz.prog 126 [] (.bool true) := by
 refine zaw (T := tt) (S := fun L => zb7 [zlr L, yfs L]) (lo := noA) (lb := noA) 5 (fn := Tryz.f126) rfl rfl (by kernel_rfl) (by kernel_rfl) rfl zad (za7 ⟨zjt, zv7, trivial⟩) (by kernel_rfl) ?_
 (intro L P1 Q1 hL hP hQ; cbv; subst hL; simp only [L2, L3, std, syT]; subst hQ)
 (simp only [syS, reduceCtorEq, Int.reduceToNat, Int.reduceAdd, Int.reduceSub])
 exact ⟨by unfold zd6; omega, fun _ => ⟨by unfold yl9; omega, by decide +kernel⟩, by rw [zb8, show (300 : Int).toNat = 300 from rfl, zhf (by decide), zbk (by decide)]; rfl⟩
def tru (f : Nat) : zdq := (f, fun xs => match xs with | [] => some (True, .bool true) | _ => none)
theorem zeu {P : Program} {f : Nat} (h : za5 P f [] (.bool true)) : zbp P (tru f) := by
 intro xs p r h' hp
 match xs with
 | [] => cases h'; exact h
 | x :: xs => cases h'
theorem zoq : za5 Tryz.prog 93 [] (.bool true) := by
 refine zaw (T := tt) (S := fun L => zb7 [tru 126]) (lo := noA) (lb := noA) 5 (fn := Tryz.f93) rfl rfl (by kernel_rfl) (by kernel_rfl) rfl zad (za7 ⟨zeu zzb, trivial⟩) (by kernel_rfl) ?_
 (intro L P1 Q1 hL hP hQ; cbv; subst hL; simp only [L2, L3, std, syT]; subst hQ)
 (simp only [syS, reduceCtorEq, Int.reduceToNat, Int.reduceAdd, Int.reduceSub])
end Sy
end Go.Proofs.YtfonekpmkdkgnaaGreatDoor
namespace Go.Proofs.YtfonekpmkdkgnaaGreatDoor
namespace Sy
open Go Go.RowKit
set_option maxRecDepth 100000
set_option linter.unusedSimpArgs false
set_option linter.unusedVariables false
def zm4 : zuv := (164, fun raw ob => match raw with
 | [.ref id 0] => match ob id with
   | some (.box ty cs) => some ⟨[.ref 500000 0], [(500000, .box ty cs)], True, .ref 500000 0, [(500000, .box ty cs)]⟩
   | _ => none
 | _ => none)
theorem zo7 : zhc Tryz.prog zm4 := by
 intro raw ob T hT hp
 unfold zm4 at hT
 simp only at hT
 split at hT
 · split at hT
   · cases hT
     intro D w μ vs hD hxs hdom hobs hinj hown hg hgb
     obtain ⟨v, hv⟩ : ∃ v, vs.toList = [v] := List.length_eq_one_iff.1 (by simpa using hxs.1.symm)
     have : vs = #[v] := by rw [<- Array.toArray_toList (xs := vs), hv]
     subst this
     unfold zeq
     rw [show zm4.fst = 164 from rfl, run_callFunc_extern (fn := Tryz.f164) rfl (by kernel_rfl) (by kernel_rfl) (by kernel_rfl) (e := Extern.AbiNoEscape.same) (by kernel_rfl)]
     rw [Lib.run_noEscape]
     exact ⟨v, D, μ, { ret := rfl, os := rfl, tape := rfl, output := rfl, size := Nat.le_refl _, old := fun _ _ _ => rfl, up := fun _ h => h, dn := fun _ h => .inl h, dom := hdom, obs := hobs, inj := hinj, own := fun n b z h => ⟨(hown n b z h).1, (hown n b z h).2, .inr ⟨n, z, h⟩⟩, keep := fun _ _ _ => rfl, val := hxs.2 0 _ _ rfl rfl }⟩
   · cases hT
 · cases hT
def yng : zuv := (142, fun raw ob => match raw with
 | [.ref id 0] => match ob id with
   | some (.box _ [.nilp, .nils]) => some ⟨[.ref 500000 0], [(500000, .box 137 [.nilp, .nils])], True, .tup [], [(500000, .box 137 [.ref 500000 0, .nils])]⟩
   | some (.box _ [.ref _ 0, .sl k 1 0 n]) => match ob k with
     | some (.row _ 1 m get) => some ⟨[.ref 500000 0], [(500000, .box 137 [.ref 500000 0, .sl 500001 1 0 m]), (500001, .row 5 1 m get)], True, .tup [], [(500000, .box 137 [.ref 500000 0, .sl 500001 1 0 m]), (500001, .row 5 1 m get)]⟩
     | _ => none
   | _ => none
 | _ => none)
theorem yrw : zce Tryz.prog 142 [.ref 500000 0] [(500000, .box 137 [.nilp, .nils])] (.tup []) [(500000, .box 137 [.ref 500000 0, .nils])] := by
 refine zay (T := tt) (S := fun L => zf6 [] [zm4]) (lo := noA) (lb := noA) 5 (fn := Tryz.f142) (xs := fun L => [.ref 500000 0]) (rts := fun _ => []) (O := fun L => [(500000, .box 137 [.nilp, .nils])]) (O1 := fun L => [(500000, .box 137 [.ref 500000 0, .nils])])
   rfl rfl (by kernel_rfl) (by kernel_rfl) (by kernel_rfl) zad (zc1 trivial ⟨zo7, trivial⟩) (by kernel_rfl) ?_
 intro L P' Q' hL hP hQ
 (cbv; try simp only [syT, true_and, and_true])
 exact ⟨fun _ => trivial, fun h => by cases h⟩
theorem yrv (m : Nat) (get : Nat -> Nat -> AV) : zce Tryz.prog 142 [.ref 500000 0] [(500000, .box 137 [.ref 500000 0, .sl 500001 1 0 m]), (500001, .row 5 1 m get)] (.tup []) [(500000, .box 137 [.ref 500000 0, .sl 500001 1 0 m]), (500001, .row 5 1 m get)] := by
 refine zay (T := tt) (S := fun L => zf6 [] [zm4]) (lo := noA) (lb := noA) 5 (fn := Tryz.f142) (xs := fun L => [.ref 500000 0]) (rts := fun _ => []) (O := fun L => [(500000, .box 137 [.ref 500000 0, .sl 500001 1 0 m]), (500001, .row 5 1 m get)]) (O1 := fun L => [(500000, .box 137 [.ref 500000 0, .sl 500001 1 0 m]), (500001, .row 5 1 m get)])
   rfl rfl (by kernel_rfl) (by kernel_rfl) (by kernel_rfl) zad (zc1 trivial ⟨zo7, trivial⟩) (by kernel_rfl) ?_
 intro L P' Q' hL hP hQ
 (cbv; try simp only [syT, true_and, and_true])
 subst hL
 simp [std]
theorem zmx : zhc Tryz.prog yng := by
 intro raw ob T hT hp
 unfold yng at hT
 simp only at hT
 repeat' split at hT
 all_goals first | (cases hT; done) | (cases hT; exact yrw) | (cases hT; exact yrv _ _)
def bld (L : za9) (l : List UInt8) : List (Nat × Ob) := [(500000, .box 137 [.ref 500000 0, .sl 500001 1 0 (L lenN l)]), (500001, .row 5 1 (L lenN l) (fun i _ => .int .u8 (L2 L zbu l i)))]
def zup (L : za9) (l : List UInt8) : List (Nat × Ob) := [(500000, .box 137 [.ref 500000 0, .sl 7 1 0 (L lenN l)]), (7, .row 5 1 (L lenN l) (fun i _ => .int .u8 (L2 L zbu l i)))]
def yov : List (Nat × Ob) := [(500000, .box 137 [.nilp, .nils])]
def yed (L : za9) (ob : Nat -> Option Ob) (id : Nat) : Option (Option (List UInt8)) := match ob id with
 | some (.box _ [.nilp, .nils]) => some none
 | some (.box _ [.ref _ 0, .sl k 1 0 n]) => match ob k with
   | some (.row _ 1 m get) => some (some (L2 L zca m (fun i => (get i 0).toI)))
   | _ => none
 | _ => none
def zaa (l m : List UInt8) : List UInt8 := l ++ m
def zcp (c : Int) : List UInt8 := [UInt8.ofNat c.toNat]
def yp5 (c : Int) : Prop := 0 <= c /\ c < 256
def zfy (l m : List UInt8) : Prop := l.length + m.length <= 90000000
def ysd (L : za9) : zuv := (120, fun raw ob => match raw with
 | [.ref id 0, .int .u8 c] => match yed L ob id with
   | some none => some ⟨[.ref 500000 0, .int .u8 c], yov, L yp5 c, .dead, zup L (L zcp c)⟩
   | some (some l) => some ⟨[.ref 500000 0, .int .u8 c], bld L l, L yp5 c /\ L2 L zfy l (L zcp c), .dead, zup L (L2 L zaa l (L zcp c))⟩
   | none => none
 | _ => none)
def ysc (L : za9) : zuv := (121, fun raw ob => match raw with
 | [.ref id 0, .str s] => match yed L ob id with
   | some (some l) => some ⟨[.ref 500000 0, .str s], bld L l, L2 L zfy l s, .tup [.int .i64 (L slen s), .dead], zup L (L2 L zaa l s)⟩
   | _ => none
 | _ => none)
def yv8 (L : za9) : zuv := (85, fun raw ob => match raw with
 | [.ref id 0] => match yed L ob id with
   | some (some l) => some ⟨[.ref 500000 0], bld L l, L (fun l => l ≠ [] /\ l.length <= 90000000) l, .str l, []⟩
   | _ => none
 | _ => none)
def yv9 (L : za9) : zuv := (84, fun raw ob => match raw with
 | [.ref id 0] => match yed L ob id with
   | some (some l) => some ⟨[.ref 500000 0], bld L l, True, .int .i64 (L slen l), bld L l⟩
   | _ => none
 | _ => none)
theorem zwk {l m : List UInt8} {i : Nat} (h : i < l.length) : zbu (l ++ m) i = zbu l i := by
 simp [zbu, List.getElem?_append_left h]
theorem zwj {l m : List UInt8} {i : Nat} (h : ¬ i < l.length) : zbu (l ++ m) i = zbu m (i - l.length) := by
 simp [zbu, List.getElem?_append_right (show l.length <= i by omega)]
theorem zhs (l : List UInt8) : zca l.length (fun i => zbu l i) = l := by
 apply List.ext_getElem
 · simp [zca]
 · intro i h1 h2
   simp [zca, zbu, h2]
theorem zwl {c : Int} (hc : yp5 c) (i : Nat) (h : i < 1) : zn7 [c] i = zbu (zcp c) i := by
 have : i = 0 := by omega
 subst this
 obtain ⟨h0, h1⟩ := hc
 simp [zn7, zbu, zcp, UInt8.toNat_ofNat']
 omega
theorem yp1 (c : Int) (hc : yp5 c) : zce Tryz.prog 120 [.ref 500000 0, .int .u8 c] yov .dead (zup std (zcp c)) := by
 refine zay (T := tt) (S := fun L => zf6 [] [yng]) (lo := noA) (lb := noA) 5 (fn := Tryz.f120) (xs := fun L => [.ref 500000 0, .int .u8 c]) (rts := fun _ => [.dead]) (O := fun L => yov) (O1 := fun L => zup L (L zcp c))
   rfl rfl (by kernel_rfl) (by kernel_rfl) (by kernel_rfl) zad (zc1 trivial ⟨zmx, trivial⟩) (by kernel_rfl) ?_
 intro L P' Q' hL hP hQ
 (cbv; try simp only [syT, true_and, and_true])
 subst hL
 simp only [L2, L3, std, zl2]
 have h1 : lenN (zcp c) = 1 := rfl
 rw [h1]
 exact ⟨by omega, ⟨rfl, fun i j hi hj => by rw [show Nat.add 0 i = i from Nat.zero_add i, zwl hc i hi]⟩, rfl⟩
theorem yp0 (l : List UInt8) (c : Int) (hc : yp5 c) (hl : zfy l (zcp c)) : zce Tryz.prog 120 [.ref 500000 0, .int .u8 c] (bld std l) .dead (zup std (zaa l (zcp c))) := by
 refine zay (T := tt) (S := fun L => zf6 [] [yng]) (lo := noA) (lb := noA) 5 (fn := Tryz.f120) (xs := fun L => [.ref 500000 0, .int .u8 c]) (rts := fun _ => [.dead]) (O := fun L => bld L l) (O1 := fun L => zup L (L2 L zaa l (L zcp c)))
   rfl rfl (by kernel_rfl) (by kernel_rfl) (by kernel_rfl) zad (zc1 trivial ⟨zmx, trivial⟩) (by kernel_rfl) ?_
 intro L P' Q' hL hP hQ
 (cbv; try simp only [syT, true_and, and_true])
 subst hL
 simp only [L2, L3, std, zl2]
 have h1 : lenN (zaa l (zcp c)) = l.length + 1 := by simp [lenN, zaa, zcp]
 have h2 : (zcp c).length = 1 := rfl
 have hl : l.length + (zcp c).length <= 90000000 := hl
 have h3 : lenN l = l.length := rfl
 rw [h1, h3]
 refine ⟨fun _ _ _ _ => trivial, by omega, ⟨rfl, fun i j hi hj => ?_⟩, rfl⟩
 by_cases h : i < l.length
 · rw [zih h, show zaa l (zcp c) = l ++ zcp c from rfl, zwk h]; rfl
 · rw [zki h, show zaa l (zcp c) = l ++ zcp c from rfl, zwj h]
   show AV.int .u8 (zn7 [c] (Nat.add 0 (i - l.length))) = _
   rw [show Nat.add 0 (i - l.length) = i - l.length from Nat.zero_add _, zwl hc _ (by omega)]
theorem yoy (l s : List UInt8) (hl : zfy l s) : zce Tryz.prog 121 [.ref 500000 0, .str s] (bld std l) (.tup [.int .i64 (slen s), .dead]) (zup std (zaa l s)) := by
 refine zay (T := tt) (S := fun L => zf6 [] [yng]) (lo := noA) (lb := noA) 5 (fn := Tryz.f121) (xs := fun L => [.ref 500000 0, .str s]) (rts := fun L => [.int .i64 (L slen s), .dead]) (O := fun L => bld L l) (O1 := fun L => zup L (L2 L zaa l s))
   rfl rfl (by kernel_rfl) (by kernel_rfl) (by kernel_rfl) zad (zc1 trivial ⟨zmx, trivial⟩) (by kernel_rfl) ?_
 intro L P' Q' hL hP hQ
 (cbv; try simp only [syT, true_and, and_true])
 subst hL
 simp only [L2, L3, std, zl2]
 have h1 : lenN (zaa l s) = l.length + s.length := by simp [lenN, zaa]
 have hl : l.length + s.length <= 90000000 := hl
 have h3 : lenN l = l.length := rfl
 rw [h1, h3]
 refine ⟨fun _ _ _ _ => trivial, by omega, ⟨rfl, fun i j hi hj => ?_⟩, rfl⟩
 by_cases h : i < l.length
 · rw [zih h, show zaa l s = l ++ s from rfl, zwk h]; rfl
 · rw [zki h, show zaa l s = l ++ s from rfl, zwj h]; rfl
theorem ys0 (l : List UInt8) (h0 : l ≠ []) (hl : l.length <= 90000000) : zce Tryz.prog 85 [.ref 500000 0] (bld std l) (.str l) [] := by
 refine zay (T := tt) (S := fun L => zf6 [] [yng]) (lo := noA) (lb := noA) 5 (fn := Tryz.f85) (xs := fun L => [.ref 500000 0]) (rts := fun L => [.str l]) (O := fun L => bld L l) (O1 := fun L => [])
   rfl rfl (by kernel_rfl) (by kernel_rfl) (by kernel_rfl) zad (zc1 trivial ⟨zmx, trivial⟩) (by kernel_rfl) ?_
 intro L P' Q' hL hP hQ
 (cbv; try simp only [syT, true_and, and_true])
 subst hL
 simp only [L2, L3, std]
 have h3 : lenN l = l.length := rfl
 have h1 : 0 < l.length := List.length_pos_iff.2 h0
 refine ⟨zih h1, ⟨by show (0 : Int) < (l.length : Int); omega, by show (l.length : Int) <= (l.length : Int); omega, by show (l.length : Int) <= _; omega, fun i hi => ⟨_, rfl, ?_, ?_⟩⟩, zhs l⟩
 · simp [zbu]
 · have := UInt8.toNat_lt (l.getD i 0)
   show ((l.getD i 0).toNat : Int) < 256
   omega
theorem ys1 (l : List UInt8) : zce Tryz.prog 84 [.ref 500000 0] (bld std l) (.int .i64 (slen l)) (bld std l) := by
 refine zay (T := tt) (S := fun L => zf6 [] [yng]) (lo := noA) (lb := noA) 5 (fn := Tryz.f84) (xs := fun L => [.ref 500000 0]) (rts := fun L => [.int .i64 (L slen l)]) (O := fun L => bld L l) (O1 := fun L => bld L l)
   rfl rfl (by kernel_rfl) (by kernel_rfl) (by kernel_rfl) zad (zc1 trivial ⟨zmx, trivial⟩) (by kernel_rfl) ?_
 intro L P' Q' hL hP hQ
 (cbv; try simp only [syT, true_and, and_true])
 subst hL
 exact ⟨fun _ _ _ _ => trivial, rfl⟩
theorem zzy : zhc Tryz.prog (ysd std) := by
 intro raw ob T hT hp
 unfold ysd at hT
 simp only at hT
 repeat' split at hT
 all_goals first | (cases hT; done) | (cases hT; exact yp1 _ hp) | (cases hT; exact yp0 _ _ hp.1 hp.2)
theorem zzs : zhc Tryz.prog (ysc std) := by
 intro raw ob T hT hp
 unfold ysc at hT
 simp only at hT
 repeat' split at hT
 all_goals first | (cases hT; done) | (cases hT; exact yoy _ _ hp)
theorem ynx : zhc Tryz.prog (yv8 std) := by
 intro raw ob T hT hp
 unfold yv8 at hT
 simp only at hT
 repeat' split at hT
 all_goals first | (cases hT; done) | (cases hT; exact ys0 _ hp.1 hp.2)
theorem yny : zhc Tryz.prog (yv9 std) := by
 intro raw ob T hT hp
 unfold yv9 at hT
 simp only at hT
 repeat' split at hT
 all_goals first | (cases hT; done) | (cases hT; exact ys1 _)
end Sy
end Go.Proofs.YtfonekpmkdkgnaaGreatDoor
namespace Go.Proofs.YtfonekpmkdkgnaaGreatDoor
namespace Sy
open Go Go.RowKit
set_option maxRecDepth 100000
set_option linter.unusedSimpArgs false
set_option linter.unusedVariables false
inductive CV where
 | mk (k n : Int) (s : List UInt8) (l : List CV)
namespace CV
def kd : CV -> Int
 | mk k _ _ _ => k
def nn : CV -> Int
 | mk _ n _ _ => n
def tx : CV -> List UInt8
 | mk _ _ s _ => s
def ls : CV -> List CV
 | mk _ _ _ l => l
theorem eta (v : CV) : mk v.kd v.nn v.tx v.ls = v := by cases v; rfl
end CV
def zd9 (l : List CV) (i : Nat) : CV := l.getD i (.mk 0 0 [] [])
def lenL (l : List CV) : Nat := l.length
def zn9 (v : CV) : Nat := v.ls.length
def sizeC : CV -> Nat
 | .mk _ _ _ l => sizeCs l + 1
where sizeCs : List CV -> Nat
 | [] => 0
 | v :: l => sizeC v + sizeCs l
abbrev sizeCs := sizeC.sizeCs
theorem zd1 : sizeCs [] = 0 := by simp [sizeC.sizeCs]
theorem zby (v : CV) (l : List CV) : sizeCs (v :: l) = sizeC v + sizeCs l := by simp [sizeC.sizeCs]
theorem zcv (k n : Int) (s : List UInt8) (l : List CV) : sizeC (.mk k n s l) = sizeCs l + 1 := by rw [sizeC]
theorem zdr (v : CV) : 0 < sizeC v := by cases v; rw [zcv]; omega
theorem zgq : ∀ (l : List CV) (i : Nat), i < l.length -> sizeC (zd9 l i) <= sizeCs l
 | [], i, h => by simp at h
 | v :: l, 0, h => by rw [zby]; show sizeC v <= _; omega
 | v :: l, i + 1, h => by
   have := zgq l i (by simpa using h)
   rw [zby]
   show sizeC (zd9 l i) <= _
   omega
theorem zvh {l : List CV} {i : Nat} (h : i < l.length) : zd9 l i ∈ l := by
 rw [zd9, List.getD_eq_getElem?_getD, List.getElem?_eq_getElem h]; exact List.getElem_mem h
theorem yk2 {p : CV -> Prop} (h : ∀ k n s l, (∀ v ∈ l, p v) -> p (.mk k n s l)) : ∀ (m : Nat) (v : CV), sizeC v <= m -> p v
 | 0, v, hv => by have := zdr v; omega
 | m + 1, .mk k n s l, hv => h k n s l fun w hw => by
   rw [zcv] at hv
   obtain ⟨i, hi, rfl⟩ := List.getElem_of_mem hw
   have := zgq l i hi
   have e : zd9 l i = l[i] := by rw [zd9, List.getD_eq_getElem?_getD, List.getElem?_eq_getElem hi]; rfl
   rw [e] at this
   exact yk2 h m _ (by omega)
theorem ydk {p : CV -> Prop} (h : ∀ k n s l, (∀ v ∈ l, p v) -> p (.mk k n s l)) (v : CV) : p v := yk2 h _ v (Nat.le_refl _)
def dflC : Nat -> AV
 | 0 => .int .i64 0
 | 1 => .int .u64 0
 | 2 => .str []
 | _ => .lst 4 0 (fun _ _ => .dead)
mutual
def zeo : CV -> Nat -> AV
 | .mk k n s l, j => match j with
   | 0 => .int .i64 k
   | 1 => .int .u64 n
   | 2 => .str s
   | _ => .lst 4 l.length (zjc l)
def zjc : List CV -> Nat -> Nat -> AV
 | [], _, j => dflC j
 | v :: l, i, j => match i with
   | 0 => zeo v j
   | i + 1 => zjc l i j
end
theorem zgb (v : CV) : zeo v 0 = .int .i64 v.kd := by cases v; rw [zeo]; rfl
theorem zga (v : CV) : zeo v 1 = .int .u64 v.nn := by cases v; rw [zeo]; rfl
theorem zg9 (v : CV) : zeo v 2 = .str v.tx := by cases v; rw [zeo]; rfl
theorem zg8 (v : CV) : zeo v 3 = .lst 4 v.ls.length (zjc v.ls) := by cases v; rw [zeo] <;> first | rfl | (intro h; cases h)
theorem zc3 : ∀ (l : List CV) (i j : Nat), i < l.length -> zjc l i j = zeo (zd9 l i) j
 | [], i, j, h => by simp at h
 | v :: l, 0, j, h => by rw [zjc]; rfl
 | v :: l, i + 1, j, h => by rw [zjc]; exact zc3 l i j (by simpa using h)
def zlg (v : CV) : Nat -> Nat -> AV := zjc v.ls
def cv1 (L : za9) (v : CV) : Nat -> AV
 | 0 => .int .i64 (L CV.kd v)
 | 1 => .int .u64 (L CV.nn v)
 | 2 => .str (L CV.tx v)
 | _ => .lst 4 (L zn9 v) (L zlg v)
theorem zue (v : CV) (j : Nat) (h : j < 4) : cv1 std v j = zeo v j := by
 match j, h with
 | 0, _ => rw [zgb]; rfl
 | 1, _ => rw [zga]; rfl
 | 2, _ => rw [zg9]; rfl
 | 3, _ => rw [zg8]; rfl
def cvL (L : za9) (l : List CV) : AV := .lst 4 (L lenL l) (fun i j => cv1 L (L2 L zd9 l i) j)
def cvA (L : za9) (v : CV) : AV := .agg [.int .i64 (L CV.kd v), .int .u64 (L CV.nn v), .str (L CV.tx v), .lst 4 (L zn9 v) (L zlg v)]
def rdL : AV -> List CV
 | .lst _ n get => (List.range n).map fun i => .mk (get i 0).toI (get i 1).toI (match get i 2 with | .str s => s | _ => []) (rdL (get i 3))
 | _ => []
def okL : AV -> Prop
 | .lst sz n get => sz = 4 /\ ∀ i, i < n -> (∃ x, get i 0 = .int .i64 x) /\ (∃ x, get i 1 = .int .u64 x) /\ (∃ x, get i 2 = .str x) /\ okL (get i 3)
 | .nils => True
 | _ => False
theorem ziu (sz n : Nat) (get : Nat -> Nat -> AV) : (rdL (.lst sz n get)).length = n := by simp [rdL]
theorem zr1 {sz n : Nat} {get : Nat -> Nat -> AV} {i : Nat} (h : i < n) : zd9 (rdL (.lst sz n get)) i = .mk (get i 0).toI (get i 1).toI (match get i 2 with | .str s => s | _ => []) (rdL (get i 3)) := by
 rw [zd9, List.getD_eq_getElem?_getD, rdL]
 simp [h]
theorem zwe {a b : List CV} (h : a.length = b.length) (k : ∀ i, i < a.length -> zd9 a i = zd9 b i) : a = b := by
 apply List.ext_getElem h
 intro i h1 h2
 have := k i h1
 rw [zd9, zd9, List.getD_eq_getElem?_getD, List.getD_eq_getElem?_getD, List.getElem?_eq_getElem h1, List.getElem?_eq_getElem h2] at this
 exact this
theorem yl5 : ∀ v : CV, rdL (zeo v 3) = v.ls /\ okL (zeo v 3) := by
 refine ydk fun k n s l ih => ?_
 rw [zg8]
 show rdL (.lst 4 l.length (zjc l)) = l /\ okL (.lst 4 l.length (zjc l))
 refine ⟨zwe (ziu _ _ _) fun i hi => ?_, rfl, fun i hi => ?_⟩
 · rw [ziu] at hi
   rw [zr1 hi, zc3 _ _ _ hi, zc3 _ _ _ hi, zc3 _ _ _ hi, zc3 _ _ _ hi, zgb, zga, zg9, (ih _ (zvh hi)).1]
   exact CV.eta _
 · rw [zc3 _ _ _ hi, zc3 _ _ _ hi, zc3 _ _ _ hi, zc3 _ _ _ hi, zgb, zga, zg9]
   exact ⟨⟨_, rfl⟩, ⟨_, rfl⟩, ⟨_, rfl⟩, (ih _ (zvh hi)).2⟩
theorem zk0 (v : CV) : rdL (.lst 4 (zn9 v) (zlg v)) = v.ls /\ okL (.lst 4 (zn9 v) (zlg v)) := by
 have := yl5 v
 rw [zg8] at this
 exact this
theorem ybl (l : List CV) : rdL (cvL std l) = l /\ okL (cvL std l) := by
 refine ⟨zwe (ziu _ _ _) fun i hi => ?_, rfl, fun i hi => ⟨⟨_, rfl⟩, ⟨_, rfl⟩, ⟨_, rfl⟩, (zk0 _).2⟩⟩
 have hi : i < l.length := by rw [show (rdL (cvL std l)).length = lenL l from ziu _ _ _] at hi; exact hi
 show zd9 (rdL (.lst 4 (lenL l) _)) i = _
 rw [zr1 (show i < lenL l from hi)]
 show CV.mk (zd9 l i).kd (zd9 l i).nn (zd9 l i).tx (rdL (.lst 4 (zn9 (zd9 l i)) (zlg (zd9 l i)))) = _
 rw [(zk0 _).1, CV.eta]
theorem yq5 {h : Array Obj} {D : Nat -> Prop} : ∀ (x : AV) {μ : Mu} {v : Value}, okL x -> R h D μ x v -> R h D μ (.lst 4 (rdL x).length (zjc (rdL x))) v := by
 intro x μ v ho r
 induction r with
 | nils => exact .lst0 _ _ _ _ (fun _ => rfl)
 | lst0 sz get a cap hn => exact .lst0 _ _ _ _ hn
 | lst sz n get b o cap vs hD hc hv h1 hr ih =>
   obtain ⟨rfl, ho⟩ := ho
   rw [ziu]
   refine .lst _ _ _ b o cap vs hD hc hv h1 (fun i j hi hj => ?_)
   rw [zc3 _ _ _ (by rw [ziu]; exact hi), zr1 hi]
   obtain ⟨⟨x0, e0⟩, ⟨x1, e1⟩, ⟨x2, e2⟩, o3⟩ := ho i hi
   have hj' := hr i j hi hj
   match j, hj with
   | 0, _ => rw [zgb]; rw [e0] at hj' |-; exact hj'
   | 1, _ => rw [zga]; rw [e1] at hj' |-; exact hj'
   | 2, _ => rw [zg9]; rw [e2] at hj' |-; exact hj'
   | 3, _ => rw [zg8]; exact ih i 3 hi (by omega) o3
 | _ => exact ho.elim
theorem yrq {h : Array Obj} {D : Nat -> Prop} {μ : Mu} {l : List CV} {v : Value} (r : R h D μ (.lst 4 l.length (zjc l)) v) : R h D μ (cvL std l) v :=
 ygk r fun i j hi hj => by
   rw [zc3 _ _ _ hi]
   exact (zue _ j hj).symm
mutual
def ze2 : CV -> Int
 | .mk k _ _ l => if k = 3 then zb2 l + 1 else 0
def zb2 : List CV -> Int
 | [] => 0
 | v :: l => max (ze2 v) (zb2 l)
end
theorem zoj : ∀ a b : List CV, zb2 (a ++ b) = max (zb2 a) (zb2 b)
 | [], b => by
   rw [List.nil_append, zb2]
   have : ∀ b : List CV, 0 <= zb2 b := by
     intro b
     induction b with
     | nil => rw [zb2]; omega
     | cons v l ih => rw [zb2]; omega
   have := this b
   omega
 | v :: a, b => by rw [List.cons_append, zb2, zoj a b, zb2]; omega
theorem zuz {l : List CV} {i : Nat} (h : i < l.length) : l.take (i + 1) = l.take i ++ [zd9 l i] := by
 rw [List.take_succ_eq_append_getElem h, zd9, List.getD_eq_getElem?_getD, List.getElem?_eq_getElem h]; rfl
def zi1 (l : List CV) (i : Nat) : Int := zb2 (l.take i)
theorem zuc {l : List CV} {i : Nat} (h : i < l.length) : zi1 l (i + 1) = max (zi1 l i) (ze2 (zd9 l i)) := by
 unfold zi1
 rw [zuz h, zoj, zb2, zb2]
 have : 0 <= ze2 (zd9 l i) \/ True := .inr trivial
 have h0 : ∀ b : List CV, 0 <= zb2 b := by
   intro b
   induction b with
   | nil => rw [zb2]; omega
   | cons v l ih => rw [zb2]; omega
 have := h0 (l.take i)
 omega
mutual
def zgd : CV -> Bool
 | .mk k n s l => if k = 1 then decide (s = []) && l.isEmpty else if k = 2 then decide (n = 0) && l.isEmpty else if k = 3 then decide (n = 0) && decide (s = []) && ze5 l else false
def ze5 : List CV -> Bool
 | [] => true
 | v :: l => zgd v && ze5 l
end
mutual
def zqt : CV -> CV -> Bool
 | .mk k n s l, w => decide (k = w.kd) && decide (n = w.nn) && decide (s = w.tx) && zf8 l w.ls
def zf8 : List CV -> List CV -> Bool
 | [], m => m.isEmpty
 | v :: l, m => match m with
   | [] => false
   | w :: m => zqt v w && zf8 l m
end
def zh9 (k : Int) : List UInt8 := [UInt8.ofNat (k % 256).toNat]
mutual
def zc8 : CV -> List UInt8
 | .mk k n s l => zh9 k ++ if k = 1 then zb8 n else if k = 2 then zb8 s.length ++ s else zb8 l.length ++ zb0 l
def zb0 : List CV -> List UInt8
 | [] => []
 | v :: l => zc8 v ++ zb0 l
end
theorem zjr : ∀ a b : List CV, zb0 (a ++ b) = zb0 a ++ zb0 b
 | [], b => by rw [zb0]; rfl
 | v :: a, b => by rw [List.cons_append, zb0, zjr a b, zb0, List.append_assoc]
def zhy (l : List CV) (i : Nat) : List UInt8 := zb0 (l.take i)
theorem zeg {l : List CV} {i : Nat} (h : i < l.length) : zhy l (i + 1) = zhy l i ++ zc8 (zd9 l i) := by
 unfold zhy
 rw [zuz h, zjr, zb0, zb0, List.append_nil]
end Sy
end Go.Proofs.YtfonekpmkdkgnaaGreatDoor
namespace Go.Proofs.YtfonekpmkdkgnaaGreatDoor
namespace Sy
open Go Go.RowKit
set_option maxRecDepth 100000
set_option linter.unusedSimpArgs false
set_option linter.unusedVariables false
def mkV (L : za9) (k n : Int) (s : List UInt8) (x : AV) : CV := L (L (L (L CV.mk k) n) s) (L rdL x)
def zox (N : Nat) (v : CV) : Prop := sizeC v <= N /\ N <= 1000000
def zsv (N : Nat) (l : List CV) : Prop := sizeCs l <= N /\ N <= 1000000
theorem zma : ∀ l : List CV, l.length <= sizeCs l
 | [] => by simp
 | v :: l => by
   have := zma l
   have := zdr v
   rw [zby, List.length_cons]; omega
theorem zr7 {N : Nat} {l : List CV} {i : Nat} (h : zsv N l) (hi : i < l.length) : zox N (zd9 l i) := by
 have := zgq l i hi
 exact ⟨by have := h.1; omega, h.2⟩
theorem zbz {N : Nat} {k n : Int} {s : List UInt8} {l : List CV} : zox (N + 1) (.mk k n s l) = (zsv N l /\ N + 1 <= 1000000) := by
 unfold zox zsv
 rw [zcv]
 exact propext ⟨fun h => ⟨⟨by omega, by omega⟩, by omega⟩, fun h => ⟨by have := h.1.1; omega, h.2⟩⟩
theorem zcb (v : CV) : CV.mk v.kd v.nn v.tx (rdL (.lst 4 (zn9 v) (zlg v))) = v := by rw [(zk0 v).1]; exact CV.eta v
theorem zci (v : CV) : mkV std v.kd v.nn v.tx (.lst 4 (zn9 v) (zlg v)) = v := zcb v
theorem rdl (l : List CV) : rdL (.lst 4 (lenL l) fun i => cv1 std (zd9 l i)) = l := (ybl l).1
theorem okl (l : List CV) : okL (.lst 4 (lenL l) fun i => cv1 std (zd9 l i)) := (ybl l).2
theorem mkl (k n : Int) (s : List UInt8) (l : List CV) : mkV std k n s (.lst 4 (lenL l) fun i => cv1 std (zd9 l i)) = .mk k n s l := by
 show CV.mk k n s (rdL _) = _
 rw [rdl]
theorem ya4 {h : Array Obj} {D : Nat -> Prop} {μ : Mu} {a b c x : AV} {v : Value} (ho : okL x) (r : R h D μ (.agg [a, b, c, x]) v) : R h D μ (.agg [a, b, c, cvL std (rdL x)]) v := by
 obtain ⟨us, rfl, o1, s1, hr⟩ := r.inv_agg
 refine .agg _ _ (by rw [<- s1]; rfl) o1 fun i y v hy hv => ?_
 match i, hy with
 | 0, hy => cases hy; exact hr 0 _ v rfl hv
 | 1, hy => cases hy; exact hr 1 _ v rfl hv
 | 2, hy => cases hy; exact hr 2 _ v rfl hv
 | 3, hy => cases hy; exact yrq (yq5 x ho (hr 3 _ v rfl hv))
 | i + 4, hy => simp at hy
theorem yoi {h : Array Obj} {D : Nat -> Prop} {μ : Mu} {x y : AV} {r : List AV} {vs : Array Value} (e : ∀ v, R h D μ x v -> R h D μ y v) (hr : RL h D μ (x :: r) vs) : RL h D μ (y :: r) vs := by
 refine ⟨by rw [<- hr.1]; rfl, fun i z v hz hv => ?_⟩
 cases i with
 | zero => cases hz; exact e v (hr.2 0 x v rfl hv)
 | succ i => exact hr.2 (i + 1) z v hz hv
theorem ysk {h : Array Obj} {D : Nat -> Prop} {μ : Mu} {a x y : AV} {r : List AV} {vs : Array Value} (e : ∀ v, R h D μ x v -> R h D μ y v) (hr : RL h D μ (a :: x :: r) vs) : RL h D μ (a :: y :: r) vs := by
 refine ⟨by rw [<- hr.1]; rfl, fun i z v hz hv => ?_⟩
 match i, hz with
 | 0, hz => exact hr.2 0 z v hz hv
 | 1, hz => cases hz; exact e v (hr.2 1 x v rfl hv)
 | i + 2, hz => exact hr.2 (i + 2) z v hz hv
theorem zjm {P : Program} {f : FuncId} {xs ys : List AV} {r : AV} (h : ∀ h D vs, RL h D zam xs vs -> RL h D zam ys vs) (ha : za5 P f ys r) : za5 P f xs r := fun D w vs hD hx => ha D w vs hD (h _ _ _ hx)
theorem ysy {P : Program} {f : FuncId} {a b c x r : AV} (ho : okL x) (h : za5 P f [.agg [a, b, c, cvL std (rdL x)]] r) : za5 P f [.agg [a, b, c, x]] r :=
 zjm (fun h D vs hr => yoi (fun v => ya4 ho) hr) h
theorem yvg {P : Program} {f : FuncId} {a b c x a' b' c' x' r : AV} (ho : okL x) (ho' : okL x') (h : za5 P f [.agg [a, b, c, cvL std (rdL x)], .agg [a', b', c', cvL std (rdL x')]] r) : za5 P f [.agg [a, b, c, x], .agg [a', b', c', x']] r :=
 zjm (fun h D vs hr => yoi (fun v => ya4 ho) (ysk (fun v => ya4 ho') hr)) h
theorem yqs {h : Array Obj} {D : Nat -> Prop} {μ : Mu} {x : AV} {v : Value} (ho : okL x) (r : R h D μ x v) : R h D μ (cvL std (rdL x)) v := yrq (yq5 x ho r)
theorem ysz {P : Program} {f : FuncId} {x r : AV} {q : List AV} (ho : okL x) (h : za5 P f (cvL std (rdL x) :: q) r) : za5 P f (x :: q) r :=
 zjm (fun h D vs hr => yoi (fun v => yqs ho) hr) h
def yuv (L : za9) (l : List CV) : Nat -> St -> Option Ann := fun id s => match id with
 | 0 => some ⟨Nat, fun i => [(12, .int .i64 (L zbh i)), (3, .int .i64 (L2 L zi1 l i))], fun i => [], [10, 11], [],
     fun i => L2 L (fun (l : List CV) i => i <= l.length) l i, fun i => L2 L (fun (l : List CV) (i : Nat) => l.length - i) l i⟩
 | _ => none
def zs3 (N : Nat) (L : za9) : zdq := (82, fun xs => match xs with
 | [.agg [.int .i64 k, .int .u64 n, .str s, x]] => some (L okL x /\ L2 L zox N (mkV L k n s x), .int .i64 (L ze2 (mkV L k n s x)))
 | _ => none)
theorem yn5 : ∀ v, 0 <= ze2 v /\ ze2 v <= (sizeC v : Int) := by
 refine ydk fun k n s l ih => ?_
 have : ∀ m : List CV, (∀ v ∈ m, 0 <= ze2 v /\ ze2 v <= (sizeC v : Int)) -> 0 <= zb2 m /\ zb2 m <= (sizeCs m : Int) := by
   intro m
   induction m with
   | nil => intro _; rw [zb2, zd1]; omega
   | cons v m ih =>
     intro h
     have h1 := h v (by simp)
     have h2 := ih fun w hw => h w (by simp [hw])
     rw [zb2, zby]; omega
 have := this l ih
 rw [ze2, zcv]
 split <;> omega
theorem ydj (l : List CV) (i : Nat) : 0 <= zi1 l i /\ zi1 l i <= (sizeCs l : Int) := by
 have h1 : ∀ m : List CV, 0 <= zb2 m /\ zb2 m <= (sizeCs m : Int) := by
   intro m
   induction m with
   | nil => rw [zb2, zd1]; omega
   | cons v m ih => have := yn5 v; rw [zb2, zby]; omega
 have h2 := h1 (l.take i)
 have h3 : ∀ (m : List CV) (i : Nat), sizeCs (m.take i) <= sizeCs m := by
   intro m
   induction m with
   | nil => intro i; simp
   | cons v m ih =>
     intro i
     cases i with
     | zero => rw [List.take_zero, zd1]; omega
     | succ i => have := ih i; rw [List.take_succ_cons, zby, zby]; omega
 have := h3 l i
 exact ⟨h2.1, by unfold zi1; omega⟩
theorem ydi : ∀ N, zbp Tryz.prog (zs3 N std) := by
 intro N
 induction N with
 | zero =>
   intro xs p r h hp
   unfold zs3 at h
   simp only at h
   split at h
   · rename_i k n s x
     cases h
     have h1 : sizeC (mkV std k n s x) <= 0 := hp.2.1
     have := zdr (mkV std k n s x)
     omega
   · cases h
 | succ N ih =>
   intro xs p r h hp
   unfold zs3 at h
   simp only at h
   split at h
   · rename_i k n s x
     cases h
     obtain ⟨ho, hz⟩ := hp
     refine ysy ho ?_
     show za5 _ _ _ (.int .i64 (ze2 (.mk k n s (rdL x))))
     have hz : zox (N + 1) (.mk k n s (rdL x)) := hz
     generalize rdL x = l at hz |-
     refine za4 (T := tt) (S := fun L => zb7 [zs3 N L]) (lo := fun L => yuv L l) (lb := noA) 5 (fn := Tryz.f82) (xs := fun L => [.agg [.int .i64 k, .int .u64 n, .str s, cvL L l]]) rfl rfl (by kernel_rfl) (by kernel_rfl) rfl zad
       (za7 ⟨ih, trivial⟩) (by kernel_rfl) ?_
     intro L P' Q' hL hP hQ
     (cbv; try simp only [syT, true_and, and_true])
     refine ⟨fun h => ?_, fun h => ⟨⟨0, ?_⟩, fun i hi => ?_⟩⟩
     · (subst hL; subst hQ; simp only [L2, L3, std] at *; try simp only [syS, reduceCtorEq, Int.reduceToNat, Int.reduceAdd, Int.reduceSub] at *)
       rw [ze2, if_neg h]
     · (cbv; try simp only [syT, true_and, and_true])
       (subst hL; subst hQ; simp only [L2, L3, std] at *; try simp only [syS, reduceCtorEq, Int.reduceToNat, Int.reduceAdd, Int.reduceSub] at *)
       exact ⟨by rw [zi1, List.take_zero, zb2], Nat.zero_le _⟩
     · cbv at hi
       (cbv; try simp only [syT, true_and, and_true])
       refine ⟨fun hlt => ⟨?_, ⟨?_, ?_⟩, ⟨i + 1, ?_⟩⟩, fun hge => ?_⟩
       · (subst hL; subst hQ; simp only [L2, L3, std] at *; try simp only [syS, reduceCtorEq, Int.reduceToNat, Int.reduceAdd, Int.reduceSub] at *)
         omega
       · (subst hL; subst hQ; simp only [L2, L3, std] at *; try simp only [syS, reduceCtorEq, Int.reduceToNat, Int.reduceAdd, Int.reduceSub] at *)
         exact (zk0 _).2
       · (subst hL; subst hQ; simp only [L2, L3, std] at *; try simp only [syS, reduceCtorEq, Int.reduceToNat, Int.reduceAdd, Int.reduceSub] at *)
         rw [zcb]
         rw [zbz] at hz
         exact zr7 hz.1 (by have : lenL l = l.length := rfl; omega)
       · (cbv; try simp only [syT, true_and, and_true])
         (subst hL; subst hQ; simp only [L2, L3, std] at *; try simp only [syS, reduceCtorEq, Int.reduceToNat, Int.reduceAdd, Int.reduceSub] at *)
         have : lenL l = l.length := rfl
         have := zma l
         have h1 := hz.1
         have h2 := hz.2
         rw [zcv] at h1
         rw [zci]
         exact ⟨by rw [zuc (by omega)], by omega, by omega, by omega⟩
       · (subst hL; subst hQ; simp only [L2, L3, std] at *; try simp only [syS, reduceCtorEq, Int.reduceToNat, Int.reduceAdd, Int.reduceSub] at *)
         have : lenL l = l.length := rfl
         have hil : i = l.length := by omega
         have h3 := ydj l i
         have h1 := hz.1
         have h2 := hz.2
         rw [zcv] at h1
         rw [ze2, if_pos h, hil, zi1, List.take_length]
         rw [hil, zi1, List.take_length] at h3
         omega
   · cases h
end Sy
end Go.Proofs.YtfonekpmkdkgnaaGreatDoor
namespace Go.Proofs.YtfonekpmkdkgnaaGreatDoor
namespace Sy
open Go Go.RowKit
set_option maxRecDepth 100000
set_option linter.unusedSimpArgs false
set_option linter.unusedVariables false
def okG {α : Type} (V : Vw α) : AV -> Prop
 | .agg cs => cs.length = V.sz /\ V.ok (fun j => zbb .dead cs j)
 | _ => False
def rdG {α : Type} (V : Vw α) : AV -> α
 | .agg cs => V.rd (fun j => zbb .dead cs j)
 | _ => V.d
theorem ych (cs : List AV) (j : Nat) : zbb .dead cs j = (cs[j]?).getD .dead := by
 induction cs generalizing j with
 | nil => cases j <;> rfl
 | cons x l ih => cases j with
   | zero => rfl
   | succ j => exact ih j
theorem gK {α : Type} {V : Vw α} (K : zwq V) (x : α) (cs : List AV) (h : cs = (List.range V.sz).map (V.cell std x)) : okG V (.agg cs) /\ rdG V (.agg cs) = x := by
 have h1 : ∀ j, j < V.sz -> zbb .dead cs j = V.cell std x j := fun j hj => by rw [ych, h]; simp [hj]
 have h2 := K.back _ x h1
 exact ⟨⟨by simp [h], h2.1⟩, h2.2⟩
theorem G_R {α : Type} {V : Vw α} (K : zwq V) {x : AV} (ho : okG V x) {h : Array Obj} {D : Nat -> Prop} {μ : Mu} {v : Value} (r : R h D μ x v) : R h D μ (.agg ((List.range V.sz).map (V.cell std (rdG V x)))) v := by
 match x, ho with
 | .agg cs, ho =>
   obtain ⟨us, rfl, o1, s1, hr⟩ := r.inv_agg
   refine .agg _ _ (by rw [<- s1]; simp [ho.1]) o1 fun i y w hy hw => ?_
   have hi : i < V.sz := by
     have := (List.getElem?_eq_some_iff.1 hy).1
     simpa using this
   simp [hi] at hy
   subst hy
   have hc : cs[i]? = some (zbb .dead cs i) := by
     rw [ych, List.getElem?_eq_getElem (by rw [ho.1]; exact hi)]; rfl
   exact K.turn _ ho.2 i hi _ _ _ _ (hr i _ w hc hw)
theorem zss {α : Type} {V : Vw α} (K : zwq V) {P : Program} {f : FuncId} {x r : AV} {q : List AV} (ho : okG V x) (h : za5 P f (.agg ((List.range V.sz).map (V.cell std (rdG V x))) :: q) r) : za5 P f (x :: q) r :=
 zjm (fun h D vs hr => yoi (fun v => G_R K ho) hr) h
end Sy
end Go.Proofs.YtfonekpmkdkgnaaGreatDoor
