/-The symbolic executor: calls that turn blocks of the caller's own. The symbolic executor: regions. The symbolic executor: regions, in the order of the text and in any; and what stands between these and the texts behind.-/
import Derived.Test.YtcgikjfloloekaaGreatDoorM2
import Derived.Deep.LoopGhost
import Derived.IntWalk
import Derived.Test.YtcgikjfloloekaaGreatDoorRows
import Derived.WalkKit
import Derived.WalkSpells
import Derived.WalkLawsBesides
import Derived.Deep.DeepCutAuto
import Derived.Deep.OwnRows
import Derived.Laws.IdiomStrings
import Derived.Lib.Hide
import Derived.Below
import Derived.ChangeSame
import Derived.ScopeJumps
import Derived.ProofKit
import Derived.OpenShut
import Derived.Carry
import Derived.Lib.SmallJoins
namespace Go.Proofs.YtcgikjfloloekaaGreatDoor
namespace Sy
open Go Go.RowKit
set_option linter.unusedSimpArgs false
set_option linter.unusedVariables false
set_option linter.unusedSectionVars false
structure yv3 (D : Nat -> Prop) (w : World) (μ : Mu) (O O1 : List (Nat × Ob)) (r : AV) (e : Ending) (v : Value) (w' : World) (D' : Nat -> Prop) (μ' : Mu) : Prop where
 ret : e = .returned v
 os : w'.os = w.os
 tape : w'.tape = w.tape
 output : w'.output = w.output
 size : w.heap.size <= w'.heap.size
 old : ∀ b, b < w.heap.size -> (∀ n z, μ n ≠ some (some (b, z))) -> w'.heap[b]? = w.heap[b]?
 up : ∀ b, D b -> D' b
 dn : ∀ b, D' b -> D b \/ (w.heap.size <= b /\ b < w'.heap.size) \/ ∃ n z, μ n = some (some (b, z))
 dom : ∀ n, μ' n = none ↔ za2 O1 n = none
 obs : ∀ n o x, za2 O1 n = some o -> μ' n = some x -> zkd w'.heap D' μ' o x
 inj : ∀ n n' b z z', μ' n = some (some (b, z)) -> μ' n' = some (some (b, z')) -> n = n'
 own : ∀ n b z, μ' n = some (some (b, z)) -> b < w'.heap.size /\ ¬ D' b /\ (w.heap.size <= b \/ ∃ m z', μ m = some (some (b, z')))
 keep : ∀ n, za2 O n ≠ none -> za2 O1 n ≠ none -> μ' n = μ n
 val : R w'.heap D' μ' r v
def ze6 (P : Program) (f : FuncId) (xs : List AV) (O : List (Nat × Ob)) (r : AV) (O1 : List (Nat × Ob)) : Prop :=
 ∀ (D : Nat -> Prop) (w : World) (μ : Mu) (vs : Array Value), (∀ b, D b -> b < w.heap.size) -> RL w.heap D μ xs vs ->
   (∀ n, μ n = none ↔ za2 O n = none) -> (∀ n o x, za2 O n = some o -> μ n = some x -> zkd w.heap D μ o x) ->
   (∀ n n' b z z', μ n = some (some (b, z)) -> μ n' = some (some (b, z')) -> n = n') -> (∀ n b z, μ n = some (some (b, z)) -> b < w.heap.size /\ ¬ D b) -> GOk w -> (∀ n b z, μ n = some (some (b, z)) -> gN <= b) ->
   zfp P f vs w fun e w' => ∃ v D' μ', yv3 D w μ O O1 r e v w' D' μ'
structure ygj (g : Nat -> Option Ob) (c : Nat -> Bool) (raw : List AV) (F : List (Nat × Option Nat)) (fr : Nat) (T : yqs) : Prop where
 len : raw.length = T.xs.length
 xs : ∀ h D μ vs, RL h D μ raw vs -> RL h D (zfs μ F) T.xs vs
 inj : Inj F
 dom : ∀ n x, za2 F n = some x -> za2 T.O n ≠ none
 obs : ∀ n o, za2 T.O n = some o -> ∃ x, za2 F n = some x /\ match x with
   | some id => c id = false /\ ∃ o', g id = some o' /\ o' ≠ .gone /\ ∀ h D μ y, zkd h D μ o' y -> zkd h D (zfs μ F) o y
   | none => ∀ h D μ, zkd h D (zfs μ F) o none
 fresh : ∀ n o, za2 T.O1 n = some o -> (∀ id, za2 F n ≠ some (some id)) -> g (fr + n) = none
 unpin : ∀ n o, za2 T.O1 n = some o -> (∀ id, za2 F n ≠ some (some id)) -> zgs (fr + n) = false
 ng : ∀ n, za2 T.O1 n ≠ some .gone
def mOs (F : List (Nat × Option Nat)) (fr : Nat) (T : yqs) : List (Nat × Ob) := zcr (znr F fr T.O1) (zhk F T.O1 T.O)
theorem zgg {α : Type} (os l : List (Nat × α)) (id : Nat) : za2 (zcr os l) id = match za2 os id with | some o => some o | none => za2 l id := by
 induction os with
 | nil => rfl
 | cons x os ih =>
   obtain ⟨i, o⟩ := x
   simp only [zcr, za2]
   cases zan i id <;> simp [ih]
section
variable {F : List (Nat × Option Nat)} {fr : Nat} {h : Array Obj} {D : Nat -> Prop} {μ μ' : Mu}
theorem zrb (hμ : ∀ n y, μ n = some y -> μ' (tgt F fr n) = some y) {x : AV} {v : Value} (r : R h D μ x v) : R h D μ' (yn1 F fr x) v := by
 cases r with
 | dead v => exact .dead v
 | bool b => exact .bool b
 | int k n => exact .int k n
 | str l s e => exact .str l s e
 | nilp => exact .nilp
 | nilm => exact .nilm
 | nilf => exact .nilf
 | nils => exact .nils
 | nili => exact .nili
 | ifn => exact .ifn
 | ifs t p => exact .ifs t p
 | emp a cap => exact .emp a cap
 | emz a => exact .emz a
 | lst0 sz get a cap hn => exact .lst0 sz get a cap hn
 | lst sz n get b o cap vs hD hc hv h1 hr => exact .lst sz n get b o cap vs hD hc hv h1 hr
 | lstx sz n get a r => exact .lstx _ _ _ a (zu9 r)
 | iptr n get b o vs hD hv h1 hr => exact .iptr n get b o vs hD hv h1 hr
 | arr n get vs e h1 hr => exact .arr n get vs e h1 hr
 | ref id off b z m hm => exact .ref _ off b z m (hμ _ _ hm)
 | eref id sz i off b z m hm hi => exact .eref _ sz i off b z m (hμ _ _ hm) hi
 | slv id sz a hm => exact .slv _ sz a (hμ _ _ hm)
 | sl0 id sz off b z m o hm ho => exact .sl0 _ sz off b z m o (hμ _ _ hm) ho
 | sl id sz off n b z m cap hm hn hz ho => exact .sl _ sz off n b z m cap (hμ _ _ hm) hn hz ho
 | slcv id sz a hm => exact .slcv _ sz a (hμ _ _ hm)
 | slc0 id sz off b z m o hm ho => exact .slc0 _ sz off b z m o (hμ _ _ hm) ho
 | slc id sz off n cap b z m hm hn hz ho => exact .slc _ sz off n cap b z m (hμ _ _ hm) hn hz ho
 | fn f xs ys vs us e1 e2 h1 h2 =>
   simp only [yn1]
   split
   · rename_i hf; exact (zf3 (.fn f xs ys vs us e1 e2 h1 h2) hf).free
   · exact .dead _
 | agg cs vs e h1 hr => exact .dead _
 | tup cs vs e hr => exact .dead _
 | mp id b z m hm => exact .mp _ b z m (hμ _ _ hm)
 | bidx id off n i b z m hm hi => exact .bidx _ off n i b z m (hμ _ _ hm) hi
 | mpi kk n has val b es clock kf hD hb hn hk hr => exact .mpi kk n has val b es clock kf hD hb hn hk hr
theorem zlq {α β : Type} (k : α -> β) (l : List α) (i : Nat) : (zfk k l)[i]? = l[i]?.map k := by
 induction l generalizing i with
 | nil => rfl
 | cons x l ih => cases i with
   | zero => rfl
   | succ i => simp [zfk, ih]
theorem zlp {α β : Type} (k : α -> β) (l : List α) : (zfk k l).length = l.length := by
 induction l with
 | nil => rfl
 | cons x l ih => simp [zfk, ih]
theorem ys8 (hμ : ∀ n y, μ n = some y -> μ' (tgt F fr n) = some y) {x : AV} {v : Value} (r : R h D μ x v) : R h D μ' (ys9 F fr x) v := by
 unfold ys9
 split
 · obtain ⟨us, rfl, o1, s1, hr⟩ := r.inv_agg
   refine .agg _ _ (by rw [zlp]; exact s1) o1 fun i x v hx hv => ?_
   rw [zlq] at hx
   obtain ⟨y, hy, rfl⟩ := Option.map_eq_some_iff.1 hx
   exact zrb hμ (hr i y v hy hv)
 · obtain ⟨us, rfl, l1, hr⟩ := r.inv_tup
   refine .tup _ _ (by rw [zlp]; exact l1) fun i x v hx hv => ?_
   rw [zlq] at hx
   obtain ⟨y, hy, rfl⟩ := Option.map_eq_some_iff.1 hx
   exact zrb hμ (hr i y v hy hv)
 · exact zrb hμ r
theorem yho (hμ : ∀ n y, μ n = some y -> μ' (tgt F fr n) = some y) {o : Ob} {x : Option (Nat × Nat × Nat)} (k : zkd h D μ o x) : zkd h D μ' (zyd F fr o) x := by
 match o, x, k with
 | .box ty cs, some (b, z, m), ⟨c, t, q, e, r1, r2, r3, r4, r5⟩ =>
   refine ⟨c, t, q, e, r1, r2, r3, by rw [zlp]; exact r4, fun i x v hx hv => ?_⟩
   rw [zlq] at hx
   obtain ⟨y, hy, rfl⟩ := Option.map_eq_some_iff.1 hx
   exact zrb hμ (r5 i y v hy hv)
 | .row ty sz n get, some (b, z, m), k => exact k
 | .spr ty cs, some (b, z, m), ⟨c, t, q, e, r1, r2, r3, r4⟩ =>
   refine ⟨c, t, q, e, r1, r2, by rw [zlp]; exact r3, fun i x hx => ?_⟩
   rw [zlq] at hx
   obtain ⟨y, hy, rfl⟩ := Option.map_eq_some_iff.1 hx
   obtain ⟨v, v1, v2, v3⟩ := r4 i y hy
   exact ⟨v, v1, v2, zrb hμ v3⟩
 | .map kk n has val, some (b, z), k => exact k
 | .row _ _ n _, none, k => exact k
 | .spr _ cs, none, k =>
   have k : cs = [] := k
   subst k
   rfl
 | .gone, _, _ => exact trivial
end
theorem zmq {F : List (Nat × Option Nat)} {fr : Nat} : ∀ {O1 : List (Nat × Ob)} {i : Nat} {ob : Ob}, za2 (znr F fr O1) i = some ob -> ∃ n o, (n, o) ∈ O1 /\ tgt F fr n = i /\ ob = zyd F fr o
 | [], i, ob, h => by cases h
 | (n, o) :: r, i, ob, h => by
   unfold znr za2 at h
   split at h
   · rename_i e; cases h; exact ⟨n, o, by simp, za4 e, rfl⟩
   · obtain ⟨m, o', h1, h2, h3⟩ := zmq h
     exact ⟨m, o', List.mem_cons_of_mem _ h1, h2, h3⟩
theorem zpv {F : List (Nat × Option Nat)} {fr : Nat} : ∀ {O1 : List (Nat × Ob)} (_ : ∀ n n', za2 O1 n ≠ none -> za2 O1 n' ≠ none -> tgt F fr n = tgt F fr n' -> n = n') {n : Nat} {o : Ob}, za2 O1 n = some o -> za2 (znr F fr O1) (tgt F fr n) = some (zyd F fr o)
 | [], hi, n, o, h => by cases h
 | (m, o') :: r, hi, n, o, h => by
   have h0 := h
   unfold za2 at h
   unfold znr za2
   cases e : zan m n with
   | true =>
     have := za4 e; subst this
     rw [e] at h; cases h
     simp [za6]
   | false =>
     rw [e] at h
     simp only at h
     have hne : m ≠ n := by rintro rfl; rw [za6] at e; cases e
     have : zan (tgt F fr m) (tgt F fr n) = false := zao fun x => hne (hi m n (by simp [za2, za6]) (by rw [h0]; simp) x)
     rw [this]
     refine zpv (O1 := r) (fun k k' h1 h2 h3 => hi k k' ?_ ?_ h3) h
     · unfold za2; split
       · simp
       · exact h1
     · unfold za2; split
       · simp
       · exact h2
theorem zpx {α : Type} : ∀ {l : List (Nat × α)} {n : Nat} {o : α}, (n, o) ∈ l -> za2 l n ≠ none
 | (m, o') :: r, n, o, h => by
   unfold za2
   split
   · simp
   · rename_i e
     rcases List.mem_cons.1 h with h | h
     · cases h; rw [za6] at e; cases e
     · exact zpx h
theorem zom {F : List (Nat × Option Nat)} {O1 : List (Nat × Ob)} : ∀ {O : List (Nat × Ob)} {i : Nat} {ob : Ob}, za2 (zhk F O1 O) i = some ob -> ob = .gone /\ ∃ n, za2 O n ≠ none /\ za2 O1 n = none /\ za2 F n = some (some i)
 | [], i, ob, h => by cases h
 | (n, o) :: r, i, ob, h => by
   have up : ∀ {m}, za2 r m ≠ none -> za2 ((n, o) :: r) m ≠ none := by
     intro m hm
     unfold za2
     split
     · simp
     · exact hm
   have down : za2 (zhk F O1 r) i = some ob -> ob = .gone /\ ∃ m, za2 ((n, o) :: r) m ≠ none /\ za2 O1 m = none /\ za2 F m = some (some i) := fun h => by
     obtain ⟨h1, m, h2, h3, h4⟩ := zom h
     exact ⟨h1, m, up h2, h3, h4⟩
   unfold zhk at h
   split at h
   · exact down h
   · rename_i h1
     split at h
     · rename_i id hid
       unfold za2 at h
       split at h
       · rename_i e
         cases h
         exact ⟨rfl, n, by simp [za2, za6], h1, by rw [hid, za4 e]⟩
       · exact down h
     · exact down h
theorem zn0 {F : List (Nat × Option Nat)} {O1 : List (Nat × Ob)} : ∀ {O : List (Nat × Ob)} {n i : Nat}, za2 O n ≠ none -> za2 O1 n = none -> za2 F n = some (some i) -> za2 (zhk F O1 O) i = some .gone
 | [], n, i, h, _, _ => by simp [za2] at h
 | (m, o) :: r, n, i, h, h1, h2 => by
   unfold zhk
   unfold za2 at h
   cases e : zan m n with
   | true =>
     have := za4 e; subst this
     rw [h1, h2]
     simp [za2, za6]
   | false =>
     rw [e] at h
     have ih := zn0 (O := r) h h1 h2
     split
     · exact ih
     · split
       · unfold za2; split
         · rfl
         · exact ih
       · exact ih
section
variable {P : Program} {base : Nat} {M : Two} {W : World} {nt : Nat} {f : Nat -> Option AV} {g : Nat -> Option Ob} {c : Nat -> Bool} {a : Act} {w : World} {D : Nat -> Prop} {μ : Mu}
variable {raw : List AV} {F : List (Nat × Option Nat)} {fr : Nat} {T : yqs}
theorem ygj.tgt_inj (hm : ygj g c raw F fr T) : ∀ n n', za2 T.O1 n ≠ none -> za2 T.O1 n' ≠ none -> tgt F fr n = tgt F fr n' -> n = n' := by
 have key : ∀ n n' id, za2 T.O1 n' ≠ none -> za2 F n = some (some id) -> (∀ id, za2 F n' ≠ some (some id)) -> id ≠ fr + n' := by
   intro n n' id h1 h2 h3 e
   obtain ⟨o, ho⟩ := Option.ne_none_iff_exists'.1 (hm.dom n _ h2)
   obtain ⟨x, hx, hx2⟩ := hm.obs n o ho
   rw [h2] at hx; cases hx
   obtain ⟨_, o', ho', _⟩ := hx2
   obtain ⟨o1, ho1⟩ := Option.ne_none_iff_exists'.1 h1
   rw [e, hm.fresh n' o1 ho1 h3] at ho'
   cases ho'
 have no : ∀ {n}, ¬ (∃ id, za2 F n = some (some id)) -> (∀ id, za2 F n ≠ some (some id)) /\ tgt F fr n = fr + n := by
   intro n h
   refine ⟨fun id e => h ⟨id, e⟩, ?_⟩
   unfold tgt
   split
   · rename_i id e; exact absurd ⟨id, e⟩ h
   · rfl
 have yes : ∀ {n id}, za2 F n = some (some id) -> tgt F fr n = id := by
   intro n id h; unfold tgt; rw [h]
 intro n n' h1 h2 h3
 by_cases e : ∃ id, za2 F n = some (some id) <;> by_cases e' : ∃ id, za2 F n' = some (some id)
 · obtain ⟨id, e⟩ := e
   obtain ⟨id', e'⟩ := e'
   rw [yes e, yes e'] at h3
   subst h3
   exact hm.inj _ _ _ e e'
 · obtain ⟨id, e⟩ := e
   obtain ⟨q1, q2⟩ := no e'
   rw [yes e, q2] at h3
   exact absurd h3 (key n n' id h2 e q1)
 · obtain ⟨id, e'⟩ := e'
   obtain ⟨q1, q2⟩ := no e
   rw [yes e', q2] at h3
   exact absurd h3.symm (key n' n id h1 e' q1)
 · rw [(no e).2, (no e').2] at h3
   omega
theorem ygj.asks (hm : ygj g c raw F fr T) (h : Sim base M W nt f g c a w D μ) :
   (∀ n, zfs μ F n = none ↔ za2 T.O n = none) /\ (∀ n o x, za2 T.O n = some o -> zfs μ F n = some x -> zkd w.heap D (zfs μ F) o x) /\
   (∀ n n' b z z', zfs μ F n = some (some (b, z)) -> zfs μ F n' = some (some (b, z')) -> n = n') /\ (∀ n b z, zfs μ F n = some (some (b, z)) -> b < w.heap.size /\ ¬ D b /\ ∃ id o, za2 F n = some (some id) /\ μ id = some (some (b, z)) /\ g id = some o /\ o ≠ .gone /\ c id = false) := by
 have own : ∀ n b z, zfs μ F n = some (some (b, z)) -> ∃ id o, za2 F n = some (some id) /\ μ id = some (some (b, z)) /\ g id = some o /\ o ≠ .gone /\ c id = false := by
   intro n b z hn
   unfold zfs at hn
   split at hn
   · rename_i id hid
     obtain ⟨o, ho⟩ := Option.ne_none_iff_exists'.1 (hm.dom n _ hid)
     obtain ⟨x, hx, hx2⟩ := hm.obs n o ho
     rw [hid] at hx; cases hx
     obtain ⟨c1, o', ho', ho2, _⟩ := hx2
     exact ⟨id, o', hid, hn, ho', ho2, c1⟩
   · cases hn
   · cases hn
 refine ⟨fun n => ⟨fun hn => ?_, fun hn => ?_⟩, fun n o x ho hx => ?_, fun n n' b z z' h1 h2 => ?_, fun n b z h1 => ?_⟩
 · refine Classical.byContradiction fun hne => ?_
   obtain ⟨o, ho⟩ := Option.ne_none_iff_exists'.1 hne
   obtain ⟨x, hx, hx2⟩ := hm.obs n o ho
   unfold zfs at hn
   rw [hx] at hn
   cases x with
   | none => cases hn
   | some id =>
     obtain ⟨_, o', ho', _⟩ := hx2
     rw [(h.dom id).1 hn] at ho'
     cases ho'
 · unfold zfs
   split
   · rename_i e; exact absurd hn (hm.dom n _ e)
   · rename_i e; exact absurd hn (hm.dom n _ e)
   · rfl
 · obtain ⟨y, hy, hy2⟩ := hm.obs n o ho
   unfold zfs at hx
   rw [hy] at hx
   cases y with
   | none => cases hx; exact hy2 _ _ _
   | some id =>
     obtain ⟨_, o', ho', _, ho3⟩ := hy2
     exact ho3 _ _ _ _ (h.obs id o' x ho' hx)
 · obtain ⟨id, o, q1, q2, q3, q4, q5⟩ := own n b z h1
   obtain ⟨id', o', r1, r2, r3, r4, r5⟩ := own n' b z' h2
   have := h.inj id id' b z z' o o' q2 r2 q3 r3 q4 r4
   subst this
   exact hm.inj _ _ _ q1 r1
 · obtain ⟨id, o, q1, q2, q3, q4, q5⟩ := own n b z h1
   exact ⟨(h.own id b z q2).1, (h.kd id b z o q2 q3 q4).2 q5, id, o, q1, q2, q3, q4, q5⟩
open Classical in
noncomputable def muM (μ μ1 : Mu) (F : List (Nat × Option Nat)) (fr : Nat) (O1 : List (Nat × Ob)) : Mu := fun i =>
 if e : ∃ n, za2 O1 n ≠ none /\ tgt F fr n = i then μ1 (Classical.choose e) else μ i
theorem yo3 (hm : ygj g c raw F fr T) (μ1 : Mu) {n : Nat} (hn : za2 T.O1 n ≠ none) : muM μ μ1 F fr T.O1 (tgt F fr n) = μ1 n := by
 unfold muM
 have e : ∃ m, za2 T.O1 m ≠ none /\ tgt F fr m = tgt F fr n := ⟨n, hn, rfl⟩
 rw [dif_pos e]
 have := Classical.choose_spec e
 rw [hm.tgt_inj _ _ this.1 hn this.2]
theorem ydp {μ1 : Mu} {O1 : List (Nat × Ob)} {i : Nat} (hn : ¬ ∃ n, za2 O1 n ≠ none /\ tgt F fr n = i) : muM μ μ1 F fr O1 i = μ i := by
 unfold muM; rw [dif_neg hn]
theorem Sim.mcall (h : Sim base M W nt f g c a w D μ) (hm : ygj g c raw F fr T) {e : Ending} {v : Value} {w' : World} {D' : Nat -> Prop} {μ1 : Mu} (he : yv3 D w (zfs μ F) T.O T.O1 T.r e v w' D' μ1) :
   ∃ μ', Sim base M W nt f (zbb g (mOs F fr T)) c a w' D' μ' /\ R w'.heap D' μ' (ys9 F fr T.r) v := by
 obtain ⟨a1, a2, a3, a4⟩ := hm.asks h
 have tin := hm.tgt_inj
 obtain ⟨μ', hμ'⟩ : ∃ μ', μ' = muM μ μ1 F fr T.O1 := ⟨_, rfl⟩
 have m1 : ∀ n, za2 T.O1 n ≠ none -> μ' (tgt F fr n) = μ1 n := fun n hn => by rw [hμ']; exact yo3 hm μ1 hn
 have m2 : ∀ i, (¬ ∃ n, za2 T.O1 n ≠ none /\ tgt F fr n = i) -> μ' i = μ i := fun i hn => by rw [hμ']; exact ydp hn
 have m3 : ∀ n y, μ1 n = some y -> μ' (tgt F fr n) = some y := fun n y hy => by
   rw [m1 n (fun e => by rw [(he.dom n).2 e] at hy; cases hy), hy]
 have ext : ∀ id x, μ id = some x -> μ' id = some x := by
   intro id x hx
   by_cases e : ∃ n, za2 T.O1 n ≠ none /\ tgt F fr n = id
   · obtain ⟨n, hn, rfl⟩ := e
     rw [m1 n hn]
     by_cases e2 : ∃ id, za2 F n = some (some id)
     · obtain ⟨id, hid⟩ := e2
       have ht : tgt F fr n = id := by unfold tgt; rw [hid]
       rw [ht] at hx
       rw [he.keep n (hm.dom n _ hid) hn]
       unfold zfs; rw [hid]; exact hx
     · have hno : ∀ id, za2 F n ≠ some (some id) := fun id e => e2 ⟨id, e⟩
       have ht : tgt F fr n = fr + n := by
         unfold tgt
         split
         · rename_i id e; exact absurd e (hno id)
         · rfl
       obtain ⟨o, ho⟩ := Option.ne_none_iff_exists'.1 hn
       rw [ht, (h.dom _).2 (hm.fresh n o ho hno)] at hx
       cases hx
   · rw [m2 id e]; exact hx
 have hos1 : ∀ n o, za2 T.O1 n = some o -> zbb g (mOs F fr T) (tgt F fr n) = some (zyd F fr o) := by
   intro n o ho
   unfold zbb mOs
   rw [zgg, zpv tin ho]
 have hos2 : ∀ i, (¬ ∃ n, za2 T.O1 n ≠ none /\ tgt F fr n = i) -> (∃ n, za2 T.O n ≠ none /\ za2 T.O1 n = none /\ za2 F n = some (some i)) -> zbb g (mOs F fr T) i = some .gone := by
   rintro i hn ⟨n, h1, h2, h3⟩
   unfold zbb mOs
   rw [zgg]
   cases e : za2 (znr F fr T.O1) i with
   | some ob =>
     obtain ⟨m, o, q1, q2, _⟩ := zmq e
     exact absurd ⟨m, zpx q1, q2⟩ hn
   | none => simp only; rw [zn0 h1 h2 h3]
 have hos3 : ∀ i, (¬ ∃ n, za2 T.O1 n ≠ none /\ tgt F fr n = i) -> (¬ ∃ n, za2 T.O n ≠ none /\ za2 T.O1 n = none /\ za2 F n = some (some i)) -> zbb g (mOs F fr T) i = g i := by
   intro i hn hn2
   unfold zbb mOs
   rw [zgg]
   cases e : za2 (znr F fr T.O1) i with
   | some ob =>
     obtain ⟨m, o, q1, q2, _⟩ := zmq e
     exact absurd ⟨m, zpx q1, q2⟩ hn
   | none =>
     simp only
     cases e2 : za2 (zhk F T.O1 T.O) i with
     | none => rfl
     | some ob => exact absurd (zom e2).2 hn2
 have alive : ∀ i o, zbb g (mOs F fr T) i = some o -> o ≠ .gone -> (∃ n o1, za2 T.O1 n = some o1 /\ tgt F fr n = i /\ o = zyd F fr o1) \/ (g i = some o /\ μ' i = μ i /\ ∀ n, za2 F n ≠ some (some i)) := by
   intro i o ho hng
   by_cases e : ∃ n, za2 T.O1 n ≠ none /\ tgt F fr n = i
   · obtain ⟨n, hn, rfl⟩ := e
     obtain ⟨o1, ho1⟩ := Option.ne_none_iff_exists'.1 hn
     rw [hos1 n o1 ho1] at ho
     cases ho
     exact .inl ⟨n, o1, ho1, rfl, rfl⟩
   · by_cases e2 : ∃ n, za2 T.O n ≠ none /\ za2 T.O1 n = none /\ za2 F n = some (some i)
     · rw [hos2 i e e2] at ho; cases ho; exact absurd rfl hng
     · rw [hos3 i e e2] at ho
       refine .inr ⟨ho, m2 i e, fun n hn => ?_⟩
       by_cases e3 : za2 T.O1 n = none
       · exact e2 ⟨n, hm.dom n _ hn, e3, hn⟩
       · exact e ⟨n, e3, by unfold tgt; rw [hn]⟩
 have other : ∀ i o b z, g i = some o -> o ≠ .gone -> μ i = some (some (b, z)) -> (∀ n, za2 F n ≠ some (some i)) -> ∀ n z', zfs μ F n ≠ some (some (b, z')) := by
   intro i o b z hi hng hb hno n z' hn
   obtain ⟨_, _, id, o', q1, q2, q3, q4, q5⟩ := a4 n b z' hn
   have := h.inj i id b z z' o o' hb q2 hi q3 hng q4
   subst this
   exact hno n q1
 have hD : ∀ b, D b -> w'.heap[b]? = w.heap[b]? := fun b hb => he.old b (h.dlt b hb) fun n z hn => (a4 n b z hn).2.1 hb
 refine ⟨μ', ?_, ys8 m3 he.val⟩
 exact {
   os := he.os.trans h.os
   tape := he.tape.trans h.tape
   output := he.output.trans h.output
   size := Nat.le_trans h.size he.size
   bs := Nat.le_trans h.bs he.size
   old := fun b h1 h2 => (he.old b (by have := h.bs; omega) fun n z hn => by
     obtain ⟨_, _, id, o', q1, q2, _⟩ := a4 n b z hn
     rcases (h.own id b z q2).2 with q | q
     · omega
     · exact h2 q).trans (h.old b h1 h2)
   defers := h.defers
   tmps := h.tmps
   slots := fun t v hv => (h.slots t v hv).mono hD he.up ext
   dlt := fun b hb => by
     rcases he.dn b hb with q | q | ⟨n, z, q⟩
     · exact Nat.lt_of_lt_of_le (h.dlt b q) he.size
     · exact q.2
     · exact Nat.lt_of_lt_of_le (a4 n b z q).1 he.size
   low := fun b hb hlt => by
     rcases he.dn b hb with q | q | ⟨n, z, q⟩
     · exact h.low b q hlt
     · have := h.bs; omega
     · obtain ⟨_, _, id, o', q1, q2, _⟩ := a4 n b z q
       rcases (h.own id b z q2).2 with q | q
       · omega
       · exact .inr q
   dom := fun i => by
     by_cases e : ∃ n, za2 T.O1 n ≠ none /\ tgt F fr n = i
     · obtain ⟨n, hn, rfl⟩ := e
       obtain ⟨o1, ho1⟩ := Option.ne_none_iff_exists'.1 hn
       rw [m1 n hn, hos1 n o1 ho1, he.dom n, ho1]
       simp
     · rw [m2 i e]
       by_cases e2 : ∃ n, za2 T.O n ≠ none /\ za2 T.O1 n = none /\ za2 F n = some (some i)
       · rw [hos2 i e e2]
         obtain ⟨n, h1, h2, h3⟩ := e2
         obtain ⟨o, ho⟩ := Option.ne_none_iff_exists'.1 h1
         obtain ⟨x, hx, hx2⟩ := hm.obs n o ho
         rw [h3] at hx; cases hx
         obtain ⟨_, o', ho', _⟩ := hx2
         rw [h.dom i, ho']; simp
       · rw [hos3 i e e2]; exact h.dom i
   obs := fun i o x ho hx => by
     by_cases hg : o = .gone
     · subst hg; cases x <;> exact trivial
     rcases alive i o ho hg with ⟨n, o1, q1, rfl, rfl⟩ | ⟨q1, q2, q3⟩
     · rw [m1 n (by rw [q1]; simp)] at hx
       exact yho m3 (he.obs n o1 x q1 hx)
     · rw [q2] at hx
       exact (h.obs i o x q1 hx).mono hD he.up ext (fun b z hx2 _ => he.old b (h.own i b z (by rw [hx, hx2])).1 (other i o b z q1 hg (by rw [hx, hx2]) q3))
   inj := fun i i' b z z' o o' h1 h2 h3 h4 h5 h6 => by
     rcases alive i o h3 h5 with ⟨n, o1, q1, rfl, rfl⟩ | ⟨q1, q2, q3⟩ <;> rcases alive i' o' h4 h6 with ⟨n', o1', q1', rfl, rfl⟩ | ⟨q1', q2', q3'⟩
     · rw [m1 n (by rw [q1]; simp)] at h1
       rw [m1 n' (by rw [q1']; simp)] at h2
       rw [he.inj n n' b z z' h1 h2]
     · rw [m1 n (by rw [q1]; simp)] at h1
       rw [q2'] at h2
       rcases (he.own n b z h1).2.2 with q | ⟨m, z2, q⟩
       · have := (h.own i' b z' h2).1; omega
       · exact absurd q (other i' o' b z' q1' h6 h2 q3' m z2)
     · rw [m1 n' (by rw [q1']; simp)] at h2
       rw [q2] at h1
       rcases (he.own n' b z' h2).2.2 with q | ⟨m, z2, q⟩
       · have := (h.own i b z h1).1; omega
       · exact absurd q (other i o b z q1 h5 h1 q3 m z2)
     · rw [q2] at h1; rw [q2'] at h2
       exact h.inj i i' b z z' o o' h1 h2 q1 q1' h5 h6
   own := fun i b z h1 => by
     by_cases e : ∃ n, za2 T.O1 n ≠ none /\ tgt F fr n = i
     · obtain ⟨n, hn, rfl⟩ := e
       rw [m1 n hn] at h1
       obtain ⟨k1, k2, k3⟩ := he.own n b z h1
       refine ⟨k1, ?_⟩
       rcases k3 with q | ⟨m, z2, q⟩
       · have := h.bs; exact .inl (by omega)
       · obtain ⟨_, _, id, o', q1, q2, _⟩ := a4 m b z2 q
         exact (h.own id b z2 q2).2
     · rw [m2 i e] at h1
       exact ⟨Nat.lt_of_lt_of_le (h.own i b z h1).1 he.size, (h.own i b z h1).2⟩
   kd := fun i b z o h1 h2 h3 => by
     rcases alive i o h2 h3 with ⟨n, o1, q1, rfl, rfl⟩ | ⟨q1, q2, q3⟩
     · rw [m1 n (by rw [q1]; simp)] at h1
       have k := (he.own n b z h1).2.1
       have hc : c (tgt F fr n) = false := by
         by_cases e2 : ∃ id, za2 F n = some (some id)
         · obtain ⟨id, hid⟩ := e2
           have ht : tgt F fr n = id := by unfold tgt; rw [hid]
           obtain ⟨o, ho⟩ := Option.ne_none_iff_exists'.1 (hm.dom n _ hid)
           obtain ⟨x, hx, hx2⟩ := hm.obs n o ho
           rw [hid] at hx; cases hx
           rw [ht]; exact hx2.1
         · have hno : ∀ id, za2 F n ≠ some (some id) := fun id e => e2 ⟨id, e⟩
           have ht : tgt F fr n = fr + n := by
             unfold tgt
             split
             · rename_i id e; exact absurd e (hno id)
             · rfl
           rw [ht]
           cases hc : c (fr + n) with
           | false => rfl
           | true => exact absurd (hm.fresh n o1 q1 hno) (h.icy _ hc)
       exact ⟨fun hx => (by rw [hc] at hx; cases hx), fun _ => k⟩
     · rw [q2] at h1
       obtain ⟨k1, k2⟩ := h.kd i b z o h1 q1 h3
       refine ⟨fun hc => he.up b (k1 hc), fun hc hd => ?_⟩
       rcases he.dn b hd with q | q | ⟨n, z2, q⟩
       · exact k2 hc q
       · have := (h.own i b z h1).1; omega
       · exact other i o b z q1 h3 h1 q3 n z2 q
   ntb := h.ntb
   gl := h.gl
   pin := fun i y hp hy => by
     by_cases e : ∃ n, za2 T.O1 n ≠ none /\ tgt F fr n = i
     · obtain ⟨n, hn, rfl⟩ := e
       by_cases e2 : ∃ id, za2 F n = some (some id)
       · obtain ⟨id, hid⟩ := e2
         have ht : tgt F fr n = id := by unfold tgt; rw [hid]
         rw [m1 n hn, he.keep n (hm.dom n _ hid) hn] at hy
         unfold zfs at hy; rw [hid] at hy
         rw [ht] at hp |-
         exact h.pin id y hp hy
       · have hno : ∀ id, za2 F n ≠ some (some id) := fun id e => e2 ⟨id, e⟩
         have ht : tgt F fr n = fr + n := by
           unfold tgt
           split
           · rename_i id e; exact absurd e (hno id)
           · rfl
         obtain ⟨o1, ho1⟩ := Option.ne_none_iff_exists'.1 hn
         rw [ht, hm.unpin n o1 ho1 hno] at hp; cases hp
     · rw [m2 i e] at hy; exact h.pin i y hp hy
   icy := fun i hi => by
     have := h.icy i hi
     by_cases e : ∃ n, za2 T.O1 n ≠ none /\ tgt F fr n = i
     · obtain ⟨n, hn, rfl⟩ := e
       obtain ⟨o1, ho1⟩ := Option.ne_none_iff_exists'.1 hn
       rw [hos1 n o1 ho1]; simp
     · by_cases e2 : ∃ n, za2 T.O n ≠ none /\ za2 T.O1 n = none /\ za2 F n = some (some i)
       · rw [hos2 i e e2]; simp
       · rw [hos3 i e e2]; exact this }
end
theorem zgf {α : Type} : ∀ (xs : List α) (i t : Nat), za2 (zyp i xs) t = if i <= t then xs[t - i]? else none
 | [], i, t => by simp [zyp, za2]
 | x :: xs, i, t => by
   unfold zyp za2
   cases e : zan i t with
   | true => have := za4 e; subst this; simp
   | false =>
     have hne : i ≠ t := by rintro rfl; rw [za6] at e; cases e
     simp only
     rw [zgf xs (i + 1) t]
     by_cases h : i <= t
     · rw [if_pos (by omega), if_pos h]
       obtain ⟨k, hk⟩ : ∃ k, t - i = k + 1 := ⟨t - i - 1, by omega⟩
       rw [hk, show t - (i + 1) = k by omega]
       simp
     · rw [if_neg (by omega), if_neg h]
theorem zgt {objs : List (Nat × Ob)} {F : List (Nat × Option Nat)} {fr : Nat} : ∀ {O1 : List (Nat × Ob)}, zks objs F fr O1 = true -> ∀ n o, za2 O1 n = some o -> (∀ id, za2 F n ≠ some (some id)) -> za2 objs (fr + n) = none /\ zgs (fr + n) = false
 | [], _, n, o, h, _ => by cases h
 | (m, o') :: r, e, n, o, h, hno => by
   unfold zks at e
   unfold za2 at h
   split at e
   · rename_i id hid
     split at h
     · rename_i hb
       rw [za4 hb] at hid
       exact absurd hid (hno id)
     · exact zgt e n o h hno
   · split at e
     · rename_i hf hp
       split at h
       · rename_i hb; rw [za4 hb] at hf hp; exact ⟨hf, hp⟩
       · exact zgt e n o h hno
     · cases e
theorem zg5 : ∀ {O1 : List (Nat × Ob)}, zwe O1 = true -> ∀ n, za2 O1 n ≠ some .gone
 | [], _, n => by simp [za2]
 | (m, o) :: r, e, n => by
   unfold za2
   unfold zwe at e
   cases o with
   | gone => cases e
   | box _ _ =>
     split
     · simp
     · exact zg5 e n
   | row _ _ _ _ =>
     split
     · simp
     · exact zg5 e n
   | spr _ _ =>
     split
     · simp
     · exact zg5 e n
   | map _ _ _ _ =>
     split
     · simp
     · exact zg5 e n
theorem yin {s : St} {raw : List AV} {T : yqs} {m : zdl} {fr : Nat} (e : yo6 s raw T = some m) (hf : zks s.objs m.ids fr T.O1 = true) (hp : ∀ p, p ∈ m.ps -> p) : ygj (za2 s.objs) (zcf s.ice) raw m.ids fr T := by
 unfold yo6 at e
 split at e
 · rename_i hlen
   have hlen := za4 hlen
   rw [zaj, zaj] at hlen
   split at e
   · rename_i m1 e1
     split at e
     · rename_i m2 e2
       split at e
       · rename_i h3 h4
         cases e
         have x1 := fun h D μ a => zfi (h := h) (D := D) (μ := μ) (a := a) e1
         have x2 := fun h D μ => zdt (h := h) (D := D) (μ := μ) e2
         have F0 : Fin m m.ids := ⟨fun _ _ h => h, hp⟩
         have X1 := (x1 #[] (fun _ => False) zav ⟨#[], []⟩).1
         have X2 := (x2 #[] (fun _ => False) zav).1
         refine { len := hlen, xs := fun h D μ vs hr => ?_, inj := X2.inj (X1.inj (fun t t' id h => by cases h)), dom := fun n x hx => zjy h3 n x hx, obs := fun n o ho => ?_, fresh := fun n o h1 h2 => (zgt hf n o h1 h2).1, unpin := fun n o h1 h2 => (zgt hf n o h1 h2).2, ng := zg5 h4 }
         · refine ⟨by rw [<- hlen]; exact hr.1, fun i x v hx hv => ?_⟩
           have := (x1 h D μ ⟨vs, []⟩).2 m.ids (F0.of X2) (fun t u hu => by
             rw [zgf, if_pos (by omega), Nat.sub_zero] at hu
             have hlt : t < vs.size := by rw [<- hr.1]; exact (List.getElem?_eq_some_iff.1 hu).1
             have h1 : vs[t]? = some vs[t] := by simp [hlt]
             have h2 : vs.getD t undef = vs[t] := by rw [Array.getD_eq_getD_getElem?, h1]; rfl
             rw [h2]
             exact hr.2 t u _ hu h1) i x (by rw [zgf, if_pos (by omega), Nat.sub_zero]; exact hx)
           have h2 : vs.getD i undef = v := by rw [Array.getD_eq_getD_getElem?, hv]; rfl
           rw [h2] at this
           exact this
         · obtain ⟨x, hx, _⟩ := ((x2 #[] (fun _ => False) zav).2 m.ids F0 n o ho).pair
           refine ⟨x, hx, ?_⟩
           cases x with
           | none =>
             intro h D μ
             obtain ⟨y, hy, hy2⟩ := ((x2 h D μ).2 m.ids F0 n o ho).pair
             rw [hx] at hy; cases hy; exact hy2
           | some id =>
             have hh := fun h D μ => ((x2 h D μ).2 m.ids F0 n o ho).pair
             obtain ⟨y, hy, hy2⟩ := hh #[] (fun _ => False) zav
             rw [hx] at hy; cases hy
             obtain ⟨q1, o', q2, q3, _⟩ := hy2
             refine ⟨?_, o', q2, q3, fun h D μ z hz => ?_⟩
             · cases hc : zcf s.ice id with
               | false => rfl
               | true => exact absurd (q1 hc) (by simp [zcf])
             · obtain ⟨y, hy, hy2⟩ := hh h D μ
               rw [hx] at hy; cases hy
               obtain ⟨_, o2, r2, _, r4⟩ := hy2
               rw [q2] at r2; cases r2
               exact r4 z hz
       · cases e
     · cases e
   · cases e
 · cases e
def ym2 (P : Program) (f : Nat -> Option AV) (g : Nat -> Option Ob) (c : Nat -> Bool) (o : Oper) (v : AV) (os : List (Nat × Ob)) : Prop :=
 ∃ fo xs ts k first caps zs F fr T, o.op = .call { callee := .value fo, args := xs, argTypes := ts } /\ zfk (evf f []) (zcb o.op) = .fn k first caps :: zs /\ ze6 P k T.xs T.O T.r T.O1 /\
   ygj g c (zcr first (zcr zs caps)) F fr T /\ v = ys9 F fr T.r /\ os = mOs F fr T
theorem zq5 : ∀ {os : List (Nat × Ob)} {id : Nat}, za2 os id ≠ none -> id ∈ zz4 os
 | [], id, h => by simp [za2] at h
 | (i, o) :: r, id, h => by
   unfold za2 at h
   unfold zz4
   split at h
   · rename_i e; rw [za4 e]; simp
   · exact List.mem_cons_of_mem _ (zq5 h)
theorem ygj.congr {g g' : Nat -> Option Ob} {c c' : Nat -> Bool} {raw : List AV} {F : List (Nat × Option Nat)} {fr : Nat} {T : yqs} (hm : ygj g c raw F fr T) (hg : ∀ id, id ∈ zz4 (mOs F fr T) -> g' id = g id) (hc : ∀ id, id ∈ zz4 (mOs F fr T) -> c' id = c id) : ygj g' c' raw F fr T := by
 have tin := hm.tgt_inj
 have k1 : ∀ n, za2 T.O1 n ≠ none -> tgt F fr n ∈ zz4 (mOs F fr T) := by
   intro n hn
   obtain ⟨o1, ho1⟩ := Option.ne_none_iff_exists'.1 hn
   refine zq5 ?_
   unfold mOs
   rw [zgg, zpv tin ho1]; simp
 have k2 : ∀ n id, za2 F n = some (some id) -> id ∈ zz4 (mOs F fr T) := by
   intro n id hid
   by_cases e : za2 T.O1 n = none
   · refine zq5 ?_
     unfold mOs
     rw [zgg]
     cases za2 (znr F fr T.O1) id with
     | some _ => simp
     | none => simp only; rw [zn0 (hm.dom n _ hid) e hid]; simp
   · have := k1 n e
     unfold tgt at this
     rwa [hid] at this
 refine { len := hm.len, xs := hm.xs, inj := hm.inj, dom := hm.dom, obs := fun n o ho => ?_, fresh := fun n o ho hno => ?_, unpin := hm.unpin, ng := hm.ng }
 · obtain ⟨x, hx, hx2⟩ := hm.obs n o ho
   refine ⟨x, hx, ?_⟩
   cases x with
   | none => exact hx2
   | some id =>
     have := k2 n id hx
     show c' id = false /\ ∃ o', g' id = some o' /\ _
     rw [hg id this, hc id this]
     exact hx2
 · have : tgt F fr n = fr + n := by
     unfold tgt
     split
     · rename_i id e; exact absurd e (hno id)
     · rfl
   have k := k1 n (by rw [ho]; simp)
   rw [this] at k
   rw [hg _ k]
   exact hm.fresh n o ho hno
section
variable {P : Program} {base : Nat} {M : Two} {W : World} {nt : Nat} {f : Nat -> Option AV} {g : Nat -> Option Ob} {c : Nat -> Bool} {a : Act} {w : World} {D : Nat -> Prop} {μ : Mu} {o : Oper}
theorem adv_M (h : Sim base M W nt f g c a w D μ) (hd : ∀ d, o.dst = some d -> d < nt) (hpl : ∀ x ∈ zcb o.op, ∀ v, x = .const v -> zjh v = true) {v : AV} {os : List (Nat × Ob)} (hh : ym2 P f g c o v os) : Adv P base M W nt f g c o a w v os [] := by
 obtain ⟨fo, xs, ts, k, first, caps, zs, F, fr, T, e, hvals, hM, hm, rfl, rfl⟩ := hh
 have hv : ∀ l : List Operand, (∀ x ∈ l, ∀ v, x = .const v -> zjh v = true) -> Ops w.heap D μ a l (zfk (evf f []) l) := by
   intro l
   induction l with
   | nil => intro _; trivial
   | cons x l ih => intro hp; exact ⟨ypi h (fun t b ht => by simp [za2] at ht) x (fun v hv => hp x (by simp) v hv), ih (fun y hy => hp y (by simp [hy]))⟩
 have hv := hv _ hpl
 rw [hvals] at hv
 rw [e] at hv
 simp only [zcb] at hv
 obtain ⟨hf, hv⟩ := hv
 intro K Q hK
 obtain ⟨o1, o2⟩ := zw3 hv
 obtain ⟨vs, us, hfv, e1, e2, r1, r2⟩ : ∃ vs us, a.eval fo = .func (.func k) vs us /\ first.length = vs.size /\ caps.length = us.size /\ (∀ (i : Nat) x v, first[i]? = some x -> vs[i]? = some v -> R w.heap D μ x v) /\ (∀ (i : Nat) x v, caps[i]? = some x -> us[i]? = some v -> R w.heap D μ x v) := by
   generalize a.eval fo = u at hf
   cases hf with
   | fn _ _ _ vs us e1 e2 h1 h2 => exact ⟨vs, us, rfl, e1, e2, h1, h2⟩
 have hl : zs.length = xs.size := by rw [o1]; simp
 have hsz : (zcr first (zcr zs caps)).length = ((vs ++ xs.map a.eval) ++ us).size := by rw [zaq, zaq]; simp [e1, e2, hl]
 have hraw : ∀ (i : Nat) y v, (zcr first (zcr zs caps))[i]? = some y -> ((vs ++ xs.map a.eval) ++ us)[i]? = some v -> R w.heap D μ y v := by
   intro i x v hx hv'
   rw [zaq, zaq] at hx
   rw [Array.append_assoc] at hv'
   by_cases i1 : i < first.length
   · rw [List.getElem?_append_left i1] at hx
     rw [Array.getElem?_append_left (by omega)] at hv'
     exact r1 i x v hx hv'
   · rw [List.getElem?_append_right (by omega)] at hx
     rw [Array.getElem?_append_right (by omega)] at hv'
     rw [e1] at hx
     by_cases i2 : i - vs.size < zs.length
     · rw [List.getElem?_append_left i2] at hx
       rw [Array.getElem?_append_left (by simp; omega)] at hv'
       have i3 : i - vs.size < xs.size := by omega
       simp [i3] at hv'
       subst hv'
       exact o2 _ x _ hx (by simp [i3])
     · rw [List.getElem?_append_right (by omega)] at hx
       rw [Array.getElem?_append_right (by simp; omega)] at hv'
       simp only [Array.size_map, <- hl] at hv'
       exact r2 _ x v hx hv'
 have hRL : RL w.heap D (zfs μ F) T.xs ((vs ++ xs.map a.eval) ++ us) := hm.xs _ _ _ _ ⟨hsz, hraw⟩
 obtain ⟨a1, a2, a3, a4⟩ := hm.asks h
 have hcall := hM D w _ _ h.dlt hRL a1 a2 a3 (fun n b z hn => ⟨(a4 n b z hn).1, (a4 n b z hn).2.1⟩) h.gok (fun n b z hn => by
   obtain ⟨_, _, id, _, _, hid, _⟩ := a4 n b z hn
   exact h.gown hid)
 have fin : ∀ e v w' D' μ1, yv3 D w (zfs μ F) T.O T.O1 T.r e v w' D' μ1 -> K (a.put o.dst v) w' := by
   intro e v w' D' μ1 he
   obtain ⟨μ', h', hr⟩ := h.mcall hm he
   exact hK _ _ ⟨_, _, h'.put hd hr⟩
 unfold Oper.wp
 have hrun : (execOp a.eval o).run P w = (callFunc k ((vs ++ xs.map a.eval) ++ us)).run P w := by
   unfold execOp
   rw [e]
   simp [resolve, hfv, Deferred.ofValue, invoke]
 rw [hrun]
 unfold zfp at hcall
 split at hcall
 · rename_i f' args' w' hcf
   rw [hcf, Oper.upon_enter]
   refine hcall.mono fun en w'' hen => ?_
   obtain ⟨v, D', μ1, he⟩ := hen
   obtain rfl := he.ret
   exact fin _ v w'' D' μ1 he
 · rename_i v w' hcf
   rw [hcf, Oper.upon_value]
   obtain ⟨v', D', μ1, he⟩ := hcall
   have := he.ret
   cases this
   exact fin _ _ w' D' μ1 he
 · exact hcall.elim
end
end Sy
end Go.Proofs.YtcgikjfloloekaaGreatDoor
namespace Go.Proofs.YtcgikjfloloekaaGreatDoor
namespace Sy
open Go Go.RowKit
set_option linter.unusedSimpArgs false
set_option linter.unusedVariables false
set_option linter.unusedSectionVars false
def zj0 {β : Type} (L : Nat -> Bool) (hit : Nat -> Option β) (s : Option β) : Nat -> Option β
 | 0 => s
 | n + 1 => if L n = true then (match hit n with | some x => some x | none => zj0 L hit s n) else zj0 L hit s n
theorem zmv {β : Type} (L : Nat -> Bool) (hit : Nat -> Option β) (s : Option β) (n : Nat) : zj0 L hit s (n + 1) = if L n = true then (match hit n with | some x => some x | none => zj0 L hit s n) else zj0 L hit s n := rfl
theorem zd7 {β : Type} {L L' : Nat -> Bool} {hit : Nat -> Option β} {s : Option β} : ∀ n, (∀ j, j < n -> hit j ≠ none -> L j = L' j) -> zj0 L hit s n = zj0 L' hit s n
 | 0, _ => rfl
 | n + 1, h => by
   unfold zj0
   have ih := zd7 n (fun j hj => h j (by omega)) (s := s)
   cases e : hit n with
   | none => simp [ih]
   | some x =>
     rw [h n (by omega) (by rw [e]; simp), ih]
theorem zjx {β : Type} {L : Nat -> Bool} {hit : Nat -> Option β} {s : Option β} (i : Nat) : ∀ n, (∀ j, i <= j -> j < n -> L j = true -> hit j = none) -> i <= n -> zj0 L hit s n = zj0 L hit s i
 | 0, _, hi => by have : i = 0 := by omega
                  rw [this]
 | n + 1, h, hi => by
   by_cases e : i = n + 1
   · rw [e]
   · have ih := zjx i n (fun j h1 h2 => h j h1 (by omega)) (by omega) (s := s)
     rw [zmv]
     by_cases hL : L n = true
     · rw [if_pos hL, h n (by omega) (by omega) hL]; exact ih
     · rw [if_neg hL]; exact ih
theorem zmw {β : Type} {hit : Nat -> Option β} {s : Option β} (i : Nat) : ∀ n, i <= n -> zj0 (fun j => decide (j < i)) hit s n = zj0 (fun _ => true) hit s i := fun n hn => by
 rw [zjx i n (fun j h1 _ h3 => by simp at h3; omega) hn]
 exact zd7 i (fun j hj _ => by simp [hj])
theorem zq4 {β : Type} {L L' : Nat -> Bool} {hit : Nat -> Option β} {s : Option β} {i : Nat} (hi : L' i = true) (hL : L i = false) (hne : ∀ j, j ≠ i -> L' j = L j) : ∀ n, i < n ->
   (hit i ≠ none -> ∀ j, i < j -> j < n -> L j = true -> hit j = none) -> zj0 L' hit s n = (match hit i with | some x => some x | none => zj0 L hit s n)
 | 0, h, _ => by omega
 | n + 1, h, hc => by
   by_cases e : n = i
   · subst e
     have : zj0 L' hit s n = zj0 L hit s n := zd7 n (fun j hj _ => hne j (by omega))
     unfold zj0
     rw [if_pos hi, hL, this]
     simp
   · have ih := zq4 hi hL hne n (by omega) (fun h1 j h2 h3 => hc h1 j h2 (by omega)) (s := s)
     unfold zj0
     rw [hne n e, ih]
     cases hh : hit i with
     | none => rfl
     | some x =>
       simp only
       by_cases hLn : L n = true
       · rw [if_pos hLn, hc (by rw [hh]; simp) n (by omega) (by omega) hLn]
       · rw [if_neg hLn]
def zo0 (L : Nat -> Bool) (p : Nat -> Bool) (s : Bool) : Nat -> Bool
 | 0 => s
 | n + 1 => (L n && p n) || zo0 L p s n
theorem zsn (L p : Nat -> Bool) (s : Bool) (n : Nat) : zo0 L p s (n + 1) = ((L n && p n) || zo0 L p s n) := rfl
theorem zge {L L' p : Nat -> Bool} {s : Bool} : ∀ n, (∀ j, j < n -> p j = true -> L j = L' j) -> zo0 L p s n = zo0 L' p s n
 | 0, _ => rfl
 | n + 1, h => by
   unfold zo0
   rw [zge n (fun j hj => h j (by omega))]
   cases e : p n with
   | false => simp
   | true => rw [h n (by omega) e]
theorem znj {L p : Nat -> Bool} {s : Bool} (i : Nat) : ∀ n, (∀ j, i <= j -> j < n -> L j = false) -> i <= n -> zo0 L p s n = zo0 L p s i
 | 0, _, hi => by have : i = 0 := by omega
                  rw [this]
 | n + 1, h, hi => by
   by_cases e : i = n + 1
   · rw [e]
   · rw [zsn, h n (by omega) (by omega), znj i n (fun j h1 h2 => h j h1 (by omega)) (by omega)]
     simp
theorem ygc {p : Nat -> Bool} {s : Bool} (i : Nat) : ∀ n, i <= n -> zo0 (fun j => decide (j < i)) p s n = zo0 (fun _ => true) p s i := fun n hn => by
 rw [znj i n (fun j h1 _ => by simp; omega) hn]
 exact zge i (fun j hj _ => by simp [hj])
theorem zxd {L L' p : Nat -> Bool} {s : Bool} {i : Nat} (hi : L' i = true) (hL : L i = false) (hne : ∀ j, j ≠ i -> L' j = L j) : ∀ n, i < n -> zo0 L' p s n = (p i || zo0 L p s n)
 | 0, h => by omega
 | n + 1, h => by
   by_cases e : n = i
   · subst e
     have : zo0 L' p s n = zo0 L p s n := zge n (fun j hj _ => hne j (by omega))
     unfold zo0
     rw [hi, hL, this]; simp
   · unfold zo0
     rw [hne n e, zxd hi hL hne n (by omega)]
     cases L n && p n <;> cases p i <;> simp
theorem zm3 {T : TT} {L : za9} {f f' : Nat -> Option AV} {g g' : Nat -> Option Ob} {c c' : Nat -> Bool} {kn kn' : List (Nat × Bool)} {o : Oper} (hv : zfk (evf f kn) (zcb o.op) = zfk (evf f' kn') (zcb o.op))
   (hg : ∀ id, id ∈ zd9 (zfk (evf f' kn') (zcb o.op)) -> g id = g' id) (hn : zdv o.op = true -> ∀ d, o.dst = some d -> g d = g' d)
   (hc : zox o.op = true -> ∀ id, id ∈ yjj (zfk (evf f' kn') (zcb o.op)) -> c id = c' id) : zlb T L f g c kn o = zlb T L f' g' c' kn' o := by
 unfold zlb
 rw [hv]
 have e1 : yr7 g (zd9 (zfk (evf f' kn') (zcb o.op))) = yr7 g' (zd9 (zfk (evf f' kn') (zcb o.op))) := by
   funext id
   unfold yr7
   split
   · rename_i h; exact hg id (zcq.1 h)
   · rfl
 have e2 : zzd c o.op (zfk (evf f' kn') (zcb o.op)) = zzd c' o.op (zfk (evf f' kn') (zcb o.op)) := by
   funext id
   unfold zzd
   split
   · rename_i h
     split
     · rename_i h2; exact hc h id (zcq.1 h2)
     · rfl
   · rfl
 have e3 : zfd g o.op o.dst = zfd g' o.op o.dst := by
   unfold zfd
   split
   · rename_i h
     split
     · rename_i d hd; rw [hn h d hd]
     · rfl
   · rfl
 rw [e1, e2, e3]
def zo1 (f : Nat -> Option AV) (kn : List (Nat × Bool)) : Prop := ∀ t b, za2 kn t = some b -> f t = some (.bool b)
theorem ylo {f : Nat -> Option AV} {kn : List (Nat × Bool)} (h : zo1 f kn) (x : Operand) : evf f kn x = evf f [] x := by
 unfold evf
 cases x with
 | tmp t =>
   simp only [za2]
   cases e : za2 kn t with
   | none => rfl
   | some b => simp [h t b e]
 | _ => rfl
theorem zi7 {α β : Type} {k k' : α -> β} : ∀ {l : List α}, (∀ x ∈ l, k x = k' x) -> zfk k l = zfk k' l
 | [], _ => rfl
 | x :: l, h => by simp [zfk, h x (by simp), zi7 (l := l) (fun y hy => h y (by simp [hy]))]
inductive Holds (P : Program) : ze7 -> AV -> List (Nat × Ob) -> List Nat -> Prop
 | ok (v : AV) (os : List (Nat × Ob)) (ice : List Nat) : Holds P (.ok v os ice) v os ice
 | okIf (b : Bool) (v : AV) (os : List (Nat × Ob)) (ice : List Nat) (h : b = true) : Holds P (.okIf b v os ice) v os ice
 | okP (p : Prop) (v : AV) (os : List (Nat × Ob)) (ice : List Nat) (h : p) : Holds P (.okP p v os ice) v os ice
 | call (k : FuncId) (xs : List AV) (ice : List Nat) (r : AV) (h : za7 P k xs r) : Holds P (.call k xs ice) r [] ice
 | alt1 (b : Bool) (v : AV) (os : List (Nat × Ob)) (q : Bool) (v' : AV) (os' : List (Nat × Ob)) (h : b = true) : Holds P (.alt b v os q v' os') v os []
 | alt2 (b : Bool) (v : AV) (os : List (Nat × Ob)) (q : Bool) (v' : AV) (os' : List (Nat × Ob)) (h : b = false) (hq : q = true) : Holds P (.alt b v os q v' os') v' os' []
theorem yuy {P : Program} {base : Nat} {M : Two} {W : World} {nt : Nat} {f : Nat -> Option AV} {g : Nat -> Option Ob} {c : Nat -> Bool} {o : Oper} {a : Act} {w : World} {x : ze7} {v : AV} {os : List (Nat × Ob)} {ice : List Nat}
   (h : Holds P x v os ice) (s : ze5 P base M W nt f g c o a w x) : Adv P base M W nt f g c o a w v os ice := by
 cases h with
 | ok => exact s
 | okIf _ _ _ _ h => exact s h
 | okP _ _ _ _ h => exact s h
 | call _ _ _ _ h => exact s _ h
 | alt1 _ _ _ _ _ _ h => exact s.1 h
 | alt2 _ _ _ _ _ _ h hq => exact s.2 h hq
inductive Sat (P : Program) (Q : AV -> Prop) : zcp -> Prop
 | need {b : Bool} {k : zcp} (h : b = true) (hk : Sat P Q k) : Sat P Q (.need b k)
 | must {p : Prop} {k : zcp} (h : p) (hk : Sat P Q k) : Sat P Q (.must p k)
 | ite {b : Bool} {t e : zcp} (ht : b = true -> Sat P Q t) (he : b = false -> Sat P Q e) : Sat P Q (.ite b t e)
 | done {r : AV} (h : Q r) : Sat P Q (.done r)
 | yes : Sat P Q .yes
 | call {f : FuncId} {xs : List AV} {k : AV -> zcp} {r : AV} (h : za7 P f xs r) (hk : Sat P Q (k r)) : Sat P Q (.call f xs k)
 | ex {X : Type} {f : X -> zcp} (x : X) (h : Sat P Q (f x)) : Sat P Q (.ex X f)
 | all {X : Type} {f : X -> zcp} (h : ∀ x, Sat P Q (f x)) : Sat P Q (.all X f)
 | sup {p : Prop} {k : zcp} (h : p -> Sat P Q k) : Sat P Q (.sup p k)
 | and {a b : zcp} (h1 : Sat P Q a) (h2 : Sat P Q b) : Sat P Q (.and a b)
structure zed (P : Program) (S : zqt) : Prop where
 fz : ∀ f xs p r, S.fz f xs = some (p, r) -> p -> za7 P f xs r
 mt : ∀ f m, S.mt f = some m -> ∀ raw ob T, m raw ob = some T -> T.p -> ze6 P f T.xs T.O T.r T.O1
theorem zj8 {P : Program} {Q : AV -> Prop} {next : zcp} : ∀ {ps : List Prop}, Sat P Q (yij ps next) -> (∀ p, p ∈ ps -> p) /\ Sat P Q next
 | [], h => ⟨fun p hp => by simp at hp, h⟩
 | p :: r, h => by
   cases h with
   | must h hk =>
     obtain ⟨h1, h2⟩ := zj8 hk
     exact ⟨fun q hq => by rcases List.mem_cons.1 hq with rfl | hq; exact h; exact h1 q hq, h2⟩
theorem yj9 {P : Program} {T : TT} {f : Nat -> Option AV} {g : Nat -> Option Ob} {c : Nat -> Bool} {kn : List (Nat × Bool)} {o : Oper} {b : Bool} (h : zrv kn o.op = some b) {v : AV} {os : List (Nat × Ob)} {ice : List Nat}
   (hh : Holds P (zlb T std f g c kn o) v os ice) : v = .bool b := by
 have lit : ∀ x b, zmt kn x = some b -> evf f kn x = .bool b := by
   intro x b hx
   unfold zmt at hx
   split at hx
   · cases hx; rfl
   · rename_i t
     simp [evf, hx]
   · cases hx
 unfold zrv at h
 unfold zlb core at hh
 split at h
 · rename_i x e
   rw [e] at hh
   simp only [zcb, zfk, yfy, lit x b h] at hh
   cases hh; rfl
 · rename_i x e
   rw [e] at hh
   simp only [zcb, zfk, yfy, lit x b h] at hh
   cases hh; rfl
 · rename_i x y z e
   rw [e] at hh
   simp only [zcb, zfk] at hh
   split at h
   · rename_i hc
     rw [lit x _ hc, lit y b h] at hh
     simp only [yfx] at hh
     cases hh; rfl
   · rename_i hc
     rw [lit x _ hc, lit z b h] at hh
     simp only [yfx] at hh
     cases hh; rfl
   · cases h
 · cases h
theorem zsr {kn : List (Nat × Bool)} {d t : Nat} : za2 (yoj kn d) t = if t = d then none else za2 kn t := by
 induction kn with
 | nil => simp [yoj, za2]
 | cons x kn ih =>
   obtain ⟨u, b⟩ := x
   unfold yoj
   cases e : zan u d with
   | true =>
     simp only [ih]
     have := za4 e; subst this
     by_cases ht : t = u
     · simp [ht]
     · have : zan u t = false := zao fun h => ht h.symm
       simp [ht, za2, this]
   | false =>
     simp only [za2]
     cases e' : zan u t with
     | true =>
       have := za4 e'; subst this
       have : u ≠ d := by rintro rfl; rw [za6] at e; cases e
       simp [this]
     | false => simpa using ih
theorem zlx (s : St) (dst : Option Nat) (v : AV) : za2 (s.put dst v) = znx (za2 s.slots) dst v := by
 funext t
 unfold St.put znx
 cases dst with
 | none => rfl
 | some d =>
   simp only [za2]
   by_cases e : t = d
   · subst e; simp [za6]
   · have : zan d t = false := zao fun h => e h.symm
     simp [this, e]
theorem ykj {α : Type} (os l : List (Nat × α)) (id : Nat) : za2 (zcr os l) id = match za2 os id with | some o => some o | none => za2 l id := zgg os l id
theorem zss (os l : List (Nat × Ob)) : za2 (zcr os l) = zbb (za2 l) os := by
 funext id; rw [ykj]; unfold zbb; cases za2 os id <;> rfl
theorem yj4 (os l : List Nat) : ∀ id, zcf (zcr os l) id = (zcf os id || zcf l id) := by
 intro id
 induction os with
 | nil => simp [zcr, zcf]
 | cons x os ih =>
   simp only [zcr, zcf]
   cases zan x id <;> simp [ih]
theorem zrt (os l : List Nat) : zcf (zcr os l) = zlw (zcf l) os := by
 funext id; rw [yj4]; rfl
theorem zwr {f : Nat -> Option AV} {kn : List (Nat × Bool)} (h : zo1 f kn) {dst : Option Nat} {v : AV} {x : Option Bool} (hx : ∀ b, x = some b -> v = .bool b) : zo1 (znx f dst v) (ytf kn dst x) := by
 intro t b ht
 unfold ytf at ht
 cases dst with
 | none => exact h t b ht
 | some d =>
   simp only [znx]
   cases x with
   | none =>
     simp only at ht
     rw [zsr] at ht
     split at ht
     · cases ht
     · rename_i e; rw [if_neg e]; exact h t b ht
   | some y =>
     simp only [za2] at ht
     cases e : zan d t with
     | true =>
       rw [e] at ht
       have := za4 e; subst this
       cases ht
       rw [if_pos rfl, hx _ rfl]
     | false =>
       rw [e] at ht
       simp only at ht
       rw [zsr] at ht
       split at ht
       · cases ht
       · rename_i e; rw [if_neg e]; exact h t b ht
theorem zf2 {f : Nat -> Option AV} {kn : List (Nat × Bool)} (h : zo1 f kn) {t : Nat} {b : Bool} (hx : f t = some (.bool b)) : zo1 f ((t, b) :: kn) := by
 intro u y hu
 simp only [za2] at hu
 cases e : zan t u with
 | true =>
   rw [e] at hu
   have := za4 e; subst this
   cases hu; exact hx
 | false => rw [e] at hu; exact h u y hu
def znm (base : Nat) (M : Two) (W : World) (nt : Nat) (s : St) (a : Act) (w : World) : Prop :=
 ziz base M W nt (za2 s.slots) (za2 s.objs) (zcf s.ice) a w /\ zo1 (za2 s.slots) s.kn
structure Ev where
 want : Bool
 v : AV
 os : List (Nat × Ob)
 ice : List Nat
 ent : Ent
def nothing : Ev := ⟨false, .tup [], [], [], ⟨[], []⟩⟩
def zsv (P : Program) (T : TT) (f : Nat -> Option AV) (g : Nat -> Option Ob) (c : Nat -> Bool) (o : Oper) (e : Ev) : Prop :=
 Holds P (zlb T std f g c [] o) e.v e.os e.ice \/ (ym2 P f g c o e.v e.os /\ e.ice = [])
structure yw0 (P : Program) (T : TT) (ops : List Oper) (f : Nat -> Option AV) (g : Nat -> Option Ob) (c : Nat -> Bool) (o : Oper) (e : Ev) : Prop where
 guard : match ziu ops o with
   | none => e.want = true
   | some (some t, w) => (∃ b, f t = some (.bool b) /\ e.want = (b == w)) \/ (f t = some (.tup []) /\ e.want = false)
   | some (none, _) => False
 no : e.want = false -> e.v = .tup [] /\ e.os = [] /\ e.ice = [] /\ e.ent = ⟨[], []⟩
 yes : e.want = true -> zsv P T f g c o e
def ykn (f : Nat -> Option AV) (o : Oper) (e : Ev) : Prop := e.want = true ->
 (∀ id, id ∈ zd9 (zfk (evf f []) (zcb o.op)) -> id ∈ e.ent.ids) /\ (zdv o.op = true -> ∀ d, o.dst = some d -> d ∈ e.ent.ids) /\ (∀ id, id ∈ e.ice -> id ∈ e.ent.ids) /\
 (∀ id, id ∈ zz4 e.os -> id ∈ e.ent.wr) /\ (zox o.op = true -> ∀ id, id ∈ yjj (zfk (evf f []) (zcb o.op)) -> id ∈ e.ent.wr)
def ykk (ops : List Oper) (o : Oper) (e : Ev) (acc : List (Nat × Ent)) : Prop := e.want = true -> zkm ops o.after.toList e.ent acc = true
def zyr (acc : List (Nat × Ent)) (i : Nat) (e : Ev) : List (Nat × Ent) := if e.want = true then zwd acc i e.ent else acc
def Walk (P : Program) (T : TT) (draw : Bool) (ops : List Oper) : List Oper -> Nat -> (Nat -> Option AV) -> (Nat -> Option Ob) -> (Nat -> Bool) -> List (Nat × Ent) -> List Ev -> (Nat -> Option AV) -> (Nat -> Option Ob) -> (Nat -> Bool) -> Prop
 | [], _, f, g, c, _, [], f', g', c' => f' = f /\ g' = g /\ c' = c
 | o :: r, i, f, g, c, acc, e :: es, f', g', c' => yw0 P T ops f g c o e /\ (draw = true -> ykn f o e /\ ykk ops o e acc) /\
     Walk P T draw ops r (i + 1) (znx f o.dst e.v) (zbb g e.os) (zlw c e.ice) (if draw = true then zyr acc i e else acc) es f' g' c'
 | _, _, _, _, _, _, _, _, _, _ => False
section
variable {P : Program} {T : TT} {S : zqt} {Q : AV -> Prop} {draw : Bool} {ops : List Oper}
theorem ymc {f : Nat -> Option AV} {g : Nat -> Option Ob} {c : Nat -> Bool} {kn : List (Nat × Bool)} (h : zo1 f kn) (L : za9) (o : Oper) : zlb T L f g c kn o = zlb T L f g c [] o :=
 zm3 (zi7 fun x _ => ylo h x) (fun _ _ => rfl) (fun _ _ _ => rfl) (fun _ _ _ => rfl)
theorem zzi (hS : zed P S) {o : Oper} {i : Nat} {s : St} {acc : List (Nat × Ent)} {next : St -> List (Nat × Ent) -> zcp} (hk : zo1 (za2 s.slots) s.kn)
   (h : Sat P Q (zs8 T std S draw ops o i s acc next)) : ∃ e : Ev, e.want = true /\ zsv P T (za2 s.slots) (za2 s.objs) (zcf s.ice) o e /\ (draw = true -> ykn (za2 s.slots) o e /\ ykk ops o e acc) /\
     ∃ s', za2 s'.slots = znx (za2 s.slots) o.dst e.v /\ za2 s'.objs = zbb (za2 s.objs) e.os /\ zcf s'.ice = zlw (zcf s.ice) e.ice /\ zo1 (za2 s'.slots) s'.kn /\ Sat P Q (next s' (if draw = true then zyr acc i e else acc)) := by
 have hval : zfk (evf (za2 s.slots) s.kn) (zcb o.op) = zfk (evf (za2 s.slots) []) (zcb o.op) := zi7 fun x _ => ylo hk x
 have key : ∀ v os ice, (∀ ent, zsv P T (za2 s.slots) (za2 s.objs) (zcf s.ice) o ⟨true, v, os, ice, ent⟩) -> (∀ b, zrv s.kn o.op = some b -> v = .bool b) ->
     Sat P Q (zhr draw ops o i s acc (zzc draw s o) (yrg draw s o) v os ice next) -> ∃ e : Ev, e.want = true /\ zsv P T (za2 s.slots) (za2 s.objs) (zcf s.ice) o e /\ (draw = true -> ykn (za2 s.slots) o e /\ ykk ops o e acc) /\
     ∃ s', za2 s'.slots = znx (za2 s.slots) o.dst e.v /\ za2 s'.objs = zbb (za2 s.objs) e.os /\ zcf s'.ice = zlw (zcf s.ice) e.ice /\ zo1 (za2 s'.slots) s'.kn /\ Sat P Q (next s' (if draw = true then zyr acc i e else acc)) := by
   intro v os ice hh hl h
   refine ⟨⟨true, v, os, ice, ⟨zcr ice (zzc draw s o), zcr (yrg draw s o) (zz4 os)⟩⟩, rfl, hh _, fun hd => ?_, s.eff o.dst v os ice (zrv s.kn o.op), zlx .., zss .., zrt .., ?_, ?_⟩
   · subst hd
     refine ⟨fun _ => ⟨fun id hid => ?_, fun hc d hd => ?_, fun id hid => ?_, fun id hid => ?_, fun hw id hid => ?_⟩, fun _ => ?_⟩
     · simp only [zaq, List.mem_append, zzc]; rw [hval]; exact .inr (.inr hid)
     · simp [zaq, zzc, hc, hd]
     · simp only [zaq, List.mem_append]; exact .inl hid
     · simp only [zaq, List.mem_append]; exact .inr hid
     · simp only [zaq, List.mem_append, yrg, hw]; rw [hval]; exact .inl hid
     · simp only [zhr] at h
       split at h
       · rename_i e; exact e
       · cases h
   · show zo1 (za2 (s.put o.dst v)) (ytf s.kn o.dst (zrv s.kn o.op))
     rw [zlx]
     exact zwr hk hl
   · unfold zhr at h
     cases draw with
     | false => exact h
     | true =>
       simp only at h
       split at h
       · exact h
       · cases h
 have key1 : ∀ v os ice, Holds P (zlb T std (za2 s.slots) (za2 s.objs) (zcf s.ice) s.kn o) v os ice -> (∀ ent, zsv P T (za2 s.slots) (za2 s.objs) (zcf s.ice) o ⟨true, v, os, ice, ent⟩) /\ ∀ b, zrv s.kn o.op = some b -> v = .bool b := by
   intro v os ice hh
   have hh' := hh
   rw [ymc hk] at hh'
   exact ⟨fun _ => .inl hh', fun b hb => yj9 hb hh⟩
 unfold zs8 at h
 split at h
 · rename_i m raw hsel
   obtain ⟨f, first, caps, zs, c1, c2, hm, rfl⟩ : ∃ f first caps zs, zuf o.op = true /\ zfk (evf (za2 s.slots) s.kn) (zcb o.op) = .fn f first caps :: zs /\ S.mt f = some m /\ raw = zcr first (zcr zs caps) := by
     split at hsel
     · rename_i c1
       split at hsel
       · rename_i f first caps zs c2
         split at hsel
         · rename_i m' hm; cases hsel; exact ⟨f, first, caps, zs, c1, c2, hm, rfl⟩
         · cases hsel
       · cases hsel
     · cases hsel
   obtain ⟨fo, ys, ts, e1⟩ : ∃ fo ys ts, o.op = .call { callee := .value fo, args := ys, argTypes := ts } := by
     unfold zuf at c1
     split at c1
     · rename_i fo ys ts e1; exact ⟨_, _, _, e1⟩
     · cases c1
   unfold yty at h
   split at h
   · rename_i T' hT'
     split at h
     · rename_i mt hmt
       split at h
       · rename_i hfr
         obtain ⟨hps, h⟩ := zj8 h
         cases h with
         | must hp h =>
           refine key _ _ [] (fun ent => .inr ⟨⟨fo, ys, ts, f, first, caps, zs, mt.ids, _, T', e1, by rw [<- hval]; exact c2, hS.mt f m hm _ _ T' hT' hp, yin hmt hfr hps, rfl, rfl⟩, rfl⟩) (fun b hb => ?_) h
           rw [e1] at hb; cases hb
       · cases h
     · cases h
   · cases h
 unfold ytz at h
 split at h
 · rename_i v os ice e; obtain ⟨k1, k2⟩ := key1 v os ice (by rw [e]; exact .ok ..); exact key v os ice k1 k2 h
 · rename_i b v os ice e; cases h with | need h hk => obtain ⟨k1, k2⟩ := key1 v os ice (by rw [e]; exact .okIf _ _ _ _ h); exact key v os ice k1 k2 hk
 · rename_i b v os ice e; cases h with | must h hk => obtain ⟨k1, k2⟩ := key1 v os ice (by rw [e]; exact .okP _ _ _ _ h); exact key v os ice k1 k2 hk
 · rename_i b v os q v' os' e
   cases hb : b with
   | true =>
     cases h with | ite ht he => obtain ⟨k1, k2⟩ := key1 v os [] (by rw [e]; exact .alt1 _ _ _ _ _ _ hb); exact key v os [] k1 k2 (ht hb)
   | false =>
     cases h with
     | ite ht he =>
       have h := he hb
       cases h with | need h hk => obtain ⟨k1, k2⟩ := key1 v' os' [] (by rw [e]; exact .alt2 _ _ _ _ _ _ hb h); exact key v' os' [] k1 k2 hk
 · rename_i f xs ice e
   split at h
   · rename_i p r hs
     cases h with | must h hk => obtain ⟨k1, k2⟩ := key1 r [] ice (by rw [e]; exact .call _ _ _ _ (hS.fz f _ p r hs h)); exact key r [] ice k1 k2 hk
   · rename_i hs
     cases h with | call h hk => obtain ⟨k1, k2⟩ := key1 _ [] ice (by rw [e]; exact .call _ _ _ _ h); exact key _ [] ice k1 k2 hk
 · cases h
theorem zfu (hS : zed P S) {k : St -> zcp} : ∀ (r : List Oper) (i : Nat) (s : St) (acc : List (Nat × Ent)), zo1 (za2 s.slots) s.kn -> Sat P Q (zdn T std S draw ops r i s acc k) ->
   ∃ es s', Walk P T draw ops r i (za2 s.slots) (za2 s.objs) (zcf s.ice) acc es (za2 s'.slots) (za2 s'.objs) (zcf s'.ice) /\ zo1 (za2 s'.slots) s'.kn /\ Sat P Q (k s')
 | [], i, s, acc, hk, h => ⟨[], s, ⟨rfl, rfl, rfl⟩, hk, h⟩
 | o :: r, i, s, acc, hk, h => by
   have yes : ∀ s1 : St, s1.slots = s.slots -> s1.objs = s.objs -> s1.ice = s.ice -> zo1 (za2 s1.slots) s1.kn ->
       (match ziu ops o with
         | none => true = true
         | some (some t, w) => (∃ b, za2 s.slots t = some (.bool b) /\ true = (b == w)) \/ (za2 s.slots t = some (.tup []) /\ true = false)
         | some (none, _) => False) -> Sat P Q (zs8 T std S draw ops o i s1 acc (fun s acc => zdn T std S draw ops r (i + 1) s acc k)) ->
       ∃ es s', Walk P T draw ops (o :: r) i (za2 s.slots) (za2 s.objs) (zcf s.ice) acc es (za2 s'.slots) (za2 s'.objs) (zcf s'.ice) /\ zo1 (za2 s'.slots) s'.kn /\ Sat P Q (k s') := by
     intro s1 e1 e2 e3 hk1 hg h
     obtain ⟨e, hw, hh, he, s2, h1, h2, h3, h4, h5⟩ := zzi hS hk1 h
     obtain ⟨es, s', hW, hk', h'⟩ := zfu hS r (i + 1) s2 _ h4 h5
     rw [h1, h2, h3, e1, e2, e3] at hW
     rw [e1, e2, e3] at hh
     rw [e1] at he
     refine ⟨e :: es, s', ⟨⟨?_, fun h => (by rw [hw] at h; cases h), fun _ => hh⟩, he, hW⟩, hk', h'⟩
     rw [hw]; exact hg
   have no : ∀ s1 : St, s1.slots = s.slots -> s1.objs = s.objs -> s1.ice = s.ice -> zo1 (za2 s1.slots) s1.kn ->
       (match ziu ops o with
         | none => false = true
         | some (some t, w) => (∃ b, za2 s.slots t = some (.bool b) /\ false = (b == w)) \/ (za2 s.slots t = some (.tup []) /\ false = false)
         | some (none, _) => False) -> Sat P Q (zdn T std S draw ops r (i + 1) (s1.eff o.dst (.tup []) [] [] none) acc k) ->
       ∃ es s', Walk P T draw ops (o :: r) i (za2 s.slots) (za2 s.objs) (zcf s.ice) acc es (za2 s'.slots) (za2 s'.objs) (zcf s'.ice) /\ zo1 (za2 s'.slots) s'.kn /\ Sat P Q (k s') := by
     intro s1 e1 e2 e3 hk1 hg h
     have h4 : zo1 (za2 (s1.eff o.dst (.tup []) [] [] none).slots) (s1.eff o.dst (.tup []) [] [] none).kn := by
       show zo1 (za2 (s1.put o.dst (.tup []))) (ytf s1.kn o.dst none)
       rw [zlx]
       exact zwr hk1 fun b hb => by cases hb
     obtain ⟨es, s', hW, hk', h'⟩ := zfu hS r (i + 1) _ _ h4 h
     have q1 : za2 (s1.eff o.dst (.tup []) [] [] none).slots = znx (za2 s.slots) o.dst (.tup []) := by rw [<- e1]; exact zlx ..
     have q2 : za2 (s1.eff o.dst (.tup []) [] [] none).objs = zbb (za2 s.objs) [] := by rw [<- e2]; exact zss ..
     have q3 : zcf (s1.eff o.dst (.tup []) [] [] none).ice = zlw (zcf s.ice) [] := by rw [<- e3]; exact zrt ..
     rw [q1, q2, q3] at hW
     refine ⟨nothing :: es, s', ⟨⟨hg, fun _ => ⟨rfl, rfl, rfl, rfl⟩, fun h => by cases h⟩, fun _ => ⟨fun h => by simp [nothing] at h, fun h => by simp [nothing] at h⟩, ?_⟩, hk', h'⟩
     simpa [zyr, nothing] using hW
   unfold zdn at h
   split at h
   · rename_i e; exact yes s rfl rfl rfl hk (by rw [e]) h
   · cases h
   · rename_i t w e
     rw [e] at yes no
     split at h
     · rename_i b hb
       have hf := hk t b hb
       split at h
       · exact yes s rfl rfl rfl hk (.inl ⟨true, hf, rfl⟩) h
       · exact yes s rfl rfl rfl hk (.inl ⟨false, hf, rfl⟩) h
       · rename_i h1 h2
         refine no s rfl rfl rfl hk (.inl ⟨b, hf, ?_⟩) h
         cases b <;> cases w <;> simp_all
     · split at h
       · rename_i hb
         exact no s rfl rfl rfl hk (.inr ⟨hb, rfl⟩) h
       · rename_i b hb
         split at h
         · cases h with | ite h1 h2 =>
           cases b with
           | true => exact yes (s.know t true) rfl rfl rfl (zf2 hk hb) (.inl ⟨true, hb, rfl⟩) (h1 rfl)
           | false => exact no (s.know t false) rfl rfl rfl (zf2 hk hb) (.inl ⟨false, hb, rfl⟩) (h2 rfl)
         · cases h with | ite h1 h2 =>
           cases b with
           | true => exact no (s.know t true) rfl rfl rfl (zf2 hk hb) (.inl ⟨true, hb, rfl⟩) (h1 rfl)
           | false => exact yes (s.know t false) rfl rfl rfl (zf2 hk hb) (.inl ⟨false, hb, rfl⟩) (h2 rfl)
       · cases h
end
end Sy
end Go.Proofs.YtcgikjfloloekaaGreatDoor
namespace Go.Proofs.YtcgikjfloloekaaGreatDoor
namespace Sy
open Go Go.RowKit
set_option linter.unusedSimpArgs false
set_option linter.unusedVariables false
set_option linter.unusedSectionVars false
def zt7 : List Operand -> List Nat
 | [] => []
 | .tmp t :: r => t :: zt7 r
 | _ :: r => zt7 r
def ywz (nt : Nat) (o : Oper) : Bool :=
 (match o.dst with | some d => zc9 d nt | none => true) && (zcb o.op).all fun x => match x with | .const v => zjh v | _ => true
def zrj (i : Nat) (o : Oper) (ts : List Nat) : Nat -> List Oper -> Bool
 | _, [] => true
 | j, o' :: r => (match o'.dst with
   | none => true
   | some d => (zan j i || (match o.dst with | some d' => !zan d' d | none => true)) &&
     (!zcf ts d || (zc9 j i && zaz o.after.toList j) || (zc9 i j && zaz o'.after.toList i))) && zrj i o ts (j + 1) r
def zn7 (ops : List Oper) : Nat -> List Oper -> Bool
 | _, [] => true
 | i, o :: r => (o.after.toList.all fun e => !Region.binds .any e || zc9 e.on i) && (match o.guard with | none => true | some (g, _) => zaz o.after.toList g) &&
   zrj i o (zt7 (zcb o.op)) 0 ops && zn7 ops (i + 1) r
structure ym1 (nt : Nat) (o : Oper) : Prop where
 dst : ∀ d, o.dst = some d -> d < nt
 pl : ∀ x ∈ zcb o.op, ∀ v, x = .const v -> zjh v = true
theorem ydb {nt : Nat} {o : Oper} (h : ywz nt o = true) : ym1 nt o := by
 unfold ywz at h
 simp only [Bool.and_eq_true] at h
 refine ⟨fun d hd => ?_, fun x hx v hv => ?_⟩
 · have h1 := h.1
   rw [hd] at h1
   exact zdj h1
 · have h2 := List.all_eq_true.1 h.2 x hx
   rw [hv] at h2
   exact h2
theorem ydv {l : List Operand} {t : Nat} (h : Operand.tmp t ∈ l) : t ∈ zt7 l := by
 induction l with
 | nil => cases h
 | cons x l ih =>
   rcases List.mem_cons.1 h with rfl | h'
   · simp [zt7]
   · cases x <;> simp [zt7, ih h']
structure znn (ops : List Oper) : Prop where
 back : ∀ (i : Nat) (o : Oper) (e : Edge), ops[i]? = some o -> e ∈ o.after -> Region.binds .any e = true -> e.on < i
 guard : ∀ (i : Nat) (o : Oper) g b, ops[i]? = some o -> o.guard = some (g, b) -> zaz o.after.toList g = true
 once : ∀ (i j : Nat) (o o' : Oper) d, ops[i]? = some o -> ops[j]? = some o' -> o.dst = some d -> o'.dst = some d -> i = j
 reads : ∀ (i j : Nat) (o o' : Oper) d, ops[i]? = some o -> ops[j]? = some o' -> o'.dst = some d -> Operand.tmp d ∈ zcb o.op ->
   (j < i /\ zaz o.after.toList j = true) \/ (i < j /\ zaz o'.after.toList i = true)
theorem zmm {i : Nat} {o : Oper} {ts : List Nat} : ∀ (l : List Oper) (j : Nat), zrj i o ts j l = true -> ∀ (k : Nat) (o' : Oper), l[k]? = some o' -> ∀ d, o'.dst = some d ->
   (zan (j + k) i || (match o.dst with | some d' => !zan d' d | none => true)) = true /\ (!zcf ts d || (zc9 (j + k) i && zaz o.after.toList (j + k)) || (zc9 i (j + k) && zaz o'.after.toList i)) = true
 | [], _, _, k, o', hk, _, _ => by simp at hk
 | x :: l, j, h, k, o', hk, d, hd => by
   unfold zrj at h
   rw [Bool.and_eq_true] at h
   cases k with
   | zero =>
     simp only [List.getElem?_cons_zero, Option.some.injEq] at hk
     subst hk
     have h1 := h.1
     rw [hd] at h1
     simp only [Bool.and_eq_true] at h1
     exact h1
   | succ k =>
     have := zmm l (j + 1) h.2 k o' (by simpa using hk) d hd
     rw [show j + 1 + k = j + (k + 1) by omega] at this
     exact this
theorem zsb {ops : List Oper} : ∀ (l : List Oper) (i : Nat), zn7 ops i l = true -> ∀ (k : Nat) (o : Oper), l[k]? = some o ->
   ((o.after.toList.all fun e => !Region.binds .any e || zc9 e.on (i + k)) && (match o.guard with | none => true | some (g, _) => zaz o.after.toList g)) = true /\ zrj (i + k) o (zt7 (zcb o.op)) 0 ops = true
 | [], _, _, k, o, hk => by simp at hk
 | x :: l, i, h, k, o, hk => by
   unfold zn7 at h
   rw [Bool.and_eq_true, Bool.and_eq_true] at h
   cases k with
   | zero =>
     simp only [List.getElem?_cons_zero, Option.some.injEq] at hk
     subst hk
     exact ⟨h.1.1, h.1.2⟩
   | succ k =>
     have := zsb l (i + 1) h.2 k o (by simpa using hk)
     rw [show i + 1 + k = i + (k + 1) by omega] at this
     exact this
theorem zsa {ops : List Oper} (h : zn7 ops 0 ops = true) : znn ops := by
 have H := zsb ops 0 h
 simp only [Nat.zero_add] at H
 refine ⟨fun i o e ho he hb => ?_, fun i o g b ho hg => ?_, fun i j o o' d ho ho' hd hd' => ?_, fun i j o o' d ho ho' hd hr => ?_⟩
 · have h1 := (H i o ho).1
   rw [Bool.and_eq_true, List.all_eq_true] at h1
   have h2 := h1.1 e (Array.mem_toList_iff.2 he)
   rw [hb] at h2
   exact zdj (by simpa using h2)
 · have h1 := (H i o ho).1
   rw [Bool.and_eq_true] at h1
   have h2 := h1.2
   rw [hg] at h2
   exact h2
 · have h1 := (zmm ops 0 (H i o ho).2 j o' ho' d hd').1
   rw [hd, Nat.zero_add] at h1
   simp only [za6, Bool.not_true, Bool.or_false] at h1
   exact (za4 h1).symm
 · have h1 := (zmm ops 0 (H i o ho).2 j o' ho' d hd).2
   rw [Nat.zero_add, zcq.2 (ydv hr)] at h1
   simp only [Bool.not_true, Bool.false_or, Bool.or_eq_true, Bool.and_eq_true] at h1
   rcases h1 with h1 | h1
   · exact .inl ⟨zdj h1.1, h1.2⟩
   · exact .inr ⟨zdj h1.1, h1.2⟩
section
variable {P : Program} {T : TT} {base : Nat} {M : Two} {W : World} {nt : Nat} {ops : List Oper}
theorem yax {f : Nat -> Option AV} {g : Nat -> Option Ob} {c : Nat -> Bool} {a : Act} {w : World} {o : Oper} {e : Ev} (hs : ziz base M W nt f g c a w) (hops : ∀ o ∈ ops, ym1 nt o)
   (hg : match ziu ops o with
     | none => e.want = true
     | some (some t, w) => (∃ b, f t = some (.bool b) /\ e.want = (b == w)) \/ (f t = some (.tup []) /\ e.want = false)
     | some (none, _) => False) : Region.wanted o (yielded ops.toArray a.tmps) = e.want := by
 obtain ⟨D, μ, h⟩ := hs
 unfold Region.wanted
 unfold ziu at hg
 cases e1 : o.guard with
 | none => rw [e1] at hg; simp only at hg |-; exact hg.symm
 | some x =>
   obtain ⟨j, wt⟩ := x
   rw [e1] at hg
   simp only at hg |-
   cases e2 : ops[j]? with
   | none => rw [e2] at hg; exact hg.elim
   | some o' =>
     rw [e2] at hg
     simp only at hg
     cases e3 : o'.dst with
     | none => rw [e3] at hg; exact hg.elim
     | some t =>
       rw [e3] at hg
       simp only at hg
       rcases hg with ⟨b, hb, hw⟩ | ⟨hb, hw⟩
       rotate_left
       · have ht : t < a.tmps.size := by rw [h.tmps]; exact (hops o' (List.mem_of_getElem? e2)).dst t e3
         obtain ⟨us, hu, l1, _⟩ := (h.slots t _ hb).inv_tup
         have hus : us = #[] := Array.eq_empty_of_size_eq_zero (by simpa using l1.symm)
         have hx : a.tmps[t]? = some (.tuple #[]) := by
           rw [hus] at hu
           rw [<- hu]; simp [ht]
         unfold yielded
         simp only [List.getElem?_toArray, e2, Option.bind_some, e3, hx]
         rw [hw]; cases wt <;> rfl
       have ht : t < a.tmps.size := by rw [h.tmps]; exact (hops o' (List.mem_of_getElem? e2)).dst t e3
       have hr := (h.slots t _ hb).inv_bool
       have hx : a.tmps[t]? = some (.bool b) := by rw [<- hr]; simp [ht]
       unfold yielded
       simp only [List.getElem?_toArray, e2, Option.bind_some, e3, hx]
       rw [hw]
       cases b <;> cases wt <;> rfl
theorem zpm {f : Nat -> Option AV} {g : Nat -> Option Ob} {c : Nat -> Bool} {a : Act} {w : World} {o : Oper} {e : Ev} {i : Nat} {Q : Exit -> Act -> World -> Prop} {K : Act -> World -> Prop} (hT : zcs P T)
   (hs : ziz base M W nt f g c a w) (hops : ∀ o ∈ ops, ym1 nt o) (ho : ops[i]? = some o) (he : yw0 P T ops f g c o e)
   (hK : ∀ a' w', ziz base M W nt (znx f o.dst e.v) (zbb g e.os) (zlw c e.ice) a' w' -> K a' w') : wpOp P ops.toArray Q i K a w := by
 have hw := yax hs hops he.guard
 have hok := hops o (List.mem_of_getElem? ho)
 obtain ⟨D, μ, h⟩ := hs
 unfold wpOp
 rw [List.getElem?_toArray, ho]
 simp only
 rw [hw]
 cases e1 : e.want with
 | true =>
   rw [if_pos rfl]
   rcases he.yes e1 with h1 | ⟨h1, h2⟩
   · exact .inl (yuy h1 (says h hok.dst hT hok.pl (fun t b ht => by simp [za2] at ht)) K Q hK)
   · rw [h2] at hK
     exact .inl (adv_M h hok.dst hok.pl h1 K Q hK)
 | false =>
   rw [if_neg (by simp)]
   obtain ⟨h1, h2, h3, _⟩ := he.no e1
   rw [h1, h2, h3] at hK
   exact hK _ _ ⟨D, μ, h.put hok.dst (.tup [] #[] rfl (fun i x v hx => by simp at hx))⟩
theorem yb6 (hT : zcs P T) (hops : ∀ o ∈ ops, ym1 nt o) {Q : Exit -> Act -> World -> Prop} {draw : Bool} : ∀ (r : List Oper) (i : Nat) (f : Nat -> Option AV) (g : Nat -> Option Ob) (c : Nat -> Bool) (acc : List (Nat × Ent)) (es : List Ev) (f' : Nat -> Option AV) (g' : Nat -> Option Ob) (c' : Nat -> Bool) (a : Act) (w : World),
   (∀ k, r[k]? = ops[i + k]?) -> Walk P T draw ops r i f g c acc es f' g' c' -> ziz base M W nt f g c a w -> (∀ a' w', ziz base M W nt f' g' c' a' w' -> Q .normal a' w') ->
   wpOps P ops.toArray Q (List.range' i r.length) a w
 | [], i, f, g, c, acc, es, f', g', c', a, w, hr, hW, hs, hQ => by
   cases es with
   | nil => obtain ⟨rfl, rfl, rfl⟩ := hW; exact hQ a w hs
   | cons _ _ => exact hW.elim
 | o :: r, i, f, g, c, acc, [], f', g', c', a, w, hr, hW, hs, hQ => hW.elim
 | o :: r, i, f, g, c, acc, e :: es, f', g', c', a, w, hr, hW, hs, hQ => by
   have ho : ops[i]? = some o := by have := hr 0; simpa using this.symm
   rw [List.length_cons, List.range'_succ, wpOps_cons]
   exact zpm hT hs hops ho hW.1 fun a' w' hs' => yb6 hT hops r (i + 1) _ _ _ _ es f' g' c' a' w' (fun k => by have := hr (k + 1); rw [List.getElem?_cons_succ] at this; rw [this]; congr 1; omega) hW.2.2 hs' hQ
def yam (ops : List Oper) (E : Nat -> Ev) (t : Nat) (j : Nat) : Option AV := match ops[j]? with
 | some o => if o.dst = some t then some (E j).v else none
 | none => none
theorem zwz (f : Nat -> Option AV) (o : Oper) (v : AV) (t : Nat) : znx f o.dst v t = match (if o.dst = some t then some v else none) with | some x => some x | none => f t := by
 unfold znx
 cases e : o.dst with
 | none => simp
 | some d =>
   by_cases h : t = d
   · subst h; simp
   · simp [h]; rw [if_neg (fun h' => h h'.symm)]
section
variable (ops : List Oper) (E : Nat -> Ev) (f0 : Nat -> Option AV) (g0 : Nat -> Option Ob) (c0 : Nat -> Bool)
def fL (L : Nat -> Bool) (n : Nat) : Nat -> Option AV := fun t => zj0 L (yam ops E t) (f0 t) n
def gL (L : Nat -> Bool) (n : Nat) : Nat -> Option Ob := fun id => zj0 L (fun j => za2 (E j).os id) (g0 id) n
def cL (L : Nat -> Bool) (n : Nat) : Nat -> Bool := fun id => zo0 L (fun j => zcf (E j).ice id) (c0 id) n
end
abbrev zh1 : Nat -> Bool := fun _ => true
variable {E : Nat -> Ev} {f0 : Nat -> Option AV} {g0 : Nat -> Option Ob} {c0 : Nat -> Bool}
theorem ypd {i : Nat} {o : Oper} (ho : ops[i]? = some o) : fL ops E f0 zh1 (i + 1) = znx (fL ops E f0 zh1 i) o.dst (E i).v := by
 funext t
 rw [zwz]
 show zj0 zh1 (yam ops E t) (f0 t) (i + 1) = _
 rw [zmv, if_pos rfl]
 have : yam ops E t i = if o.dst = some t then some (E i).v else none := by unfold yam; rw [ho]
 rw [this]
 cases (if o.dst = some t then some (E i).v else none) <;> rfl
theorem yp8 {i : Nat} : gL E g0 zh1 (i + 1) = zbb (gL E g0 zh1 i) (E i).os := by
 funext id
 show zj0 zh1 _ (g0 id) (i + 1) = _
 rw [zmv, if_pos rfl]
 unfold zbb
 cases za2 (E i).os id <;> rfl
theorem yq7 {i : Nat} : cL E c0 zh1 (i + 1) = zlw (cL E c0 zh1 i) (E i).ice := by
 funext id
 show zo0 zh1 _ (c0 id) (i + 1) = _
 rw [zsn]
 rfl
def yie (E : Nat -> Ev) (acc : List (Nat × Ent)) (i : Nat) : Prop := ∀ k, k < i -> (E k).ent = ⟨[], []⟩ \/ (k, (E k).ent) ∈ acc
theorem zyq {acc : List (Nat × Ent)} {i : Nat} (h : yie E acc i) (hno : (E i).want = false -> (E i).ent = ⟨[], []⟩) : yie E (zyr acc i (E i)) (i + 1) := by
 intro k hk
 unfold zyr
 by_cases hi : k = i
 · subst hi
   cases hw : (E k).want with
   | false => exact .inl (hno hw)
   | true =>
     rw [if_pos rfl]
     unfold zwd
     generalize (E k).ent = x
     obtain ⟨a, b⟩ := x
     cases a with
     | nil => cases b with
       | nil => exact .inl rfl
       | cons _ _ => exact .inr (by simp)
     | cons _ _ => exact .inr (by simp)
 · rcases h k (by omega) with h | h
   · exact .inl h
   · refine .inr ?_
     split
     · unfold zwd
       split
       · split
         · exact h
         · exact List.mem_cons_of_mem _ h
       · exact List.mem_cons_of_mem _ h
     · exact h
structure At (P : Program) (T : TT) (ops : List Oper) (E : Nat -> Ev) (f0 : Nat -> Option AV) (g0 : Nat -> Option Ob) (c0 : Nat -> Bool) (j : Nat) (o : Oper) : Prop where
 ev : yw0 P T ops (fL ops E f0 zh1 j) (gL E g0 zh1 j) (cL E c0 zh1 j) o (E j)
 ent : ykn (fL ops E f0 zh1 j) o (E j)
 ord : ∃ acc, yie E acc j /\ ykk ops o (E j) acc
theorem yay : ∀ (r : List Oper) (i : Nat) (f : Nat -> Option AV) (g : Nat -> Option Ob) (c : Nat -> Bool) (acc : List (Nat × Ent)) (es : List Ev) (f' : Nat -> Option AV) (g' : Nat -> Option Ob) (c' : Nat -> Bool),
   (∀ k, r[k]? = ops[i + k]?) -> (∀ k e, es[k]? = some e -> E (i + k) = e) -> f = fL ops E f0 zh1 i -> g = gL E g0 zh1 i -> c = cL E c0 zh1 i -> yie E acc i -> Walk P T true ops r i f g c acc es f' g' c' ->
   (∀ j o, i <= j -> ops[j]? = some o -> At P T ops E f0 g0 c0 j o) /\ f' = fL ops E f0 zh1 (i + r.length) /\ g' = gL E g0 zh1 (i + r.length) /\ c' = cL E c0 zh1 (i + r.length)
 | [], i, f, g, c, acc, es, f', g', c', hr, hE, ef, eg, ec, hn, hW => by
   cases es with
   | nil =>
     obtain ⟨rfl, rfl, rfl⟩ := hW
     refine ⟨fun j o hj ho => ?_, ef, eg, ec⟩
     have := hr (j - i)
     rw [show i + (j - i) = j by omega, ho] at this
     simp at this
   | cons _ _ => exact hW.elim
 | o :: r, i, f, g, c, acc, [], f', g', c', hr, hE, ef, eg, ec, hn, hW => hW.elim
 | o :: r, i, f, g, c, acc, e :: es, f', g', c', hr, hE, ef, eg, ec, hn, hW => by
   have ho : ops[i]? = some o := by have := hr 0; simpa using this.symm
   obtain ⟨h1, h2, h3⟩ := hW
   obtain ⟨h2, h2'⟩ := h2 rfl
   have hEi : E i = e := hE 0 e rfl
   rw [if_pos rfl] at h3
   have ih := yay r (i + 1) _ _ _ _ es f' g' c' (fun k => by have := hr (k + 1); rw [List.getElem?_cons_succ] at this; rw [this]; congr 1; omega) (fun k x hx => by rw [show i + 1 + k = i + (k + 1) by omega]; exact hE (k + 1) x (by simpa using hx))
     (by rw [ypd ho, hEi, ef]) (by rw [yp8, hEi, eg]) (by rw [yq7, hEi, ec]) (by rw [<- hEi]; exact zyq hn (by rw [hEi]; exact fun hw => (h1.no hw).2.2.2)) h3
   obtain ⟨i1, i2, i3, i4⟩ := ih
   rw [show i + 1 + r.length = i + (o :: r).length by simp; omega] at i2 i3 i4
   refine ⟨fun j o' hj ho' => ?_, i2, i3, i4⟩
   by_cases e1 : j = i
   · subst e1
     rw [ho] at ho'
     cases ho'
     subst hEi; subst ef; subst eg; subst ec
     exact ⟨h1, h2, acc, hn, h2'⟩
   · exact i1 j o' (by omega) ho'
theorem zrp {xs ys : List Nat} {id : Nat} (h1 : id ∈ xs) (h2 : id ∈ ys) : meets xs ys = true := by
 induction xs with
 | nil => cases h1
 | cons x xs ih =>
   unfold meets
   rcases List.mem_cons.1 h1 with rfl | h1
   · rw [zcq.2 h2]
   · split
     · rfl
     · exact ih h1
theorem ypz {a b : Ent} {id : Nat} (h1 : id ∈ a.wr) (h2 : id ∈ b.ids \/ id ∈ b.wr) : zv1 a b = true := by
 unfold zv1
 rw [zrp h1 (by rw [zaq, List.mem_append]; exact h2)]
theorem ypy {a b : Ent} {id : Nat} (h1 : id ∈ b.wr) (h2 : id ∈ a.ids) : zv1 a b = true := by
 unfold zv1
 split
 · rfl
 · exact zrp h1 h2
theorem ztv {es : List Edge} {x : Ent} {acc : List (Nat × Ent)} (h : zkm ops es x acc = true) {k : Nat} {y : Ent} (hm : (k, y) ∈ acc) (hc : zv1 x y = true) : ya7 ops 4 es k = true := by
 induction acc with
 | nil => cases hm
 | cons z acc ih =>
   obtain ⟨j, z⟩ := z
   unfold zkm at h
   rcases List.mem_cons.1 hm with e | hm
   · cases e
     rw [hc] at h
     simp only at h
     split at h
     · assumption
     · cases h
   · refine ih ?_ hm
     split at h
     · split at h
       · exact h
       · cases h
     · exact h
def zov (ops : List Oper) (L : Nat -> Bool) : Prop := ∀ (k : Nat) (o : Oper) (e : Edge), ops[k]? = some o -> L k = true -> e ∈ o.after -> Region.binds .any e = true -> L e.on = true
theorem zho {L : Nat -> Bool} {es : List Edge} {j : Nat} (h : ∀ e ∈ es, Region.binds .any e = true -> L e.on = true) (hd : zaz es j = true) : L j = true := by
 induction es with
 | nil => simp [zaz] at hd
 | cons e es ih =>
   have ih := ih fun x hx => h x (by simp [hx])
   unfold zaz at hd
   split at hd
   · rename_i hb
     split at hd
     · rename_i he
       rw [<- za4 he]; exact h e (by simp) hb
     · exact ih hd
   · exact ih hd
theorem zqs {L : Nat -> Bool} (hc : zov ops L) {j : Nat} : ∀ (n : Nat) (es : List Edge), (∀ e ∈ es, Region.binds .any e = true -> L e.on = true) -> ya7 ops n es j = true -> L j = true
 | 0, es, h, hd => zho h hd
 | n + 1, es, h, hd => by
   unfold ya7 at hd
   split at hd
   · rename_i h'; exact zho h h'
   · rw [List.any_eq_true] at hd
     obtain ⟨e, he, hd⟩ := hd
     split at hd
     · rename_i hb
       split at hd
       · cases hd
       · split at hd
         · rename_i o ho
           exact zqs hc n o.after.toList (fun x hx hxb => hc e.on o x ho (h e he hb) (Array.mem_toList_iff.1 hx) hxb) hd
         · cases hd
     · cases hd
structure ygi (ops : List Oper) (L : Nat -> Bool) (i : Nat) (o : Oper) : Prop where
 at_ : ops[i]? = some o
 not : L i = false
 go : ∀ e ∈ o.after.toList, Region.binds .any e = true -> L e.on = true
variable {L : Nat -> Bool} {i : Nat} {o : Oper}
theorem yu4 (h : At P T ops E f0 g0 c0 i o) {id : Nat} (hid : id ∈ (E i).ent.ids \/ id ∈ (E i).ent.wr) : (E i).want = true := by
 cases hw : (E i).want with
 | true => rfl
 | false =>
   have := (h.ev.no hw).2.2.2
   rw [this] at hid
   simp at hid
theorem zw2 (hA : ∀ j o, ops[j]? = some o -> At P T ops E f0 g0 c0 j o) {j k : Nat} {o : Oper} (ho : ops[k]? = some o) (hjk : j < k) {id : Nat} (h : (id ∈ (E k).ent.wr /\ (id ∈ (E j).ent.ids \/ id ∈ (E j).ent.wr)) \/ (id ∈ (E j).ent.wr /\ id ∈ (E k).ent.ids)) : ya7 ops 4 o.after.toList j = true := by
 have A := hA k o ho
 have hw : (E k).want = true := yu4 A (id := id) (by rcases h with h | h; exact .inr h.1; exact .inl h.2)
 obtain ⟨acc, hn, ho'⟩ := A.ord
 have hor := ho' hw
 have hcl : zv1 (E k).ent (E j).ent = true := by
   rcases h with h | h
   · exact ypz h.1 h.2
   · exact ypy h.1 h.2
 rcases hn j hjk with h0 | h0
 · rw [h0] at h; simp at h
 · exact ztv hor h0 hcl
theorem yvb (hA : ∀ j o, ops[j]? = some o -> At P T ops E f0 g0 c0 j o) (hC : zov ops L) (hR : ygi ops L i o) {j : Nat} (hj : j < ops.length) {id : Nat}
   (h : (id ∈ (E j).ent.wr /\ (id ∈ (E i).ent.ids \/ id ∈ (E i).ent.wr)) \/ (id ∈ (E i).ent.wr /\ id ∈ (E j).ent.ids)) : L j = decide (j < i) := by
 obtain ⟨oj, hoj⟩ : ∃ oj, ops[j]? = some oj := ⟨_, List.getElem?_eq_getElem hj⟩
 rcases Nat.lt_trichotomy j i with hlt | heq | hgt
 · have := zw2 hA hR.at_ hlt (id := id) (by
     rcases h with ⟨h1, h2 | h2⟩ | ⟨h1, h2⟩
     · exact .inr ⟨h1, h2⟩
     · exact .inl ⟨h2, .inr h1⟩
     · exact .inl ⟨h1, .inl h2⟩)
   rw [zqs hC 4 _ hR.go this]; simp [hlt]
 · subst heq
   rw [hR.not]; simp
 · have := zw2 hA hoj hgt (id := id) (by
     rcases h with ⟨h1, h2 | h2⟩ | ⟨h1, h2⟩
     · exact .inl ⟨h1, .inl h2⟩
     · exact .inl ⟨h1, .inr h2⟩
     · exact .inr ⟨h1, h2⟩)
   have hn : L j = false := by
     cases hL : L j with
     | false => rfl
     | true =>
       have h2 := zqs hC 4 _ (fun e he hb => hC j oj e hoj hL (Array.mem_toList_iff.1 he) hb) this
       rw [hR.not] at h2; cases h2
   rw [hn]; simp; omega
theorem yln (hD : znn ops) (hC : zov ops L) (hR : ygi ops L i o) {t : Nat} (ht : Operand.tmp t ∈ zcb o.op \/ ∃ g b og, o.guard = some (g, b) /\ ops[g]? = some og /\ og.dst = some t) : fL ops E f0 L ops.length t = fL ops E f0 zh1 i t := by
 have hi : i < ops.length := (List.getElem?_eq_some_iff.1 hR.at_).1
 show zj0 L (yam ops E t) (f0 t) ops.length = zj0 zh1 (yam ops E t) (f0 t) i
 rw [<- zmw i ops.length (by omega)]
 refine zd7 _ fun j hj hh => ?_
 obtain ⟨oj, hoj⟩ : ∃ oj, ops[j]? = some oj := ⟨_, List.getElem?_eq_getElem hj⟩
 have hdj : oj.dst = some t := by
   unfold yam at hh
   rw [hoj] at hh
   simp only at hh
   split at hh
   · assumption
   · exact absurd rfl hh
 rcases ht with ht | ⟨g, b, og, h1, h2, h3⟩
 · rcases hD.reads i j o oj t hR.at_ hoj hdj ht with h | h
   · rw [zho hR.go h.2]; simp [h.1]
   · have hn : L j = false := by
       cases hL : L j with
       | false => rfl
       | true =>
         have h2 := zho (fun e he hb => hC j oj e hoj hL (Array.mem_toList_iff.1 he) hb) h.2
         rw [hR.not] at h2; cases h2
     rw [hn]; simp; omega
 · have := hD.once j g oj og t hoj h2 hdj h3
   subst this
   have hd := hD.guard i o j b hR.at_ h1
   rw [zho hR.go hd]
   have : j < i := by
     have key : ∀ es : List Edge, (∀ e ∈ es, Region.binds .any e = true -> e.on < i) -> zaz es j = true -> j < i := by
       intro es
       induction es with
       | nil => intro _ h; simp [zaz] at h
       | cons e es ih =>
         intro h hd
         have ih := ih fun x hx => h x (by simp [hx])
         unfold zaz at hd
         split at hd
         · rename_i hb
           split at hd
           · rename_i he; rw [<- za4 he]; exact h e (by simp) hb
           · exact ih hd
         · exact ih hd
     exact key _ (fun e he hb => hD.back i o e hR.at_ (Array.mem_toList_iff.1 he) hb) hd
   simp [this]
theorem yjc {α : Type} {l : List (Nat × α)} {id : Nat} (h : za2 l id ≠ none) : id ∈ zz4 l := by
 induction l with
 | nil => simp [za2] at h
 | cons x l ih =>
   obtain ⟨k, v⟩ := x
   unfold za2 at h
   unfold zz4
   cases e : zan k id with
   | true => simp [za4 e]
   | false => rw [e] at h; simp [ih h]
theorem yi3 (h : At P T ops E f0 g0 c0 i o) {id : Nat} (hh : za2 (E i).os id ≠ none) : id ∈ (E i).ent.wr := by
 cases hw : (E i).want with
 | true => exact (h.ent hw).2.2.2.1 id (yjc hh)
 | false => rw [(h.ev.no hw).2.1] at hh; simp [za2] at hh
theorem yoz (h : At P T ops E f0 g0 c0 i o) {id : Nat} (hh : zcf (E i).ice id = true) : id ∈ (E i).ent.ids := by
 cases hw : (E i).want with
 | true => exact (h.ent hw).2.2.1 id (zcq.1 hh)
 | false => rw [(h.ev.no hw).2.2.1] at hh; simp [zcf] at hh
theorem yu0 (hD : znn ops) (hA : ∀ j o, ops[j]? = some o -> At P T ops E f0 g0 c0 j o) (hC : zov ops L) (hR : ygi ops L i o) :
   yw0 P T ops (fL ops E f0 L ops.length) (gL E g0 L ops.length) (cL E c0 L ops.length) o (E i) := by
 have A := hA i o hR.at_
 have hi : i < ops.length := (List.getElem?_eq_some_iff.1 hR.at_).1
 refine ⟨?_, A.ev.no, fun hw => ?_⟩
 · have hg := A.ev.guard
   unfold ziu at hg |-
   cases e1 : o.guard with
   | none => rw [e1] at hg; exact hg
   | some x =>
     obtain ⟨j, b⟩ := x
     rw [e1] at hg
     simp only at hg |-
     cases e2 : ops[j]? with
     | none => rw [e2] at hg; exact hg
     | some o' =>
       rw [e2] at hg
       simp only at hg |-
       cases e3 : o'.dst with
       | none => rw [e3] at hg; exact hg
       | some t =>
         rw [e3] at hg
         simp only at hg |-
         rw [yln hD hC hR (.inr ⟨j, b, o', e1, e2, e3⟩)]
         exact hg
 · have h1 := A.ev.yes hw
   obtain ⟨n1, n2, n3, n4, n5⟩ := A.ent hw
   have hv : zfk (evf (fL ops E f0 L ops.length) []) (zcb o.op) = zfk (evf (fL ops E f0 zh1 i) []) (zcb o.op) := by
     refine zi7 fun x hx => ?_
     cases x with
     | tmp t => simp only [evf, za2]; rw [yln hD hC hR (.inl hx)]
     | _ => rfl
   have hg : ∀ id, id ∈ (E i).ent.ids -> gL E g0 L ops.length id = gL E g0 zh1 i id := by
     intro id hid
     show zj0 L _ (g0 id) ops.length = zj0 zh1 _ (g0 id) i
     rw [<- zmw i ops.length (by omega)]
     refine zd7 _ fun j hj hh => ?_
     obtain ⟨oj, hoj⟩ : ∃ oj, ops[j]? = some oj := ⟨_, List.getElem?_eq_getElem hj⟩
     exact yvb hA hC hR hj (id := id) (.inl ⟨yi3 (hA j oj hoj) hh, .inl hid⟩)
   have hgw : ∀ id, id ∈ (E i).ent.wr -> gL E g0 L ops.length id = gL E g0 zh1 i id := by
     intro id hid
     show zj0 L _ (g0 id) ops.length = zj0 zh1 _ (g0 id) i
     rw [<- zmw i ops.length (by omega)]
     refine zd7 _ fun j hj hh => ?_
     obtain ⟨oj, hoj⟩ : ∃ oj, ops[j]? = some oj := ⟨_, List.getElem?_eq_getElem hj⟩
     exact yvb hA hC hR hj (id := id) (.inl ⟨yi3 (hA j oj hoj) hh, .inr hid⟩)
   have hc : ∀ id, id ∈ (E i).ent.wr -> cL E c0 L ops.length id = cL E c0 zh1 i id := by
     intro id hid
     show zo0 L _ (c0 id) ops.length = zo0 zh1 _ (c0 id) i
     rw [<- ygc i ops.length (by omega)]
     refine zge _ fun j hj hh => ?_
     obtain ⟨oj, hoj⟩ : ∃ oj, ops[j]? = some oj := ⟨_, List.getElem?_eq_getElem hj⟩
     exact yvb hA hC hR hj (id := id) (.inr ⟨hid, yoz (hA j oj hoj) hh⟩)
   rcases h1 with h1 | ⟨h1, h2⟩
   · left
     rw [zm3 (f' := fL ops E f0 zh1 i) (g' := gL E g0 zh1 i) (c' := cL E c0 zh1 i) (kn' := []) hv (fun id hid => hg id (n1 id hid)) (fun hcr d hd => hg d (n2 hcr d hd)) (fun hwr id hid => hc id (n5 hwr id hid))]
     exact h1
   · right
     refine ⟨?_, h2⟩
     obtain ⟨fo, xs, ts, k, first, caps, zs, F, fr, T', e, hvals, hM, hm, q1, q2⟩ := h1
     refine ⟨fo, xs, ts, k, first, caps, zs, F, fr, T', e, by rw [hv]; exact hvals, hM, hm.congr (fun id hid => hgw id (n4 id (by rw [q2]; exact hid))) (fun id hid => hc id (n4 id (by rw [q2]; exact hid))), q1, q2⟩
theorem ygg (hD : znn ops) (hA : ∀ j o, ops[j]? = some o -> At P T ops E f0 g0 c0 j o) (hC : zov ops L) (hR : ygi ops L i o) {L' : Nat -> Bool} (h1 : L' i = true) (hne : ∀ j, j ≠ i -> L' j = L j) :
   znx (fL ops E f0 L ops.length) o.dst (E i).v = fL ops E f0 L' ops.length /\ zbb (gL E g0 L ops.length) (E i).os = gL E g0 L' ops.length /\ zlw (cL E c0 L ops.length) (E i).ice = cL E c0 L' ops.length := by
 have A := hA i o hR.at_
 have hi : i < ops.length := (List.getElem?_eq_some_iff.1 hR.at_).1
 refine ⟨?_, ?_, ?_⟩
 · funext t
   rw [zwz]
   have hf : yam ops E t i = if o.dst = some t then some (E i).v else none := by unfold yam; rw [hR.at_]
   have := zq4 (hit := yam ops E t) (s := f0 t) h1 hR.not hne ops.length hi (fun hh j hij hj hLj => by
     rw [hf] at hh
     have hd : o.dst = some t := by
       split at hh
       · assumption
       · exact absurd rfl hh
     obtain ⟨oj, hoj⟩ : ∃ oj, ops[j]? = some oj := ⟨_, List.getElem?_eq_getElem hj⟩
     unfold yam
     rw [hoj]
     simp only
     rw [if_neg]
     intro hdj
     have := hD.once i j o oj t hR.at_ hoj hd hdj
     omega)
   rw [hf] at this
   show _ = zj0 L' (yam ops E t) (f0 t) ops.length
   rw [this]
   cases (if o.dst = some t then some (E i).v else none) <;> rfl
 · funext id
   have := zq4 (hit := fun j => za2 (E j).os id) (s := g0 id) h1 hR.not hne ops.length hi (fun hh j hij hj hLj => by
     refine Decidable.byContradiction fun hjn => ?_
     obtain ⟨oj, hoj⟩ : ∃ oj, ops[j]? = some oj := ⟨_, List.getElem?_eq_getElem hj⟩
     have := yvb hA hC hR hj (id := id) (.inl ⟨yi3 (hA j oj hoj) (by intro e; rw [e] at hjn; exact hjn rfl), .inr (yi3 A hh)⟩)
     rw [hLj] at this
     simp at this
     omega)
   show _ = zj0 L' (fun j => za2 (E j).os id) (g0 id) ops.length
   rw [this]
   unfold zbb
   cases za2 (E i).os id <;> rfl
 · funext id
   have := zxd (p := fun j => zcf (E j).ice id) (s := c0 id) h1 hR.not hne ops.length hi
   show _ = zo0 L' _ (c0 id) ops.length
   rw [this]
   rfl
def left (L : Array Bool) : Nat := L.toList.count false
theorem yj8 {L : Array Bool} {i : Nat} (h : L.getD i true = false) (hi : i < L.size) : left (L.setIfInBounds i true) + 1 = left L := by
 have hget : L[i] = false := by simpa [hi] using h
 unfold left
 have hc : 0 < List.count false L.toList := List.count_pos_iff.2 (by rw [<- hget]; simp)
 have h2 := List.count_set (a := true) (b := false) (l := L.toList) (i := i) (by simpa using hi)
 rw [Array.toList_setIfInBounds, h2]
 have e1 : (L.toList[i]'(by simpa using hi)) = false := by simpa using hget
 rw [e1]
 have e2 : ((false == false) = true) := rfl
 have e3 : ¬ ((true == false) = true) := by decide
 rw [if_pos e2, if_neg e3]
 omega
theorem zul {L : Array Bool} {i : Nat} (h : i < L.size) (d d' : Bool) : L.getD i d = L.getD i d' := by simp [h]
theorem zsp (hD : znn ops) {L : Array Bool} (hs : L.size = ops.length) (hn : Region.ready .any ops.toArray L = []) : ∀ j, j < ops.length -> L.getD j true = true := by
 intro j
 induction j using Nat.strongRecOn with
 | _ j ih =>
   intro hj
   refine Decidable.byContradiction fun h => ?_
   have hm : j ∈ Region.ready .any ops.toArray L := by
     rw [mem_ready]
     refine ⟨by simpa using h, ops[j], by simp [hj], fun e he hb => ?_⟩
     have hlt := hD.back j ops[j] e (List.getElem?_eq_getElem hj) he hb
     rw [zul (by omega) false true]
     exact ih e.on hlt (by omega)
   rw [hn] at hm; cases hm
structure InvA (base : Nat) (M : Two) (W : World) (nt : Nat) (ops : List Oper) (E : Nat -> Ev) (f0 : Nat -> Option AV) (g0 : Nat -> Option Ob) (c0 : Nat -> Bool) (L : Array Bool) (a : Act) (w : World) : Prop where
 size : L.size = ops.length
 closed : zov ops (fun i => L.getD i false)
 sim : ziz base M W nt (fL ops E f0 (fun i => L.getD i false) ops.length) (gL E g0 (fun i => L.getD i false) ops.length) (cL E c0 (fun i => L.getD i false) ops.length) a w
theorem zs2 {L : Array Bool} (hs : L.size = ops.length) (h : ∀ j, j < ops.length -> L.getD j true = true) :
   fL ops E f0 (fun i => L.getD i false) ops.length = fL ops E f0 zh1 ops.length /\ gL E g0 (fun i => L.getD i false) ops.length = gL E g0 zh1 ops.length /\ cL E c0 (fun i => L.getD i false) ops.length = cL E c0 zh1 ops.length := by
 have hj : ∀ j, j < ops.length -> L.getD j false = zh1 j := fun j hj => by rw [zul (by omega) false true]; exact h j hj
 exact ⟨funext fun t => zd7 _ fun j h _ => hj j h, funext fun t => zd7 _ fun j h _ => hj j h, funext fun t => zge _ fun j h _ => hj j h⟩
theorem ylx (hT : zcs P T) (hops : ∀ o ∈ ops, ym1 nt o) (hD : znn ops) (hA : ∀ j o, ops[j]? = some o -> At P T ops E f0 g0 c0 j o) {Q : Exit -> Act -> World -> Prop}
   (hQ : ∀ a w, ziz base M W nt (fL ops E f0 zh1 ops.length) (gL E g0 zh1 ops.length) (cL E c0 zh1 ops.length) a w -> Q .normal a w) :
   ∀ (fuel : Nat) (L : Array Bool) (a : Act) (w : World), left L <= fuel -> InvA base M W nt ops E f0 g0 c0 L a w -> wpAny P .any ops.toArray Q fuel L a w
 | 0, L, a, w, hf, I => by
   have hall : ∀ j, j < ops.length -> L.getD j true = true := fun j hj => by
     refine Decidable.byContradiction fun h => ?_
     have hm : false ∈ L.toList := by
       have hjL : j < L.size := by rw [I.size]; exact hj
       have : L[j] = false := by simpa [hjL] using h
       rw [<- this]; simp
     have := List.count_pos_iff.2 hm
     unfold left at hf; omega
   obtain ⟨e1, e2, e3⟩ := zs2 (E := E) (f0 := f0) (g0 := g0) (c0 := c0) I.size hall
   refine ⟨?_, hQ a w (by have := I.sim; rwa [e1, e2, e3] at this)⟩
   refine List.eq_nil_iff_forall_not_mem.2 fun j hj => ?_
   rw [mem_ready] at hj
   obtain ⟨h1, o, ho, _⟩ := hj
   have hj : j < ops.length := by
     rw [List.getElem?_toArray] at ho
     exact (List.getElem?_eq_some_iff.1 ho).1
   rw [hall j hj] at h1; cases h1
 | fuel + 1, L, a, w, hf, I => by
   refine ⟨fun hn => ?_, fun i hi => ?_⟩
   · obtain ⟨e1, e2, e3⟩ := zs2 (E := E) (f0 := f0) (g0 := g0) (c0 := c0) I.size (zsp hD I.size hn)
     exact hQ a w (by have := I.sim; rwa [e1, e2, e3] at this)
   · rw [mem_ready] at hi
     obtain ⟨hun, o, ho, hed⟩ := hi
     rw [List.getElem?_toArray] at ho
     have hil : i < ops.length := (List.getElem?_eq_some_iff.1 ho).1
     have hiL : i < L.size := by rw [I.size]; exact hil
     have hR : ygi ops (fun i => L.getD i false) i o := ⟨ho, by rw [zul hiL false true]; exact hun, fun e he hb => hed e (Array.mem_toList_iff.1 he) hb⟩
     have hleft := yj8 hun hiL
     have h1 : (fun j => (L.setIfInBounds i true).getD j false) i = true := by simp [hiL]
     have hne : ∀ j, j ≠ i -> (fun j => (L.setIfInBounds i true).getD j false) j = (fun j => L.getD j false) j := fun j hj => by
       simp only [Array.getD_eq_getD_getElem?, Array.getElem?_setIfInBounds_ne (fun e => hj e.symm)]
     obtain ⟨q1, q2, q3⟩ := ygg hD hA I.closed hR h1 hne
     refine zpm hT I.sim hops ho (yu0 hD hA I.closed hR) fun a' w' hs => ylx hT hops hD hA hQ fuel _ a' w' (by omega) ⟨by simpa using I.size, ?_, ?_⟩
     · intro k ok e hk hL he hb
       by_cases hki : k = i
       · subst hki
         rw [ho] at hk; cases hk
         have := hR.go e (Array.mem_toList_iff.2 he) hb
         by_cases hei : e.on = k
         · rw [hei]; exact h1
         · have := hne e.on hei; simp only at this |-; rw [this]; exact hR.go e (Array.mem_toList_iff.2 he) hb
       · have h2 := hne k hki
         simp only at h2 hL
         rw [h2] at hL
         have := I.closed k ok e hk hL he hb
         by_cases hei : e.on = i
         · rw [hei]; exact h1
         · have h3 := hne e.on hei; simp only at h3 |-; rw [h3]; exact this
     · rw [q1, q2, q3] at hs
       exact hs
theorem zfg {L : Array Bool} {i : Nat} (h : i ∈ Region.ready .any ops.toArray L) : ∃ o, ops[i]? = some o /\ L.getD i true = false /\ ∀ j, zaz o.after.toList j = true -> L.getD j false = true := by
 rw [mem_ready] at h
 obtain ⟨h1, o, ho, h2⟩ := h
 rw [List.getElem?_toArray] at ho
 refine ⟨o, ho, h1, fun j hj => ?_⟩
 have : ∀ es : List Edge, zaz es j = true -> ∃ e, e ∈ es /\ Region.binds .any e = true /\ e.on = j := by
   intro es
   induction es with
   | nil => intro h; cases h
   | cons x es ih =>
     intro h
     unfold zaz at h
     split at h
     · rename_i hb
       split at h
       · rename_i he; exact ⟨x, by simp, hb, za4 he⟩
       · obtain ⟨e, e1, e2, e3⟩ := ih h; exact ⟨e, by simp [e1], e2, e3⟩
     · obtain ⟨e, e1, e2, e3⟩ := ih h; exact ⟨e, by simp [e1], e2, e3⟩
 obtain ⟨e, e1, e2, e3⟩ := this _ hj
 rw [<- e3]
 exact h2 e (Array.mem_toList_iff.1 e1) e2
theorem yfq {o0 o1 o2 o3 : Oper} (hT : zcs P T) (hops : ∀ o ∈ [o0, o1, o2, o3], ym1 nt o) (hD : znn [o0, o1, o2, o3])
   (d1 : zaz o1.after.toList 0 = true) (d2 : zaz o2.after.toList 0 = true) (d3 : zaz o3.after.toList 1 = true) (d4 : zaz o3.after.toList 2 = true) {Q : Exit -> Act -> World -> Prop}
   {f f1 f2 f3 f4 f2' f3' f4' : Nat -> Option AV} {g g1 g2 g3 g4 g2' g3' g4' : Nat -> Option Ob} {c c1 c2 c3 c4 c2' c3' c4' : Nat -> Bool}
   (h0 : ∀ a w K, ziz base M W nt f g c a w -> (∀ a w, ziz base M W nt f1 g1 c1 a w -> K a w) -> wpOp P [o0, o1, o2, o3].toArray Q 0 K a w)
   (h1 : ∀ a w K, ziz base M W nt f1 g1 c1 a w -> (∀ a w, ziz base M W nt f2 g2 c2 a w -> K a w) -> wpOp P [o0, o1, o2, o3].toArray Q 1 K a w)
   (h2 : ∀ a w K, ziz base M W nt f2 g2 c2 a w -> (∀ a w, ziz base M W nt f3 g3 c3 a w -> K a w) -> wpOp P [o0, o1, o2, o3].toArray Q 2 K a w)
   (h3 : ∀ a w K, ziz base M W nt f3 g3 c3 a w -> (∀ a w, ziz base M W nt f4 g4 c4 a w -> K a w) -> wpOp P [o0, o1, o2, o3].toArray Q 3 K a w)
   (h1' : ∀ a w K, ziz base M W nt f1 g1 c1 a w -> (∀ a w, ziz base M W nt f2' g2' c2' a w -> K a w) -> wpOp P [o0, o1, o2, o3].toArray Q 2 K a w)
   (h2' : ∀ a w K, ziz base M W nt f2' g2' c2' a w -> (∀ a w, ziz base M W nt f3' g3' c3' a w -> K a w) -> wpOp P [o0, o1, o2, o3].toArray Q 1 K a w)
   (h3' : ∀ a w K, ziz base M W nt f3' g3' c3' a w -> (∀ a w, ziz base M W nt f4' g4' c4' a w -> K a w) -> wpOp P [o0, o1, o2, o3].toArray Q 3 K a w)
   (hQ : ∀ a w, ziz base M W nt f4 g4 c4 a w -> Q .normal a w) (hQ' : ∀ a w, ziz base M W nt f4' g4' c4' a w -> Q .normal a w)
   {a : Act} {w : World} (hs : ziz base M W nt f g c a w) : wpAny P .any [o0, o1, o2, o3].toArray Q 4 #[false, false, false, false] a w := by
 have nd : ∀ (L : Array Bool), L.size = 4 -> (∃ j, j < 4 /\ L.getD j true = false) -> Region.ready .any [o0, o1, o2, o3].toArray L = [] -> False := by
   intro L hL hj hn
   obtain ⟨j, hj1, hj2⟩ := hj
   have := zsp hD (L := L) hL hn j hj1
   rw [this] at hj2; cases hj2
 have four : ∀ {i : Nat} {o : Oper}, [o0, o1, o2, o3][i]? = some o -> (i = 0 /\ o = o0) \/ (i = 1 /\ o = o1) \/ (i = 2 /\ o = o2) \/ (i = 3 /\ o = o3) := by
   intro i o h
   match i, h with
   | 0, h => cases h; simp
   | 1, h => cases h; simp
   | 2, h => cases h; simp
   | 3, h => cases h; simp
   | i + 4, h => simp at h
 refine ⟨fun hn => (nd _ rfl ⟨0, by omega, rfl⟩ hn).elim, fun i hi => ?_⟩
 obtain ⟨o, ho, hL, hd⟩ := zfg hi
 rcases four ho with ⟨rfl, rfl⟩ | ⟨rfl, rfl⟩ | ⟨rfl, rfl⟩ | ⟨rfl, rfl⟩
 rotate_left
 · cases hd 0 d1
 · cases hd 0 d2
 · cases hd 1 d3
 refine h0 a w _ hs fun a w hs => ?_
 refine ⟨fun hn => (nd _ rfl ⟨1, by omega, rfl⟩ hn).elim, fun i hi => ?_⟩
 obtain ⟨o, ho, hL, hd⟩ := zfg hi
 rcases four ho with ⟨rfl, rfl⟩ | ⟨rfl, rfl⟩ | ⟨rfl, rfl⟩ | ⟨rfl, rfl⟩
 · cases hL
 · refine h1 a w _ hs fun a w hs => ?_
   refine ⟨fun hn => (nd _ rfl ⟨2, by omega, rfl⟩ hn).elim, fun i hi => ?_⟩
   obtain ⟨o, ho, hL, hd⟩ := zfg hi
   rcases four ho with ⟨rfl, rfl⟩ | ⟨rfl, rfl⟩ | ⟨rfl, rfl⟩ | ⟨rfl, rfl⟩
   · cases hL
   · cases hL
   · refine h2 a w _ hs fun a w hs => ?_
     refine ⟨fun hn => (nd _ rfl ⟨3, by omega, rfl⟩ hn).elim, fun i hi => ?_⟩
     obtain ⟨o, ho, hL, hd⟩ := zfg hi
     rcases four ho with ⟨rfl, rfl⟩ | ⟨rfl, rfl⟩ | ⟨rfl, rfl⟩ | ⟨rfl, rfl⟩
     · cases hL
     · cases hL
     · cases hL
     · refine h3 a w _ hs fun a w hs => ?_
       refine ⟨?_, hQ a w hs⟩
       refine List.eq_nil_iff_forall_not_mem.2 fun i hi => ?_
       obtain ⟨o, ho, hL, hd⟩ := zfg hi
       rcases four ho with ⟨rfl, rfl⟩ | ⟨rfl, rfl⟩ | ⟨rfl, rfl⟩ | ⟨rfl, rfl⟩ <;> cases hL
   · cases hd 2 d4
 · refine h1' a w _ hs fun a w hs => ?_
   refine ⟨fun hn => (nd _ rfl ⟨1, by omega, rfl⟩ hn).elim, fun i hi => ?_⟩
   obtain ⟨o, ho, hL, hd⟩ := zfg hi
   rcases four ho with ⟨rfl, rfl⟩ | ⟨rfl, rfl⟩ | ⟨rfl, rfl⟩ | ⟨rfl, rfl⟩
   · cases hL
   · refine h2' a w _ hs fun a w hs => ?_
     refine ⟨fun hn => (nd _ rfl ⟨3, by omega, rfl⟩ hn).elim, fun i hi => ?_⟩
     obtain ⟨o, ho, hL, hd⟩ := zfg hi
     rcases four ho with ⟨rfl, rfl⟩ | ⟨rfl, rfl⟩ | ⟨rfl, rfl⟩ | ⟨rfl, rfl⟩
     · cases hL
     · cases hL
     · cases hL
     · refine h3' a w _ hs fun a w hs => ?_
       refine ⟨?_, hQ' a w hs⟩
       refine List.eq_nil_iff_forall_not_mem.2 fun i hi => ?_
       obtain ⟨o, ho, hL, hd⟩ := zfg hi
       rcases four ho with ⟨rfl, rfl⟩ | ⟨rfl, rfl⟩ | ⟨rfl, rfl⟩ | ⟨rfl, rfl⟩ <;> cases hL
   · cases hL
   · cases hd 1 d3
 · cases hd 1 d3
def ycr (nt : Nat) (draw : Bool) (ops : List Oper) : Bool := ops.all (ywz nt) && (!draw || zn7 ops 0 ops)
theorem zoi {Q1 : AV -> Prop} {v : Nat} {k : St -> zcp} {s : St} (hk : zo1 (za2 s.slots) s.kn) (h : Sat P Q1 (yja v k s)) : ∃ s' : St, s'.slots = s.slots /\ s'.objs = s.objs /\ s'.ice = s.ice /\ zo1 (za2 s'.slots) s'.kn /\ Sat P Q1 (k s') := by
 unfold yja at h
 split at h
 · rename_i b hb
   exact ⟨s.know v b, rfl, rfl, rfl, zf2 hk hb, h⟩
 · cases h
theorem zye {S : zqt} {Q1 : AV -> Prop} (hT : zcs P T) (hS : zed P S) (hm : P.follows .mixedOrders = true) {draw : Bool} (hB : ycr nt draw ops = true) {id : Nat} {s : St} {a : Act} {w : World} (hs : znm base M W nt s a w)
   {k : St -> zcp} (h : Sat P Q1 (zdn T std S draw ops ops 0 s [] k)) {Q : Exit -> Act -> World -> Prop} (hQ : ∀ s' a' w', znm base M W nt s' a' w' -> Sat P Q1 (k s') -> Q .normal a' w') :
   (Code.region id ops.toArray draw).wp P Q a w := by
 unfold ycr at hB
 rw [Bool.and_eq_true, List.all_eq_true] at hB
 have hops : ∀ o ∈ ops, ym1 nt o := fun o ho => ydb (hB.1 o ho)
 obtain ⟨es, s', hW, hk', h'⟩ := zfu hS ops 0 s [] hs.2 h
 cases draw with
 | false =>
   refine wp_region ?_
   have := yb6 (base := base) (M := M) (W := W) hT hops (Q := Q) ops 0 _ _ _ _ es _ _ _ a w (fun k => by simp) hW hs.1 fun a' w' hs' => hQ s' a' w' ⟨hs', hk'⟩ h'
   rw [List.range_eq_range']
   simpa using this
 | true =>
   refine wp_region_any hm ?_
   have hD := zsa (by simpa using hB.2 : zn7 ops 0 ops = true)
   obtain ⟨hA, e1, e2, e3⟩ := yay (ops := ops) (E := fun j => es.getD j nothing) (f0 := za2 s.slots) (g0 := za2 s.objs) (c0 := zcf s.ice) ops 0 _ _ _ _ es _ _ _ (fun k => by simp) (fun k e he => by simp [he]) rfl rfl rfl (fun k hk => by omega) hW
   rw [Nat.zero_add] at e1 e2 e3
   have hl : left (Array.replicate ops.length false) <= ops.toArray.size := by
     unfold left; simp
   have hsz : ops.toArray.size = ops.length := by simp
   rw [hsz] at hl |-
   refine ylx (E := fun j => es.getD j nothing) hT hops hD (fun j o ho => hA j o (by omega) ho) (fun a' w' hs' => hQ s' a' w' ⟨by rw [e1, e2, e3]; exact hs', hk'⟩ h') ops.length _ a _ hl ⟨by simp, ?_, ?_⟩
   · intro k o e hk hL _ _
     have hk : k < ops.length := (List.getElem?_eq_some_iff.1 hk).1
     simp [hk] at hL
   · have z : ∀ j, j < ops.length -> (fun i => (Array.replicate ops.length false).getD i false) j = false := fun j hj => by simp [hj]
     have h1 : fL ops (fun j => es.getD j nothing) (za2 s.slots) (fun i => (Array.replicate ops.length false).getD i false) ops.length = za2 s.slots := by
       funext t
       exact zjx 0 ops.length (fun j _ hj hL => by have := z j hj; simp only at this; rw [this] at hL; cases hL) (by omega)
     have h2 : gL (fun j => es.getD j nothing) (za2 s.objs) (fun i => (Array.replicate ops.length false).getD i false) ops.length = za2 s.objs := by
       funext t
       exact zjx 0 ops.length (fun j _ hj hL => by have := z j hj; simp only at this; rw [this] at hL; cases hL) (by omega)
     have h3 : cL (fun j => es.getD j nothing) (zcf s.ice) (fun i => (Array.replicate ops.length false).getD i false) ops.length = zcf s.ice := by
       funext t
       exact znj 0 ops.length (fun j _ hj => z j hj) (by omega)
     rw [h1, h2, h3]
     obtain ⟨D, μ, hs⟩ := hs.1
     exact ⟨D, μ, hs.drew⟩
theorem ycq {S : zqt} {Q1 : AV -> Prop} (hT : zcs P T) (hS : zed P S) (hm : P.follows .mixedOrders = true) {draw : Bool} (hB : ycr nt draw ops = true) {id : Nat} {s : St} {a : Act} {w : World} (hs : znm base M W nt s a w)
   {k : St -> zcp} (h : Sat P Q1 (ztl T std S draw ops s k)) {Q : Exit -> Act -> World -> Prop} (hQ : ∀ s' a' w', znm base M W nt s' a' w' -> Sat P Q1 (k s') -> Q .normal a' w') :
   (Code.region id ops.toArray draw).wp P Q a w := by
 unfold ztl at h
 split at h
 rotate_left
 · exact zye hT hS hm hB hs h hQ
 rename_i v hch
 cases draw with
 | false => cases hch
 | true =>
   simp only [cond_true] at hch
   unfold yfr at hch
   split at hch
   rotate_left
   · cases hch
   rename_i o0 o1 o2 o3
   split at hch
   rotate_left
   · cases hch
   split at hch
   rotate_left
   · cases hch
   rename_i d1 d2 d3 d4 hng
   unfold ycr at hB
   rw [Bool.and_eq_true, List.all_eq_true] at hB
   have hops : ∀ o ∈ [o0, o1, o2, o3], ym1 nt o := fun o ho => ydb (hB.1 o ho)
   have hD := zsa (by simpa using hB.2 : zn7 [o0, o1, o2, o3] 0 [o0, o1, o2, o3] = true)
   obtain ⟨n0, n1, n2, n3⟩ : o0.guard = none /\ o1.guard = none /\ o2.guard = none /\ o3.guard = none := by
     simp only [zu5] at hng
     cases e0 : o0.guard <;> cases e1 : o1.guard <;> cases e2 : o2.guard <;> cases e3 : o3.guard <;> simp_all
   obtain ⟨es, s1, hW, hk1, h⟩ := zfu hS [o0] 0 s [] hs.2 h
   cases h with
   | and hA hB2 =>
     obtain ⟨esA, sA, hWA, hkA, hA⟩ := zfu hS [o1, o2, o3] 1 s1 [] hk1 hA
     obtain ⟨esB, sB, hWB, hkB, hB2⟩ := zfu hS [o2, o1, o3] 1 s1 [] hk1 hB2
     obtain ⟨sA', q1, q2, q3, hkA', hA⟩ := zoi hkA hA
     obtain ⟨sB', p1, p2, p3, hkB', hB2⟩ := zoi hkB hB2
     match es, hW with
     | [e0], ⟨x0, _, w0, w0', w0''⟩ =>
       match esA, hWA with
       | [a1, a2, a3], ⟨xa1, _, xa2, _, xa3, _, wa, wa', wa''⟩ =>
         match esB, hWB with
         | [b1, b2, b3], ⟨xb1, _, xb2, _, xb3, _, wb, wb', wb''⟩ =>
           refine wp_region_any hm ?_
           obtain ⟨D, μ, hs0⟩ := hs.1
           rw [w0, w0', w0''] at xa1 xa2 xa3 xb1 xb2 xb3
           rw [w0] at wa wb
           rw [w0'] at wa' wb'
           rw [w0''] at wa'' wb''
           refine yfq hT hops hD d1 d2 d3 d4
             (h0 := fun a w K hs hK => zpm hT hs hops rfl x0 hK)
             (h1 := fun a w K hs hK => zpm hT hs hops rfl xa1 hK)
             (h2 := fun a w K hs hK => zpm hT hs hops rfl xa2 hK)
             (h3 := fun a w K hs hK => zpm hT hs hops rfl xa3 hK)
             (h1' := fun a w K hs hK => zpm hT hs hops rfl xb1 hK)
             (h2' := fun a w K hs hK => zpm hT hs hops rfl xb2 hK)
             (h3' := fun a w K hs hK => zpm hT hs hops rfl xb3 hK)
             (hQ := fun a w hs => hQ sA' a w ⟨?_, hkA'⟩ hA) (hQ' := fun a w hs => hQ sB' a w ⟨?_, hkB'⟩ hB2) ⟨D, μ, hs0.drew⟩
           · rw [q1, q2, q3, wa, wa', wa'']; exact hs
           · rw [p1, p2, p3, wb, wb', wb'']; exact hs
end
end Sy
end Go.Proofs.YtcgikjfloloekaaGreatDoor
namespace Go.Proofs.YtcgikjfloloekaaGreatDoor
namespace Sy
open Go Go.RowKit
set_option linter.unusedSimpArgs false
set_option linter.unusedVariables false
set_option linter.unusedSectionVars false
section
variable {P : Program} {Q : AV -> Prop} {base : Nat} {M : Two} {W : World} {nt : Nat} {s tm : St} {a : Act} {w : World} {hold : List Nat} {next : zcp}
def frz (ice : List Nat) (objs : List (Nat × Ob)) (F : List (Nat × Option Nat)) : List Nat := match objs with
 | [] => []
 | (t, _) :: r => match za2 F t with
   | some (some id) => if zcf ice t = true then id :: frz ice r F else frz ice r F
   | _ => frz ice r F
theorem zn2 {ice : List Nat} {F : List (Nat × Option Nat)} : ∀ {objs : List (Nat × Ob)} {id : Nat}, id ∈ frz ice objs F -> ∃ t, za2 F t = some (some id) /\ zcf ice t = true /\ za2 objs t ≠ none
 | [], id, h => by cases h
 | (t, o) :: r, id, h => by
   unfold frz at h
   have up : ∀ {t'}, za2 r t' ≠ none -> za2 ((t, o) :: r) t' ≠ none := by
     intro t' h
     unfold za2
     split
     · simp
     · exact h
   split at h
   · rename_i k hk
     split at h
     · rename_i e
       rcases List.mem_cons.1 h with rfl | h
       · exact ⟨t, hk, e, by simp [za2, za6]⟩
       · obtain ⟨t', h1, h2, h3⟩ := zn2 h; exact ⟨t', h1, h2, up h3⟩
     · obtain ⟨t', h1, h2, h3⟩ := zn2 h; exact ⟨t', h1, h2, up h3⟩
   · obtain ⟨t', h1, h2, h3⟩ := zn2 h; exact ⟨t', h1, h2, up h3⟩
theorem ydw {ice : List Nat} {F : List (Nat × Option Nat)} : ∀ {objs : List (Nat × Ob)} {id t : Nat}, za2 F t = some (some id) -> zcf ice t = true -> za2 objs t ≠ none -> id ∈ frz ice objs F
 | [], id, t, _, _, h => by simp [za2] at h
 | (k, o) :: r, id, t, h1, h2, h3 => by
   unfold frz
   unfold za2 at h3
   cases e : zan k t with
   | true =>
     have := za4 e; subst this
     rw [h1]
     simp only
     rw [if_pos h2]
     simp
   | false =>
     rw [e] at h3
     have ih := ydw (objs := r) h1 h2 h3
     split
     · split
       · exact List.mem_cons_of_mem _ ih
       · exact ih
     · exact ih
theorem zml : ∀ {F : List (Nat × Option Nat)}, ztt F = true -> ∀ t x, za2 F t = some x -> zgs t = true -> x = some t
 | [], _, t, x, h, _ => by cases h
 | (k, y) :: r, e, t, x, h, hp => by
   unfold ztt at e
   unfold za2 at h
   split at h
   · rename_i hb
     have hk := za4 hb; subst hk
     cases h
     rw [hp] at e
     simp only at e
     split at e
     · rename_i hi; exact yec hi
     · cases e
   · have e' : ztt r = true := by
       split at e
       · split at e
         · exact e
         · cases e
       · exact e
     exact zml e' t x h hp
theorem ysm {pin : Nat -> Option (Nat × Nat × Nat)} {μ : Mu} {F : List (Nat × Option Nat)} (h : ∀ id y, zgs id = true -> μ id = some y -> y = pin id) (hF : ztt F = true) {id : Nat} {y : Option (Nat × Nat × Nat)} (hp : zgs id = true) (hy : zfs μ F id = some y) : y = pin id := by
 unfold zfs at hy
 split at hy
 · rename_i k hk
   have := zml hF id _ hk hp
   cases this
   exact h id y hp hy
 · rename_i hk
   have := zml hF id _ hk hp
   cases this
 · cases hy
theorem ydx (hs : znm base M W nt s a w) (h : Sat P Q (zyv s tm hold next)) (hkn : tm.kn = []) : znm base M W nt tm a w /\ Sat P Q next := by
 unfold zyv at h
 split at h
 · rename_i m1 e1
   split at h
   · rename_i m2 e2
     split at h
     · rename_i hin hice hpin
       obtain ⟨hps, hnext⟩ := zj8 h
       refine ⟨?_, hnext⟩
       obtain ⟨⟨D, μ, S⟩, _⟩ := hs
       let F := m2.ids
       obtain ⟨x2, -⟩ := zdt (h := w.heap) (D := D) (μ := μ) e2
       obtain ⟨x1, -⟩ := zfi (h := w.heap) (D := D) (μ := μ) (a := a) e1
       have hF2 : Fin m2 F := ⟨fun _ _ h => h, hps⟩
       have hF1 : Fin m1 F := hF2.of x2
       have hInj : Inj F := x2.inj (x1.inj fun t t' id h1 h2 => by
         have q1 := zr8 h1; have q2 := zr8 h2
         simp only [Option.some.injEq] at q1 q2
         rw [<- q1, <- q2])
       have hal : ∀ id, id ∈ frz tm.ice tm.objs F -> ∃ o, za2 s.objs id = some o /\ o ≠ .gone := by
         intro id hid
         obtain ⟨t, h1, h2, h3⟩ := zn2 hid
         obtain ⟨o, ho⟩ := Option.ne_none_iff_exists'.1 h3
         obtain ⟨x2', r2⟩ := zdt (h := w.heap) (D := D) (μ := μ) e2
         obtain ⟨x, hx, hp⟩ := (r2 F hF2 t o ho).pair
         rw [h1] at hx
         cases hx
         obtain ⟨_, o', ho', hne, _⟩ := hp
         exact ⟨o', ho', hne⟩
       have S' := S.freeze (frz tm.ice tm.objs F) hal
       obtain ⟨_, r1⟩ := zfi (h := w.heap) (D := fun b => D b \/ ∃ id z m, id ∈ frz tm.ice tm.objs F /\ μ id = some (some (b, z, m))) (μ := μ) (a := a) e1
       obtain ⟨_, r2⟩ := zdt (h := w.heap) (D := fun b => D b \/ ∃ id z m, id ∈ frz tm.ice tm.objs F /\ μ id = some (some (b, z, m))) (μ := μ) e2
       generalize hDD : (fun b => D b \/ ∃ id z m, id ∈ frz tm.ice tm.objs F /\ μ id = some (some (b, z, m))) = D' at S' r1 r2
       have r1 := r1 F hF1 S'.slots
       have r2 := r2 F hF2
       have pl : ∀ tid b z, zfs μ F tid = some (some (b, z)) -> ∃ id, za2 F tid = some (some id) /\ μ id = some (some (b, z)) := by
         intro tid b z hm
         unfold zfs at hm
         split at hm
         · rename_i id hid; exact ⟨id, hid, hm⟩
         · cases hm
         · cases hm
       have obj : ∀ tid id, za2 F tid = some (some id) -> ∃ o', za2 s.objs id = some o' /\ o' ≠ .gone /\ (zcf s.ice id = true -> zcf tm.ice tid = true) := by
         intro tid id hid
         obtain ⟨o, ho⟩ := Option.ne_none_iff_exists'.1 (zjy hin tid _ hid)
         obtain ⟨x, hx, hp⟩ := (r2 tid o ho).pair
         rw [show za2 F tid = za2 m2.ids tid from rfl, hx] at hid
         cases hid
         obtain ⟨h1, o', ho', hne, _⟩ := hp
         exact ⟨o', ho', hne, h1⟩
       refine ⟨⟨D', zfs μ F, { S' with slots := r1, dom := fun id => ?_, obs := fun id o x h1 h2 => ?_, inj := ?_, own := fun id b z hm => ?_, kd := ?_, icy := fun id hc => zs0 hice id hc, pin := fun id y hp hy => ysm S.pin hpin hp hy }⟩, fun t b ht => by rw [hkn] at ht; cases ht⟩
       · constructor
         · intro hm
           refine Decidable.byContradiction fun ho => ?_
           obtain ⟨o, ho⟩ := Option.ne_none_iff_exists'.1 ho
           obtain ⟨x, hx, hp⟩ := (r2 id o ho).pair
           unfold zfs at hm
           rw [hx] at hm
           cases x with
           | none => cases hm
           | some k =>
             simp only at hm hp
             obtain ⟨_, o', ho', _, _⟩ := hp
             have := (S.dom k).1 hm
             rw [ho'] at this; cases this
         · intro ho
           unfold zfs
           cases hf : za2 F id with
           | none => rfl
           | some x => exact absurd ho (zjy hin id x hf)
       · obtain ⟨y, hy, hp⟩ := (r2 id o h1).pair
         unfold zfs at h2
         rw [hy] at h2
         cases y with
         | none => cases h2; exact hp
         | some k =>
           simp only at h2 hp
           obtain ⟨_, o', ho', _, hr⟩ := hp
           exact hr x (S'.obs k o' x ho' h2)
       · intro id id' b z z' o o' h1 h2 _ _ _ _
         obtain ⟨k, hk, hm⟩ := pl id b z h1
         obtain ⟨k', hk', hm'⟩ := pl id' b z' h2
         obtain ⟨q, hq, hqn, _⟩ := obj id k hk
         obtain ⟨q', hq', hqn', _⟩ := obj id' k' hk'
         have := S.inj k k' b z z' q q' hm hm' hq hq' hqn hqn'
         subst this
         exact hInj _ _ _ hk hk'
       · obtain ⟨k, hk, hm⟩ := pl id b z hm
         exact S.own k b z hm
       · intro id b z o h1 h2 h3
         obtain ⟨k, hk, hm⟩ := pl id b z h1
         obtain ⟨q, hq, hqn, hic⟩ := obj id k hk
         have K := S'.kd k b z q hm hq hqn
         refine ⟨fun hc => K.1 ?_, fun hc => K.2 ?_⟩
         · unfold zlw
           rw [zcq.2 (ydw hk hc (by rw [h2]; simp))]; rfl
         · unfold zlw
           rw [Bool.or_eq_false_iff]
           refine ⟨?_, ?_⟩
           · cases hl : zcf (frz tm.ice tm.objs F) k with
             | false => rfl
             | true =>
               obtain ⟨t, t1, t2, _⟩ := zn2 (zcq.1 hl)
               have := hInj _ _ _ t1 hk
               subst this
               rw [hc] at t2; cases t2
           · cases hl : zcf s.ice k with
             | false => rfl
             | true => have := hic hl; rw [hc] at this; cases this
     · cases h
   · cases h
 · cases h
theorem zmr (hs : znm base M W nt s a w) (h : Sat P Q (zyv s tm hold next)) : ∀ n o, za2 tm.objs n = some o -> o ≠ .gone := by
 unfold zyv at h
 split at h
 · rename_i m1 e1
   split at h
   · rename_i m2 e2
     split at h
     · obtain ⟨hps, hnext⟩ := zj8 h
       intro n o ho
       obtain ⟨x2, r2⟩ := zdt (h := #[]) (D := fun _ => False) (μ := zav) e2
       exact (r2 m2.ids ⟨fun _ _ h => h, hps⟩ n o ho).live
     · cases h
   · cases h
 · cases h
end
end Sy
end Go.Proofs.YtcgikjfloloekaaGreatDoor
namespace Go.Proofs.YtcgikjfloloekaaGreatDoor
namespace Sy
open Go Go.RowKit
set_option linter.unusedSimpArgs false
set_option linter.unusedVariables false
set_option linter.unusedSectionVars false
def yrq : Ex -> Exit
 | .normal => .normal
 | .exit id => .exit id
 | .goto l => .goto l
 | .ret => .ret
def zhl : Code -> List Code
 | .seq a b => zhl a ++ zhl b
 | .skip => []
 | .label _ => []
 | c => [c]
def WPl (P : Program) : List Code -> (Exit -> Act -> World -> Prop) -> Act -> World -> Prop
 | [], Q, a, w => Q .normal a w
 | c :: cs, Q, a, w => c.wp P (Exit.then (WPl P cs Q) Q) a w
theorem zgl {P : Program} {Q : Exit -> Act -> World -> Prop} : Exit.then (WPl P [] Q) Q = Q := by
 funext e a w; cases e <;> rfl
theorem yas {P : Program} {ys : List Code} {Q : Exit -> Act -> World -> Prop} : ∀ {xs : List Code}, WPl P (xs ++ ys) Q = WPl P xs (Exit.then (WPl P ys Q) Q)
 | [] => rfl
 | c :: xs => by
   funext a w
   show c.wp P (Exit.then (WPl P (xs ++ ys) Q) Q) a w = c.wp P (Exit.then (WPl P xs (Exit.then (WPl P ys Q) Q)) (Exit.then (WPl P ys Q) Q)) a w
   rw [yas (xs := xs)]
   congr 1
   funext e a w
   cases e <;> rfl
theorem yat {P : Program} {c : Code} {Q : Exit -> Act -> World -> Prop} {a : Act} {w : World} (h : WPl P [c] Q a w) : c.wp P Q a w := by
 have : c.wp P (Exit.then (WPl P [] Q) Q) a w := h
 rwa [zgl] at this
theorem zet {P : Program} : ∀ {c : Code} {Q : Exit -> Act -> World -> Prop} {a : Act} {w : World}, WPl P (zhl c) Q a w -> c.wp P Q a w := by
 intro c
 induction c with
 | seq x y ih1 ih2 =>
   intro Q a w h
   unfold zhl at h
   rw [yas] at h
   refine wp_seq (wp_mono (ih1 h) fun e a w hq => ?_)
   cases e with
   | normal => exact ih2 hq
   | _ => exact hq
 | skip => intro Q a w h; exact wp_skip h
 | label l => intro Q a w h; exact wp_label h
 | _ => intro Q a w h; exact yat h
def zl3 : List Nat -> Bool
 | [] => true
 | x :: xs => !zcf xs x && zl3 xs
def zck (nt : Nat) : Code -> Bool
 | .region _ ops d => ycr nt d ops.toList
 | .seq a b => zck nt a && zck nt b
 | .cond _ a b => zck nt a && zck nt b
 | .block _ b => zck nt b
 | .loop b => zck nt b
 | .scope b => zl3 (zdx b) && zck nt b
 | _ => true
theorem zqg : ∀ {c : Code} {l : Nat} {r : Code}, findLabel c l = some r -> l ∈ zdx c := by
 intro c
 induction c with
 | seq a b ih1 ih2 =>
   intro l r h
   unfold findLabel at h
   simp only [zdx, zaq, List.mem_append]
   cases e : findLabel a l with
   | some x => exact .inl (ih1 e)
   | none => rw [e] at h; exact .inr (ih2 h)
 | label l' =>
   intro l r h
   unfold findLabel at h
   split at h
   · rename_i e; simp [zdx, beq_iff_eq.1 e]
   · cases h
 | _ => intro l r h; simp [findLabel] at h
theorem yex {nt : Nat} : ∀ {c : Code} {l : Nat} {r : Code}, findLabel c l = some r -> zck nt c = true -> zck nt r = true := by
 intro c
 induction c with
 | seq a b ih1 ih2 =>
   intro l r h hc
   unfold zck at hc
   rw [Bool.and_eq_true] at hc
   unfold findLabel at h
   cases e : findLabel a l with
   | some x =>
     rw [e] at h
     cases h
     unfold zck
     rw [Bool.and_eq_true]
     exact ⟨ih1 e hc.1, hc.2⟩
   | none => rw [e] at h; exact ih2 h hc.2
 | label l' =>
   intro l r h _
   unfold findLabel at h
   split at h
   · cases h; rfl
   · cases h
 | _ => intro l r h; simp [findLabel] at h
theorem ydl {xs ys : List Nat} (h : zl3 (xs ++ ys) = true) : zl3 xs = true /\ zl3 ys = true /\ ∀ l, l ∈ xs -> l ∉ ys := by
 induction xs with
 | nil => exact ⟨rfl, h, fun l hl => by cases hl⟩
 | cons x xs ih =>
   simp only [List.cons_append, zl3, Bool.and_eq_true, Bool.not_eq_true'] at h |-
   obtain ⟨h1, h2⟩ := h
   obtain ⟨i1, i2, i3⟩ := ih h2
   have hx : x ∉ xs ++ ys := fun hm => by rw [zcq.2 hm] at h1; cases h1
   simp only [List.mem_append, not_or] at hx
   refine ⟨⟨?_, i1⟩, i2, fun l hl => ?_⟩
   · cases e : zcf xs x with
     | false => rfl
     | true => exact absurd (zcq.1 e) hx.1
   · rcases List.mem_cons.1 hl with rfl | hl
     · exact hx.2
     · exact i3 l hl
theorem yey : ∀ {c : Code} {l0 l : Nat} {r c' : Code}, zl3 (zdx c) = true -> findLabel c l0 = some r -> findLabel r l = some c' -> ∃ c'', findLabel c l = some c'' /\ zhl c'' = zhl c' := by
 intro c
 induction c with
 | seq a b ih1 ih2 =>
   intro l0 l r c' hn h h'
   simp only [zdx, zaq] at hn
   obtain ⟨n1, n2, n3⟩ := ydl hn
   have none_of : ∀ {x}, findLabel b l = some x -> findLabel a l = none := by
     intro x hx
     cases e : findLabel a l with
     | none => rfl
     | some y => exact absurd (zqg hx) (n3 l (zqg e))
   unfold findLabel at h
   cases e : findLabel a l0 with
   | some x =>
     rw [e] at h
     cases h
     unfold findLabel at h'
     cases e' : findLabel x l with
     | some y =>
       rw [e'] at h'
       cases h'
       obtain ⟨c'', h1, h2⟩ := ih1 n1 e e'
       exact ⟨.seq c'' b, by simp [findLabel, h1], by simp [zhl, h2]⟩
     | none =>
       rw [e'] at h'
       exact ⟨c', by simp only [findLabel]; rw [none_of h']; exact h', rfl⟩
   | none =>
     rw [e] at h
     obtain ⟨c'', h1, h2⟩ := ih2 n2 h h'
     exact ⟨c'', by simp only [findLabel]; rw [none_of h1]; exact h1, h2⟩
 | label l' =>
   intro l0 l r c' _ h h'
   unfold findLabel at h
   split at h
   · cases h; simp [findLabel] at h'
   · cases h
 | _ => intro l0 l r c' _ h; simp [findLabel] at h
inductive yre (P : Program) (Q : Exit -> Act -> World -> Prop) (body : Code) : Code -> Act -> World -> Prop
 | mk {c : Code} {a : Act} {w : World} (R : Exit -> Act -> World -> Prop) (h : c.wp P R a w)
     (hn : ∀ e a' w', R e a' w' -> (∀ l rest, e = .goto l -> findLabel body l = some rest -> False) -> Q e a' w')
     (hg : ∀ l rest a' w', R (.goto l) a' w' -> findLabel body l = some rest -> yre P Q body rest a' w') : yre P Q body c a w
def Qg (P : Program) (Q : Exit -> Act -> World -> Prop) (body : Code) : Exit -> Act -> World -> Prop
 | .goto l, a, w => match findLabel body l with
   | some rest => yre P Q body rest a w
   | none => Q (.goto l) a w
 | e, a, w => Q e a w
theorem yek {P : Program} {Q : Exit -> Act -> World -> Prop} {body c : Code} {a : Act} {w : World} (h : c.wp P (Qg P Q body) a w) : yre P Q body c a w := by
 refine .mk _ h (fun e a' w' hq hno => ?_) (fun l rest a' w' hq hf => ?_)
 · cases e with
   | goto l =>
     simp only [Qg] at hq
     split at hq
     · rename_i rest hf; exact (hno l rest rfl hf).elim
     · exact hq
   | _ => exact hq
 · simp only [Qg] at hq
   rw [hf] at hq
   exact hq
theorem yp4 {P : Program} {Q : Exit -> Act -> World -> Prop} {body : Code} {c : Code} {a : Act} {w : World} (g : yre P Q body c a w) :
   ∀ (b : Frame) (k : List Item) (cs : List Frame), ∃ e a' w', Q e a' w' /\ Arrives P (lone (b.at a (.code c :: .inScope body :: k)) cs w) b k cs e a' w' := by
 induction g with
 | mk R h hn hg ih =>
   intro b k cs
   obtain ⟨e, a₁, w₁, hq, harr⟩ := h b (.inScope body :: k) cs
   cases e with
   | normal => exact ⟨.normal, a₁, w₁, hn _ _ _ hq (fun _ _ h => by cases h), Steps.trans harr (.one step_inScope)⟩
   | exit id => exact ⟨.exit id, a₁, w₁, hn _ _ _ hq (fun _ _ h => by cases h), fun k' hk => harr k' (by simp [exitTo, hk])⟩
   | goto l =>
     cases hf : findLabel body l with
     | some rest =>
       obtain ⟨e₂, a₂, w₂, hq₂, harr₂⟩ := ih l rest a₁ w₁ hq hf b k cs
       exact ⟨e₂, a₂, w₂, hq₂, .of_steps (harr _ (by simp [gotoIn, hf])) harr₂⟩
     | none =>
       refine ⟨.goto l, a₁, w₁, hn _ _ _ hq (fun l' r h hf' => by cases h; rw [hf] at hf'; cases hf'), fun k' hk => harr k' (by simp [gotoIn, hf, hk])⟩
   | ret => exact ⟨_, a₁, w₁, hn _ _ _ hq (fun _ _ h => by cases h), harr⟩
   | panic ch => exact ⟨_, a₁, w₁, hn _ _ _ hq (fun _ _ h => by cases h), harr⟩
   | outgrown => exact ⟨_, a₁, w₁, hn _ _ _ hq (fun _ _ h => by cases h), harr⟩
theorem zoz {P : Program} {Q : Exit -> Act -> World -> Prop} {body : Code} {a : Act} {w : World} (g : yre P Q body body a w) : (Code.scope body).wp P Q a w := by
 intro b k cs
 obtain ⟨e, a₁, w₁, hq, harr⟩ := yp4 g b k cs
 exact ⟨e, a₁, w₁, hq, .of_steps (.one step_scope) harr⟩
section
variable {P : Program} {T : TT} {S : zqt} {lo lb : Nat -> St -> Option Ann} {base : Nat} {M : Two} {W : World} {nt : Nat} {Q1 : AV -> Prop}
def Kon (P : Program) (base : Nat) (M : Two) (W : World) (nt : Nat) (Q1 : AV -> Prop) (k : K) (Q : Exit -> Act -> World -> Prop) : Prop := ∀ e s a w, znm base M W nt s a w -> Sat P Q1 (k e s) -> Q (yrq e) a w
def ScOk (P : Program) (base : Nat) (M : Two) (W : World) (nt : Nat) (Q1 : AV -> Prop) (sc : Code -> St -> K -> zcp) : Prop :=
 ∀ body s k Q a w, zck nt (.scope body) = true -> znm base M W nt s a w -> Sat P Q1 (sc body s k) -> Kon P base M W nt Q1 k Q -> (Code.scope body).wp P Q a w
theorem zi5 {an : Ann} {ks : List (Nat × AV)} {ko : List (Nat × Ob)} {ice : List Nat} {m : Option Nat} {s : St} {a : Act} {w : World} (hs : znm base M W nt s a w) (h : Sat P Q1 (zio an ks ko ice m s)) :
   ∃ x, an.inv x /\ (∀ m0, m = some m0 -> an.mu x < m0) /\ znm base M W nt (an.st ks ko ice x) a w := by
 unfold zio at h
 cases h with
 | ex x h =>
   obtain ⟨h1, h2⟩ := ydx hs h rfl
   cases h2 with
   | must h3 h4 =>
     refine ⟨x, h3, fun m0 hm => ?_, h1⟩
     subst hm
     cases h4 with | must h5 _ => exact h5
theorem yc3 {sc : Code -> St -> K -> zcp} {A : Nat -> Bool} {id : Nat} {b : Code} (hb : ∀ body, b ≠ .loop body) {s : St} {k : K} :
   run T std S lo sc A (.block id b) s k = run T std S lo sc noL b s (fun e s' => match e with
   | .exit j => match zan j id with
     | true => k .normal s'
     | false => k (.exit j) s'
   | e => k e s') := by
 cases b <;> first | rfl | exact absurd rfl (hb _)
def yqp (P : Program) (T : TT) (S : zqt) (lo : Nat -> St -> Option Ann) (base : Nat) (M : Two) (W : World) (nt : Nat) (Q1 : AV -> Prop) (sc : Code -> St -> K -> zcp) (c : Code) : Prop := zck nt c = true ->
   ∀ (A : Nat -> Bool) (s : St) (k : K) (Q : Exit -> Act -> World -> Prop) (ys : List Code) (a : Act) (w : World), znm base M W nt s a w -> Sat P Q1 (run T std S lo sc A c s k) ->
   Kon P base M W nt Q1 k (Exit.then (WPl P ys Q) Q) ->
   (∀ l c' s' a' w', A l = true -> findLabel c l = some c' -> znm base M W nt s' a' w' -> Sat P Q1 (k (.goto l) s') -> WPl P (zhl c' ++ ys) Q a' w') -> WPl P (zhl c ++ ys) Q a w
theorem ymv (hT : zcs P T) (hS : zed P S) (hm : P.follows .mixedOrders = true) {sc : Code -> St -> K -> zcp} (hsc : ScOk P base M W nt Q1 sc) : ∀ (c : Code),
   yqp P T S lo base M W nt Q1 sc c /\ (∀ body, c = .loop body -> yqp P T S lo base M W nt Q1 sc body) := by
 intro c
 induction c with
 | skip => refine ⟨?_, fun body e => by cases e⟩; intro _ A s k Q ys a w hs h hk _; exact hk .normal s a w hs h
 | region id ops d =>
   refine ⟨?_, fun body e => by cases e⟩
   intro hc A s k Q ys a w hs h hk _
   show (Code.region id ops d).wp P (Exit.then (WPl P ys Q) Q) a w
   have := ycq (id := id) (Q := Exit.then (WPl P ys Q) Q) hT hS hm hc hs h (fun s' a' w' hs' h' => hk .normal s' a' w' hs' h')
   simpa using this
 | seq x y ih1 ih2 =>
   refine ⟨?_, fun body e => by cases e⟩
   intro hc A s k Q ys a w hs h hk hl
   unfold zck at hc
   rw [Bool.and_eq_true] at hc
   show WPl P ((zhl x ++ zhl y) ++ ys) Q a w
   rw [List.append_assoc]
   refine ih1.1 hc.1 A s _ Q (zhl y ++ ys) a w hs h (fun e s' a' w' hs' h' => ?_) (fun l c' s' a' w' hA hf hs' h' => ?_)
   · cases e with
     | normal =>
       refine ih2.1 hc.2 _ s' k Q ys a' w' hs' h' hk (fun l c' s2 a2 w2 hA hf hs2 h2 => hl l c' s2 a2 w2 ?_ ?_ hs2 h2)
       · split at hA
         · cases hA
         · exact hA
       · split at hA
         · cases hA
         · rename_i e; simp only [findLabel]; rw [e]; exact hf
     | exit id => exact hk (.exit id) s' a' w' hs' h'
     | goto l => exact hk (.goto l) s' a' w' hs' h'
     | ret => exact hk .ret s' a' w' hs' h'
   · have := hl l (.seq c' y) s' a' w' hA (by simp [findLabel, hf]) hs' h'
     simpa [zhl] using this
 | cond x p q ih1 ih2 =>
   refine ⟨?_, fun body e => by cases e⟩
   intro hc A s k Q ys a w hs h hk _
   unfold zck at hc
   rw [Bool.and_eq_true] at hc
   show (Code.cond x p q).wp P (Exit.then (WPl P ys Q) Q) a w
   have yes : ∀ (k1 : K) (s1 : St), znm base M W nt s1 a w -> Sat P Q1 (run T std S lo sc noL p s1 k1) -> Kon P base M W nt Q1 k1 (Exit.then (WPl P ys Q) Q) -> p.wp P (Exit.then (WPl P ys Q) Q) a w := fun k1 s1 h1 h2 hk1 => zet (by
     have := ih1.1 hc.1 noL s1 k1 (Exit.then (WPl P ys Q) Q) [] a w h1 h2 (by rw [zgl]; exact hk1) (fun l c' s' a' w' hA => by cases hA)
     simpa using this)
   have no : ∀ (k1 : K) (s1 : St), znm base M W nt s1 a w -> Sat P Q1 (run T std S lo sc noL q s1 k1) -> Kon P base M W nt Q1 k1 (Exit.then (WPl P ys Q) Q) -> q.wp P (Exit.then (WPl P ys Q) Q) a w := fun k1 s1 h1 h2 hk1 => zet (by
     have := ih2.1 hc.2 noL s1 k1 (Exit.then (WPl P ys Q) Q) [] a w h1 h2 (by rw [zgl]; exact hk1) (fun l c' s' a' w' hA => by cases hA)
     simpa using this)
   have lit : ∀ b, zmt s.kn x = some b -> a.eval x = .bool b := by
     intro b hb
     cases x with
     | tmp t =>
       obtain ⟨⟨D, μ, S⟩, hkn⟩ := hs
       exact (S.slots t _ (hkn t b hb)).inv_bool
     | const v => cases v <;> simp [zmt] at hb; subst hb; rfl
     | _ => simp [zmt] at hb
   unfold run at h
   split at h
   · rename_i e; exact wp_cond_true (lit true e) (yes k s hs h hk)
   · rename_i e; exact wp_cond_false (lit false e) (no k s hs h hk)
   · split at h
     · rename_i t _ _
       split at h
       · rename_i b hb
         have he : a.eval (.tmp t) = .bool b := by
           obtain ⟨⟨D, μ, S⟩, hkn⟩ := hs
           exact (S.slots t _ hb).inv_bool
         have both : ∀ k1 : K, Kon P base M W nt Q1 k1 (Exit.then (WPl P ys Q) Q) -> Sat P Q1 (.ite b (run T std S lo sc noL p (s.know t true) k1) (run T std S lo sc noL q (s.know t false) k1)) -> (Code.cond (.tmp t) p q).wp P (Exit.then (WPl P ys Q) Q) a w := by
           intro k1 hk1 h
           cases h with
           | ite h1 h2 =>
             refine wp_cond_split he (fun ht => ?_) (fun hf => ?_)
             · subst ht
               exact yes k1 (s.know t true) ⟨hs.1, zf2 hs.2 hb⟩ (h1 rfl) hk1
             · subst hf
               exact no k1 (s.know t false) ⟨hs.1, zf2 hs.2 hb⟩ (h2 rfl) hk1
         split at h
         · exact both k hk h
         · rename_i an _
           split at h
           · rename_i ks _
             split at h
             · rename_i ko _
               cases h with
               | and h1 h2 =>
                 refine both _ (fun e s' a' w' hs' h' => ?_) h1
                 cases e with
                 | normal =>
                   obtain ⟨y, hy, _, hsy⟩ := zi5 hs' h'
                   cases h2 with
                   | all h2 => cases h2 y with
                     | sup h3 => exact hk .normal _ a' w' hsy (h3 hy)
                 | exit j => exact hk (.exit j) s' a' w' hs' h'
                 | goto l => exact hk (.goto l) s' a' w' hs' h'
                 | ret => exact hk .ret s' a' w' hs' h'
             · cases h
           · cases h
       · cases h
     · cases h
 | block id b ih =>
   refine ⟨?_, fun body e => by cases e⟩
   intro hc A s k Q ys a w hs h hk _
   show (Code.block id b).wp P (Exit.then (WPl P ys Q) Q) a w
   generalize Exit.then (WPl P ys Q) Q = Q' at hk
   by_cases hb : ∃ body, b = .loop body
   · obtain ⟨body, rfl⟩ := hb
     have hbody := ih.2 body rfl hc
     unfold run at h
     split at h
     · rename_i an hlo
       split at h
       · rename_i ks hks
         split at h
         · rename_i ko hko
           cases h with
           | and h1 h2 =>
             obtain ⟨x0, i0, _, s0⟩ := zi5 hs h1
             cases h2 with
             | all h2 =>
               refine wp_block (wp_loop_ghost (fun n a w => ∃ x, an.inv x /\ an.mu x = n /\ znm base M W nt (an.st ks ko s.ice x) a w) (an.mu x0) ⟨x0, i0, rfl, s0⟩ ?_)
               rintro n a1 w1 ⟨x, hx, rfl, hsx⟩
               refine zet ?_
               cases h2 x with
               | sup h3 =>
                 have := hbody noL _ _ (Exit.then (fun a' w' => ∃ n', n' < an.mu x /\ ∃ x, an.inv x /\ an.mu x = n' /\ znm base M W nt (an.st ks ko s.ice x) a' w') (Exit.inBlock id Q')) [] a1 w1 hsx (h3 hx) (fun e s' a' w' hs' h' => ?_) (fun l c' s' a' w' hA => by cases hA)
                 · simpa using this
                 · rw [zgl]
                   cases e with
                   | exit j =>
                     simp only at h'
                     show (if j = id then Q' .normal a' w' else Q' (.exit j) a' w')
                     cases e : zan j id with
                     | true => rw [e] at h'; rw [if_pos (za4 e)]; exact hk .normal s' a' w' hs' h'
                     | false =>
                       rw [e] at h'
                       rw [if_neg (by rintro rfl; rw [za6] at e; cases e)]
                       exact hk (.exit j) s' a' w' hs' h'
                   | normal =>
                     obtain ⟨x', i', m', s2⟩ := zi5 hs' h'
                     exact ⟨an.mu x', m' _ rfl, x', i', rfl, s2⟩
                   | goto l => exact hk (.goto l) s' a' w' hs' h'
                   | ret => exact hk .ret s' a' w' hs' h'
         · cases h
       · cases h
     · cases h
   · rw [yc3 (fun body e => hb ⟨body, e⟩)] at h
     refine wp_block (zet ?_)
     have := ih.1 hc noL s _ (Exit.inBlock id Q') [] a w hs h (fun e s' a' w' hs' h' => ?_) (fun l c' s' a' w' hA => by cases hA)
     · simpa using this
     · rw [zgl]
       cases e with
       | exit j =>
         simp only at h'
         show (if j = id then Q' .normal a' w' else Q' (.exit j) a' w')
         cases e : zan j id with
         | true => rw [e] at h'; rw [if_pos (za4 e)]; exact hk .normal s' a' w' hs' h'
         | false =>
           rw [e] at h'
           rw [if_neg (by rintro rfl; rw [za6] at e; cases e)]
           exact hk (.exit j) s' a' w' hs' h'
       | normal => exact hk .normal s' a' w' hs' h'
       | goto l => exact hk (.goto l) s' a' w' hs' h'
       | ret => exact hk .ret s' a' w' hs' h'
 | exit id => refine ⟨?_, fun body e => by cases e⟩; intro _ A s k Q ys a w hs h hk _; exact wp_exit (hk (.exit id) s a w hs h)
 | goto l => refine ⟨?_, fun body e => by cases e⟩; intro _ A s k Q ys a w hs h hk _; exact wp_goto (hk (.goto l) s a w hs h)
 | ret => refine ⟨?_, fun body e => by cases e⟩; intro _ A s k Q ys a w hs h hk _; exact wp_ret (hk .ret s a w hs h)
 | label l =>
   refine ⟨?_, fun body e => by cases e⟩
   intro _ A s k Q ys a w hs h hk hl
   unfold run at h
   split at h
   · rename_i hA
     exact hl l .skip s a w hA (by simp [findLabel]) hs h
   · exact hk .normal s a w hs h
 | scope b ih =>
   refine ⟨?_, fun body e => by cases e⟩
   intro hc A s k Q ys a w hs h hk _
   exact hsc b s k _ a w hc hs h hk
 | loop b ih => exact ⟨fun _ A s k Q ys a w hs h hk _ => (by cases h), fun body e => by cases e; exact ih.1⟩
 | _ => refine ⟨?_, fun body e => by cases e⟩; intro _ A s k Q ys a w hs h hk _; cases h
theorem yky (hT : zcs P T) (hS : zed P S) (hm : P.follows .mixedOrders = true) {sc : Code -> St -> K -> zcp} (hsc : ScOk P base M W nt Q1 sc) (c : Code) : yqp P T S lo base M W nt Q1 sc c := (ymv hT hS hm hsc c).1
def LabOk (P : Program) (base : Nat) (M : Two) (W : World) (nt : Nat) (lb : Nat -> St -> Option Ann) (body : Code) (bs : St) (Q : Exit -> Act -> World -> Prop) (m : Option Nat) : Prop :=
 ∀ l an rest ks ko x a w, lb l bs = some an -> findLabel body l = some rest -> zq6 bs.slots an.keep = some ks -> zrw bs.objs an.hold = some ko -> an.inv x -> (∀ m0, m = some m0 -> an.mu x < m0) ->
   znm base M W nt (an.st ks ko bs.ice x) a w -> WPl P (zhl rest) (Qg P Q body) a w
def ym0 (P : Program) (T : TT) (S : zqt) (lo lb : Nat -> St -> Option Ann) (base : Nat) (M : Two) (W : World) (nt : Nat) (Q1 : AV -> Prop) (n : Nat) : Prop :=
 ∀ body rest bs s k m Q a w, zl3 (zdx body) = true -> zck nt rest = true -> zck nt body = true -> (rest = body \/ ∃ l, findLabel body l = some rest) -> znm base M W nt s a w -> Sat P Q1 (pass T std S lo lb n body rest s k m bs) ->
   Kon P base M W nt Q1 k Q -> LabOk P base M W nt lb body bs Q m -> WPl P (zhl rest) (Qg P Q body) a w
theorem zqi {body : Code} {bs : St} {ps : Code -> St -> Nat -> zcp} {t : zcp} : ∀ {ls : List Nat}, Sat P Q1 (zgd lb body bs ps ls t) -> Sat P Q1 t /\
   ∀ l, l ∈ ls -> ∀ an rest ks ko, lb l bs = some an -> findLabel body l = some rest -> zq6 bs.slots an.keep = some ks -> zrw bs.objs an.hold = some ko -> ∀ x, an.inv x -> Sat P Q1 (ps rest (an.st ks ko bs.ice x) (an.mu x))
 | [], h => ⟨h, fun l hl => by cases hl⟩
 | l0 :: ls, h => by
   unfold zgd at h
   split at h
   · rename_i an hlb
     split at h
     · rename_i rest hf
       split at h
       · rename_i ks hks
         split at h
         · rename_i ko hko
           cases h with
           | and h1 h2 =>
             obtain ⟨i1, i2⟩ := zqi h2
             refine ⟨i1, fun l hl an' rest' ks' ko' q1 q2 q3 q4 x hx => ?_⟩
             rcases List.mem_cons.1 hl with rfl | hl
             · rw [hlb] at q1; cases q1
               rw [hf] at q2; cases q2
               rw [hks] at q3; cases q3
               rw [hko] at q4; cases q4
               cases h1 with
               | all h1 => cases h1 x with | sup h1 => exact h1 hx
             · exact i2 l hl an' rest' ks' ko' q1 q2 q3 q4 x hx
         · cases h
       · cases h
     · rename_i hf
       obtain ⟨i1, i2⟩ := zqi h
       refine ⟨i1, fun l hl an' rest' ks' ko' q1 q2 => ?_⟩
       rcases List.mem_cons.1 hl with rfl | hl
       · rw [hf] at q2; cases q2
       · exact i2 l hl an' rest' ks' ko' q1 q2
   · rename_i hlb
     obtain ⟨i1, i2⟩ := zqi h
     refine ⟨i1, fun l hl an' rest' ks' ko' q1 => ?_⟩
     rcases List.mem_cons.1 hl with rfl | hl
     · rw [hlb] at q1; cases q1
     · exact i2 l hl an' rest' ks' ko' q1
theorem zvv (n : Nat) (hp : ym0 P T S lo lb base M W nt Q1 n) : ScOk P base M W nt Q1 (zo5 lb (pass T std S lo lb n)) := by
 intro body s k Q a w hc hs h hk
 unfold zck at hc
 rw [Bool.and_eq_true] at hc
 unfold zo5 at h
 obtain ⟨h1, h2⟩ := zqi h
 have lab : ∀ m, ∀ l an rest ks ko x a w, lb l s = some an -> findLabel body l = some rest -> zq6 s.slots an.keep = some ks -> zrw s.objs an.hold = some ko -> an.inv x -> an.mu x = m ->
     znm base M W nt (an.st ks ko s.ice x) a w -> WPl P (zhl rest) (Qg P Q body) a w := by
   intro m
   induction m using Nat.strongRecOn with
   | _ m ih =>
     intro l an rest ks ko x a w q1 q2 q3 q4 hx hm hsx
     subst hm
     refine hp body rest s _ k (some (an.mu x)) Q a w hc.1 (yex q2 hc.2) hc.2 (.inr ⟨l, q2⟩) hsx (h2 l (zqg q2) an rest ks ko q1 q2 q3 q4 x hx) hk ?_
     intro l' an' rest' ks' ko' x' a' w' p1 p2 p3 p4 hx' hlt hs'
     exact ih (an'.mu x') (hlt _ rfl) l' an' rest' ks' ko' x' a' w' p1 p2 p3 p4 hx' rfl hs'
 have := hp body body s s k none Q a w hc.1 hc.2 hc.2 (.inl rfl) hs h1 hk (fun l an rest ks ko x a w q1 q2 q3 q4 hx _ hsx => lab _ l an rest ks ko x a w q1 q2 q3 q4 hx rfl hsx)
 exact zoz (yek (zet this))
theorem yd8 (hT : zcs P T) (hS : zed P S) (hm : P.follows .mixedOrders = true) : ∀ n, ym0 P T S lo lb base M W nt Q1 n
 | 0 => by intro body rest bs s k m Q a w _ _ _ _ _ h; cases h
 | n + 1 => by
   intro body rest bs s k m Q a w hn hr hb hsuf hs h hk hl
   have ih := yd8 hT hS hm n
   unfold pass at h
   have go : ∀ l rest' s' a' w', findLabel body l = some rest' -> znm base M W nt s' a' w' -> Sat P Q1 (jump lb (fun rest' s' => pass T std S lo lb n body rest' s' k m bs) body bs m k (.goto l) s') -> WPl P (zhl rest') (Qg P Q body) a' w' := by
     intro l rest' s' a' w' hf hs' h'
     simp only [jump, hf] at h'
     split at h'
     · rename_i an hlb
       split at h'
       · rename_i ks hks
         split at h'
         · rename_i ko hko
           obtain ⟨x, i1, i2, i3⟩ := zi5 hs' h'
           exact hl l an rest' ks ko x a' w' hlb hf hks hko i1 i2 i3
         · cases h'
       · cases h'
     · exact ih body rest' bs s' k m Q a' w' hn (yex hf hb) hb (.inr ⟨l, hf⟩) hs' h' hk hl
   have := yky hT hS hm (zvv n ih) rest hr _ s _ (Qg P Q body) [] a w hs h (fun e s' a' w' hs' h' => ?_) (fun l c' s' a' w' hA hf hs' h' => ?_)
   · simpa using this
   · rw [zgl]
     cases e with
     | goto l =>
       show Qg P Q body (.goto l) a' w'
       simp only [Qg]
       cases hf : findLabel body l with
       | some rest' => exact yek (zet (go l rest' s' a' w' hf hs' h'))
       | none =>
         simp only [jump, hf] at h'
         exact hk (.goto l) s' a' w' hs' h'
     | normal => exact hk .normal s' a' w' hs' h'
     | exit id => exact hk (.exit id) s' a' w' hs' h'
     | ret => exact hk .ret s' a' w' hs' h'
   · rw [List.append_nil]
     rcases hsuf with rfl | ⟨l0, h0⟩
     · exact go l c' s' a' w' hf hs' h'
     · obtain ⟨c'', e1, e2⟩ := yey hn h0 hf
       rw [<- e2]
       exact go l c'' s' a' w' e1 hs' h'
theorem yfo (hT : zcs P T) (hS : zed P S) (hm : P.follows .mixedOrders = true) {n : Nat} {c : Code} (hc : zck nt c = true) {s : St} {k : K} {Q : Exit -> Act -> World -> Prop} {a : Act} {w : World} (hs : znm base M W nt s a w)
   (h : Sat P Q1 (run T std S lo (zo5 lb (pass T std S lo lb n)) noL c s k)) (hk : Kon P base M W nt Q1 k Q) : c.wp P Q a w := by
 refine zet ?_
 have := yky hT hS hm (zvv n (yd8 hT hS hm n)) c hc noL s k Q [] a w hs h (by rw [zgl]; exact hk) (fun l c' s' a' w' hA => by cases hA)
 simpa using this
end
end Sy
end Go.Proofs.YtcgikjfloloekaaGreatDoor
namespace Go.Proofs.YtcgikjfloloekaaGreatDoor
namespace Sy
open Go Go.RowKit
set_option linter.unusedSimpArgs false
set_option linter.unusedVariables false
set_option linter.unusedSectionVars false
def zso : List Prop -> Prop
 | [] => True
 | p :: r => p /\ zso r
def fits1 (r v : AV) : Prop := match zjs ⟨[], []⟩ r v with
 | some ⟨ps, []⟩ => zso ps
 | _ => False
def zuq : List AV -> List AV -> Prop
 | [], [] => True
 | x :: xs, y :: ys => fits1 x y /\ zuq xs ys
 | _, _ => False
def zh6 (r v : AV) : Prop := match r, v with
 | .tup rs, .tup vs => zuq rs vs
 | r, v => fits1 r v
theorem zxe : ∀ {l : List Prop}, zso l -> ∀ p, p ∈ l -> p
 | [], _, p, h => by cases h
 | q :: l, ⟨h1, h2⟩, p, h => by
   rcases List.mem_cons.1 h with rfl | h
   · exact h1
   · exact zxe h2 p h
theorem yo2 (μ : Mu) : zfs μ [] = zav := rfl
theorem yew {h : Array Obj} {D : Nat -> Prop} {r v : AV} {x : Value} (f : fits1 r v) (hr : R h D zav v x) : R h D zav r x := by
 unfold fits1 at f
 split at f
 · rename_i ps e
   have := (zwj (h := h) (D := D) (μ := zav) e).2 [] x ⟨fun _ _ h => h, zxe f⟩ hr
   rwa [yo2] at this
 · exact f.elim
theorem yet {h : Array Obj} {D : Nat -> Prop} : ∀ {rs vs : List AV}, zuq rs vs -> rs.length = vs.length /\ ∀ (i : Nat) r v x, rs[i]? = some r -> vs[i]? = some v -> R h D zav v x -> R h D zav r x
 | [], [], _ => ⟨rfl, fun i r v x h => by simp at h⟩
 | r :: rs, v :: vs, ⟨f1, f2⟩ => by
   obtain ⟨l1, h1⟩ := yet (h := h) (D := D) f2
   refine ⟨by simp [l1], fun i r' v' x hr hv hx => ?_⟩
   cases i with
   | zero => simp at hr hv; subst hr; subst hv; exact yew f1 hx
   | succ i => exact h1 i r' v' x (by simpa using hr) (by simpa using hv) hx
 | [], _ :: _, f => f.elim
 | _ :: _, [], f => f.elim
theorem ylj {h : Array Obj} {D : Nat -> Prop} {r v : AV} {x : Value} (f : zh6 r v) (hr : R h D zav v x) : R h D zav r x := by
 unfold zh6 at f
 split at f
 · rename_i rs vs
   obtain ⟨us, rfl, l1, h1⟩ := hr.inv_tup
   obtain ⟨l2, h2⟩ := yet (h := h) (D := D) f
   refine .tup _ _ (by rw [l2, l1]) fun i r x hr hx => ?_
   obtain ⟨v, hv⟩ : ∃ v, vs[i]? = some v := ⟨_, List.getElem?_eq_getElem (by rw [<- l2]; exact (List.getElem?_eq_some_iff.1 hr).1)⟩
   exact h2 i r v x hr hv (h1 i v x hv hx)
 · exact yew f hr
theorem zzr {α : Type} (x : Sem α) : x.bind .pure = x := by
 induction x <;> simp only [Sem.bind] <;> (try (congr 1; try funext _)) <;> (first | rfl | (rename_i ih; exact ih _) | (rename_i ih; exact ih) | (rename_i ih _; exact ih _))
theorem zvg {α β γ : Type} (x : Sem α) (f : α -> Sem β) (g : β -> Sem γ) : (x.bind f).bind g = x.bind fun a => (f a).bind g := by
 induction x <;> simp only [Sem.bind] <;> (try (congr 1; try funext _)) <;> (first | rfl | (rename_i ih; exact ih _) | (rename_i ih; exact ih) | (rename_i ih _; exact ih _))
instance : LawfulMonad Sem := LawfulMonad.mk' Sem (fun x => zzr x) (fun _ _ => rfl) (fun x f g => zvg x f g)
theorem zwl {α : Type} {P : Program} {w : World} {k : α -> Sem Value} : ∀ {zs : List α} {us : Nat -> Value}, (∀ (i : Nat) x, zs[i]? = some x -> (k x).run P w = .ok (us i) w) ->
   (zs.mapM k).run P w = .ok ((List.range zs.length).map us) w
 | [], us, h => by simp
 | z :: zs, us, h => by
   have ih := zwl (zs := zs) (us := fun i => us (i + 1)) (fun i x hx => h (i + 1) x (by simpa using hx))
   rw [List.mapM_cons, Sem.run_bind, h 0 z rfl]
   simp only [Result.andThen_ok, Sem.run_bind, ih, Sem.run_pure]
   rw [List.length_cons, List.range_succ_eq_map]
   simp [Function.comp_def]
section
variable {P : Program} {T : TT} {base : Nat} {M : Two} {W : World} {nt : Nat} {s : St} {a : Act} {w : World} {D : Nat -> Prop} {μ : Mu}
def zyc (tmps : Array Value) : ResultVar -> Sem Value
 | .tmp t => pure (tmps.getD t undef)
 | .cell a t => do loadVar t (<- asAddr (tmps.getD a undef))
theorem ys7 (h : Sim base M W nt (za2 s.slots) (za2 s.objs) (zcf s.ice) a w D μ) (hT : zcs P T) {x : ResultVar} {v : AV} (e : yvn T s x = some v) : ∃ u, (zyc a.tmps x).run P w = .ok u w /\ R w.heap D μ v u := by
 have ev : ∀ t, R w.heap D μ (evf (za2 s.slots) [] (.tmp t)) (a.tmps.getD t undef) := fun t => ypi h (fun t b ht => by simp [za2] at ht) (.tmp t) (fun v hv => by cases hv)
 cases x with
 | tmp t =>
   simp only [yvn, Option.some.injEq] at e
   subst e
   exact ⟨_, rfl, ev t⟩
 | cell p t =>
   simp only [yvn] at e
   have hl := zwn h hT (t := t) (ev p) (ob := za2 s.objs) (fun _ _ h => h)
   split at e
   · rename_i v' os ice hc
     rw [hc] at hl
     cases e
     obtain ⟨_, _, y, hy, r⟩ := hl
     refine ⟨y, ?_, r⟩
     simp only [zyc]
     generalize a.tmps.getD p undef = u at *
     unfold Instr.loadAt Instr.sureAddr at hy
     unfold asAddr
     split at hy
     · rename_i q; simpa using hy
     · simp [stuck] at hy
   · cases e
theorem ztk (h : Sim base M W nt (za2 s.slots) (za2 s.objs) (zcf s.ice) a w D μ) (hT : zcs P T) : ∀ {rs : List ResultVar} {vs : List AV}, yco T s rs = some vs ->
   vs.length = rs.length /\ ∃ us : Nat -> Value, (∀ (i : Nat) x, rs[i]? = some x -> (zyc a.tmps x).run P w = .ok (us i) w) /\ ∀ (i : Nat) v, vs[i]? = some v -> R w.heap D μ v (us i)
 | [], vs, e => by cases e; exact ⟨rfl, fun _ => undef, fun i x hx => by simp at hx, fun i x hx => by simp at hx⟩
 | x :: rs, vs, e => by
   unfold yco at e
   split at e
   · rename_i v hv
     split at e
     · rename_i l hl
       cases e
       obtain ⟨u, hu, r⟩ := ys7 h hT hv
       obtain ⟨l1, us, h1, h2⟩ := ztk h hT hl
       refine ⟨by simp [l1], fun i => match i with | 0 => u | i + 1 => us i, fun i x' hx => ?_, fun i v' hv' => ?_⟩
       · cases i with
         | zero => simp at hx; subst hx; exact hu
         | succ i => exact h1 i x' (by simpa using hx)
       · cases i with
         | zero => simp at hv'; subst hv'; exact r
         | succ i => exact h2 i v' (by simpa using hv')
     · cases e
   · cases e
theorem zmg {fn : Func} {tmps : Array Value} {us : Nat -> Value} (h : ∀ (i : Nat) x, fn.results.toList[i]? = some x -> (zyc tmps x).run P w = .ok (us i) w) :
   (results fn tmps).run P w = .ok (if fn.results.size = 1 then us 0 else .tuple ((List.range fn.results.size).map us).toArray) w := by
 have h1 : (fn.results.mapM (zyc tmps)).run P w = .ok ((List.range fn.results.size).map us).toArray w := by
   have e : fn.results = fn.results.toList.toArray := by simp
   rw [e, List.mapM_toArray, map_eq_pure_bind, Sem.run_bind, zwl h]
   simp
 have h2 : results fn tmps = (do
     let vs <- fn.results.mapM (zyc tmps)
     pure (if h : vs.size = 1 then vs[0] else .tuple vs)) := by
   unfold results
   congr 1
 rw [h2, Sem.run_bind, h1]
 simp only [Result.andThen_ok, Sem.run_pure]
 congr 1
 by_cases e : fn.results.size = 1
 · rw [if_pos e, dif_pos (by simp [e])]
   try simp
 · rw [if_neg e, dif_neg (by simp [e])]
end
theorem znl {α : Type} : ∀ (xs : List α) (i t : Nat), za2 (number i xs) t = if i <= t then xs[t - i]? else none
 | [], i, t => by simp [number, za2]
 | x :: xs, i, t => by
   unfold number za2
   cases e : zan i t with
   | true => have := za4 e; subst this; simp
   | false =>
     have hne : i ≠ t := by rintro rfl; rw [za6] at e; cases e
     simp only
     rw [znl xs (i + 1) t]
     by_cases h : i <= t
     · rw [if_pos (by omega), if_pos h]
       obtain ⟨k, hk⟩ : ∃ k, t - i = k + 1 := ⟨t - i - 1, by omega⟩
       rw [hk, show t - (i + 1) = k by omega]
       simp
     · rw [if_neg (by omega), if_neg h]
theorem zd8 {P : Program} {f : FuncId} {fn : Func} {args : Array Value} {w : World} (hf : P.funcs[f]? = some fn) (hn : (fn.name == "runtime.NumGoroutine") = false) {c : Code} (hb : fn.body = some c) :
   (callFunc f args).run P w = .ok (.enter f args) w := by
 have hn' : ¬ fn.name = "runtime.NumGoroutine" := by simpa using hn
 unfold callFunc
 simp [program, Sem.run, hf, hn', hb]
theorem zst {P : Program} {T : TT} {S : zqt} {lo lb : Nat -> St -> Option Ann} {n : Nat} {f : FuncId} {fn : Func} {c : Code} {xs : List AV} {r : AV} (hf : P.funcs[f]? = some fn) (hb : fn.body = some c) (hn : (fn.name == "runtime.NumGoroutine") = false)
   (hc : zck fn.ntmps c = true) (hx : (zcj xs.length fn.ntmps && zcj fn.ntmps 500000) = true) (hT : zcs P T) (hS : zed P S) (hm : P.follows .mixedOrders = true) (h : Sat P (zh6 r) (yvk T std S lo lb n fn xs)) : za7 P f xs r := by
 intro D w vs hD hxs hg
 rw [Bool.and_eq_true] at hx
 have hnb := zc1 hx.2
 have hx := zc1 hx.1
 unfold zfp
 rw [zd8 hf hn hb]
 simp only
 refine calls_of_wp hf hb ?_
 unfold yvk at h
 rw [hb] at h
 refine yfo (base := w.heap.size) (M := ⟨fun _ => False, D, fun _ => none⟩) (W := w) hT hS hm hc ⟨⟨D, zav, ?_⟩, fun t b ht => by simp [za2] at ht⟩ h (fun e s a w' hs h' => ?_)
 · refine { os := rfl, tape := rfl, output := rfl, size := Nat.le_refl _, bs := Nat.le_refl _, old := fun _ _ _ => rfl, defers := rfl, tmps := ?_, slots := fun t v hv => ?_, dlt := hD, low := fun b hb _ => .inl hb, dom := fun id => by simp [za2], obs := fun id o x ho => (by simp [za2] at ho), inj := fun id id' b z z' o o' h => (by cases h), own := fun id b z h => (by cases h), kd := fun id b z o h => (by cases h), icy := fun id h => by (simp [zcf] at h), ntb := hnb, pin := fun id y _ h => (by cases h), gl := ⟨hg, zxh hg, fun _ h => h.elim⟩ }
   · rw [hxs.1] at hx
     simp; omega
   · rw [znl, if_pos (by omega), Nat.sub_zero] at hv
     have hlt : t < vs.size := by rw [<- hxs.1]; exact (List.getElem?_eq_some_iff.1 hv).1
     have h1 : vs[t]? = some vs[t] := by simp [hlt]
     have h2 : (vs ++ Array.replicate (fn.ntmps - vs.size) undef).getD t undef = vs[t] := by
       rw [Array.getD_eq_getD_getElem?, Array.getElem?_append_left hlt, h1]; rfl
     rw [h2]
     exact hxs.2 t v vs[t] hv h1
 · obtain ⟨⟨D1, μ, S1⟩, _⟩ := hs
   have key : Sat P (zh6 r) (yvv T std fn.results.toList s) -> a.defers = [] /\ ∃ v, (results fn a.tmps).run P w' = .ok v w' /\ ∃ v' D', Ending.returned v = .returned v' /\ Below w.heap.size w w' /\ (∀ b, D b -> D' b) /\ (∀ b, D' b -> D b \/ (w.heap.size <= b /\ b < w'.heap.size)) /\ R w'.heap D' zav r v' := by
     intro h'
     unfold yvv at h'
     split at h'
     · rename_i vs1 hvs
       obtain ⟨l1, us, h1, h2⟩ := ztk S1 hT hvs
       have hres := zmg (P := P) (w := w') (fn := fn) (tmps := a.tmps) h1
       have hB : Below w.heap.size w w' := ⟨S1.os, S1.tape, S1.output, S1.size, fun b hb => S1.old b hb (fun h => h)⟩
       have hD' : ∀ b, (D b \/ DF D1 μ (zd9 vs1) b) -> D b \/ (w.heap.size <= b /\ b < w'.heap.size) := by
         rintro b (hb | hb | ⟨id, z, m, _, hm⟩)
         · exact .inl hb
         · by_cases hlt : b < w.heap.size
           · rcases S1.low b hb hlt with h | h
             · exact .inl h
             · exact h.elim
           · exact .inr ⟨by omega, S1.dlt b hb⟩
         · rcases S1.own id b _ hm with ⟨q1, q2 | q2⟩
           · exact .inr ⟨q2, q1⟩
           · exact q2.elim
       have imm : ∀ vs2, immVs std (za2 s.objs) vs1 = some vs2 -> vs2.length = vs1.length /\ ∀ (i : Nat) v, vs2[i]? = some v -> R w'.heap (fun b => D b \/ DF D1 μ (zd9 vs1) b) zav v (us i) := by
         intro vs2 e2
         obtain ⟨i1, _, i3⟩ := zlr S1 (ob := za2 s.objs) (fun _ _ h => h) e2 (ids := zd9 vs1) (fun _ h => h)
         refine ⟨i1, fun i v hv => ?_⟩
         obtain ⟨v1, hv1⟩ : ∃ v1, vs1[i]? = some v1 := ⟨_, List.getElem?_eq_getElem (by rw [<- i1]; exact (List.getElem?_eq_some_iff.1 hv).1)⟩
         exact (i3 i v1 v (us i) hv1 hv (h2 i v1 hv1)).mono (fun _ _ => rfl) (fun b hb => .inr hb) (fun _ _ h => by cases h)
       refine ⟨S1.defers, _, hres, _, fun b => D b \/ DF D1 μ (zd9 vs1) b, rfl, hB, fun b hb => .inl hb, hD', ?_⟩
       split at h'
       · rename_i v1 e2
         cases h' with
         | done h' =>
           obtain ⟨i1, i2⟩ := imm _ e2
           have hsz : fn.results.size = 1 := by rw [<- Array.length_toList, <- l1, <- i1]; rfl
           rw [if_pos hsz]
           exact ylj h' (i2 0 v1 rfl)
       · rename_i vs2 hne e2
         cases h' with
         | done h' =>
           obtain ⟨i1, i2⟩ := imm _ e2
           have hl : vs2.length = fn.results.size := by rw [i1, l1, Array.length_toList]
           have hsz : ¬ fn.results.size = 1 := by
             rw [<- hl]
             intro h1
             obtain ⟨v, hv⟩ := List.length_eq_one_iff.1 h1
             exact hne v hv
           rw [if_neg hsz]
           refine ylj h' (.tup _ _ (by simp [hl]) fun i v x hv hx => ?_)
           have hlt : i < fn.results.size := by rw [<- hl]; exact (List.getElem?_eq_some_iff.1 hv).1
           simp [hlt] at hx
           subst hx
           exact i2 i v hv
       · cases h'
     · cases h'
   cases e with
   | normal => exact key h'
   | ret => exact key h'
   | exit id => cases h'
   | goto l => cases h'
end Sy
end Go.Proofs.YtcgikjfloloekaaGreatDoor
namespace Go.Proofs.YtcgikjfloloekaaGreatDoor
namespace Sy
open Go Go.RowKit
section
variable (a b c : Int) (l m : List UInt8) (n : Nat)
theorem yxq : (ilt a b = true) = (a < b) := by simp [ilt]
theorem yxr : (ilt a b = false) = (b <= a) := by simp [ilt]
theorem yxs : (ile a b = true) = (a <= b) := by simp [ile]
theorem yxt : (ile a b = false) = (b < a) := by simp [ile]
theorem yxv : (ieq a b = true) = (a = b) := by simp [ieq]
theorem yxw : (ieq a b = false) = (a ≠ b) := by simp [ieq]
theorem yxm : (ine a b = true) = (a ≠ b) := by simp [ine]
theorem yxn : (ine a b = false) = (a = b) := by simp [ine]
theorem ywj : (seq l m = true) = (l = m) := by simp [seq]
theorem ywk : (seq l m = false) = (l ≠ m) := by simp [seq]
theorem yop : (inR a b = true) = (0 <= a /\ a < b) := by simp [inR]
theorem yxo : (inS a b c = true) = (0 <= a /\ a <= b /\ b <= c) := by simp [inS, and_assoc]
theorem yxp : (inC a b = true) = (0 <= a /\ a <= b) := by simp [inC]
theorem yt3 (eb : Nat) : (yvq eb a b = true) = (0 <= a /\ a <= b /\ (eb : Int) * b <= 140737488355328 /\ b <= 9223372036854775807) := by simp [yvq, and_assoc]
theorem zlj (eb p q : Nat) : (zdd eb p q = true) = ((p + q) * eb <= 140737488355328 /\ p + q <= 9223372036854775807) := by simp [zdd]
theorem yq1 : (yq2 l m = true) = (l.length + m.length <= 9223372036854775807) := by simp [yq2]
theorem yen (x y : Bool) : zh6 (.bool x) (.bool y) = (y = x) := by simp [zh6, fits1, zjs, zfe, zdl.add, zso]
theorem yjs (k : IntKind) : zh6 (.int k a) (.int k b) = (b = a) := by simp [zh6, fits1, zjs, zfe, zdl.add, zso]
theorem zx0 : zh6 (.str l) (.str m) = (m = l) := by simp [zh6, fits1, zjs, zfe, zdl.add, zso]
theorem zzh (x y : Bool) : fits1 (.bool x) (.bool y) = (y = x) := by simp [fits1, zjs, zfe, zdl.add, zso]
theorem yev (k : IntKind) : fits1 (.int k a) (.int k b) = (b = a) := by simp [fits1, zjs, zfe, zdl.add, zso]
theorem yeu : fits1 (.str l) (.str m) = (m = l) := by simp [fits1, zjs, zfe, zdl.add, zso]
theorem yjr (x y : List AV) : zh6 (.tup x) (.tup y) = zuq x y := rfl
theorem zzg (x y : AV) (r q : List AV) : zuq (x :: r) (y :: q) = (fits1 x y /\ zuq r q) := rfl
theorem yer : zuq [] [] = True := rfl
theorem ymj : slen l = l.length := rfl
theorem ymn : yvc l m = l ++ m := rfl
theorem ymd : ywc l a b = (l.take b.toNat).drop a.toNat := rfl
theorem ymm : zlc l a = (l.getD a.toNat 0).toNat := rfl
theorem yog : lenN l = l.length := rfl
theorem yju (p q r : Nat) : ytu p q r = (p + q <= r) := rfl
theorem yx8 (p : Nat) : Nat.add 0 p = p := Nat.zero_add p
theorem yrh (k : IntKind) : yv5 k a b = k.wrap (a.tdiv b) := rfl
theorem yor : imin a b = min a b := rfl
theorem yos : yvr a b = max a b := rfl
theorem yo1 : zbu n = n := rfl
end
theorem yrl (n : Int) : IntKind.i64.wrap n = (n + 9223372036854775808) % 18446744073709551616 - 9223372036854775808 := by simp [IntKind.wrap, IntKind.bits, IntKind.signed]; omega
theorem yw7 (n : Int) : IntKind.i32.wrap n = (n + 2147483648) % 4294967296 - 2147483648 := by simp [IntKind.wrap, IntKind.bits, IntKind.signed]; omega
theorem ygt (n : Int) : IntKind.u64.wrap n = n % 18446744073709551616 := by simp [IntKind.wrap, IntKind.bits, IntKind.signed]
theorem yw6 (n : Int) : IntKind.u32.wrap n = n % 4294967296 := by simp [IntKind.wrap, IntKind.bits, IntKind.signed]
theorem yrk (n : Int) : IntKind.u16.wrap n = n % 65536 := by simp [IntKind.wrap, IntKind.bits, IntKind.signed]
theorem w_u8 (n : Int) : IntKind.u8.wrap n = n % 256 := by simp [IntKind.wrap, IntKind.bits, IntKind.signed]
theorem zri (ps q : List Prop) (ids : List (Nat × Option Nat)) (x y : Nat) : zhe ⟨ps ++ q, ids⟩ x y = (zhe ⟨ps, ids⟩ x y).map fun m => ⟨m.ps ++ q, m.ids⟩ := by
 unfold zhe
 dsimp only
 repeat' split
 all_goals rfl
theorem zod (ps q : List Prop) (ids : List (Nat × Option Nat)) (x : Nat) : zil ⟨ps ++ q, ids⟩ x = (zil ⟨ps, ids⟩ x).map fun m => ⟨m.ps ++ q, m.ids⟩ := by
 unfold zil
 dsimp only
 split <;> rfl
theorem yil (ps q : List Prop) (ids : List (Nat × Option Nat)) (x y : AV) : zfe ⟨ps ++ q, ids⟩ x y = (zfe ⟨ps, ids⟩ x y).map fun m => ⟨m.ps ++ q, m.ids⟩ := by
 cases x <;> cases y <;> first
   | rfl
   | (simp only [zfe, zdl.add, zri, zod]; done)
   | (simp only [zfe, zdl.add, zri, zod]
      (repeat' split) <;> (try simp_all) <;> (try (rename_i hh _; subst hh; simp)) <;> (try (rename_i hh _ _; subst hh; simp)))
theorem zwi : ∀ (xs ys : List AV) (ps q : List Prop) (ids : List (Nat × Option Nat)), zkp ⟨ps ++ q, ids⟩ xs ys = (zkp ⟨ps, ids⟩ xs ys).map fun m => ⟨m.ps ++ q, m.ids⟩
 | [], [], ps, q, ids => rfl
 | [], _ :: _, ps, q, ids => rfl
 | _ :: _, [], ps, q, ids => rfl
 | x :: xs, y :: ys, ps, q, ids => by
   unfold zkp
   rw [yil]
   cases e : zfe ⟨ps, ids⟩ x y with
   | none => rfl
   | some m => exact zwi xs ys m.ps q m.ids
theorem zxf : ∀ (p : List Prop) (q : Prop), zso (p ++ [q]) = (q /\ zso p)
 | [], q => by simp [zso]
 | a :: p, q => by
   show (a /\ zso (p ++ [q])) = (q /\ a /\ zso p)
   rw [zxf p q]
   exact propext ⟨fun ⟨h1, h2, h3⟩ => ⟨h2, h1, h3⟩, fun ⟨h1, h2, h3⟩ => ⟨h2, h1, h3⟩⟩
theorem zcy {x y : AV} {q : Prop} (e : zfe ⟨[], []⟩ x y = some ⟨[q], []⟩) (xs ys : List AV) : fits1 (.agg (x :: xs)) (.agg (y :: ys)) = (q /\ fits1 (.agg xs) (.agg ys)) := by
 unfold fits1 zjs
 simp only [zkp, e]
 have := zwi xs ys [] [q] []
 rw [List.nil_append] at this
 rw [this]
 cases zkp ⟨[], []⟩ xs ys with
 | none => simp
 | some m =>
   obtain ⟨ps, ids⟩ := m
   cases ids with
   | nil => exact zxf ps q
   | cons a b => simp
theorem zbi : fits1 (.agg []) (.agg []) = True := rfl
theorem zb7 (k : IntKind) (a b : Int) (xs ys : List AV) : fits1 (.agg (.int k a :: xs)) (.agg (.int k b :: ys)) = (b = a /\ fits1 (.agg xs) (.agg ys)) := zcy (by simp [zfe, zdl.add]) _ _
theorem zbh (a b : List UInt8) (xs ys : List AV) : fits1 (.agg (.str a :: xs)) (.agg (.str b :: ys)) = (b = a /\ fits1 (.agg xs) (.agg ys)) := zcy rfl _ _
theorem zgb (a b : Bool) (xs ys : List AV) : fits1 (.agg (.bool a :: xs)) (.agg (.bool b :: ys)) = (b = a /\ fits1 (.agg xs) (.agg ys)) := zcy rfl _ _
theorem zn5 (sz n n' : Nat) (g g' : Nat -> Nat -> AV) : fits1 (.lst sz n g) (.lst sz n' g') = (n' = n /\ ∀ i j, i < n -> j < sz -> g' i j = g i j) := by simp [fits1, zjs, zfe, zdl.add, za6, zso]
theorem zqe (sz n n' : Nat) (g g' : Nat -> Nat -> AV) : zh6 (.lst sz n g) (.lst sz n' g') = (n' = n /\ ∀ i j, i < n -> j < sz -> g' i j = g i j) := zn5 sz n n' g g'
theorem zop (sz n : Nat) (g : Nat -> Nat -> AV) : fits1 (.lst sz n g) .nils = (0 = n) := by simp [fits1, zjs, zfe, zdl.add, zso]
theorem yem (sz n : Nat) (g : Nat -> Nat -> AV) : zh6 (.lst sz n g) .nils = (0 = n) := zop sz n g
theorem zdu (sz n n' : Nat) (g g' : Nat -> Nat -> AV) (xs ys : List AV) : fits1 (.agg (.lst sz n g :: xs)) (.agg (.lst sz n' g' :: ys)) = ((n' = n /\ ∀ i j, i < n -> j < sz -> g' i j = g i j) /\ fits1 (.agg xs) (.agg ys)) := zcy (by simp [zfe, zdl.add, za6]) _ _
theorem zeq (sz n : Nat) (g : Nat -> Nat -> AV) (xs ys : List AV) : fits1 (.agg (.lst sz n g :: xs)) (.agg (.nils :: ys)) = (0 = n /\ fits1 (.agg xs) (.agg ys)) := zcy rfl _ _
theorem zs5 (n : Nat) (g g' : Nat -> AV) : fits1 (.arr n g) (.arr n g') = (∀ j, j < n -> g' j = g j) := by simp [fits1, zjs, zfe, zdl.add, za6, zso]
theorem yjt (n : Nat) (g g' : Nat -> AV) : zh6 (.arr n g) (.arr n g') = (∀ j, j < n -> g' j = g j) := zs5 n g g'
theorem yeq : zh6 (.agg []) (.agg []) = True := rfl
theorem zhm (k : IntKind) (a b : Int) (xs ys : List AV) : zh6 (.agg (.int k a :: xs)) (.agg (.int k b :: ys)) = (b = a /\ fits1 (.agg xs) (.agg ys)) := zb7 _ _ _ _ _
theorem yeo (a b : List UInt8) (xs ys : List AV) : zh6 (.agg (.str a :: xs)) (.agg (.str b :: ys)) = (b = a /\ fits1 (.agg xs) (.agg ys)) := zbh _ _ _ _
theorem yep (a b : Bool) (xs ys : List AV) : zh6 (.agg (.bool a :: xs)) (.agg (.bool b :: ys)) = (b = a /\ fits1 (.agg xs) (.agg ys)) := zgb _ _ _ _
theorem ybb {h : Array Obj} {D : Nat -> Prop} {μ : Mu} {l : List UInt8} {v : Value} (r : R h D μ (.str l) v) : v = .string ⟨l.toArray⟩ := by
 obtain ⟨s, rfl, rfl⟩ := r.inv_str
 simp
theorem znp (h : Array Obj) (D : Nat -> Prop) (μ : Mu) (l : List UInt8) : R h D μ (.str l) (.string ⟨l.toArray⟩) := .str l _ (by simp)
theorem zb0 {P : Program} {f : FuncId} {fn : Func} {c : Code} {xs : List AV} {args : Array Value} {v : Value} {r : AV} (hf : P.funcs[f]? = some fn) (hb : fn.body = some c) (hn : (fn.name == "runtime.NumGoroutine") = false)
   (ha : ∀ h D vs, RL h D zav xs vs -> vs = args) (hv : ∀ h D, R h D zav r v) (h : ∀ w, Calls P f args w fun e w' => e = .returned v /\ Below w.heap.size w w') : za7 P f xs r := by
 intro D w vs hD hxs hg
 have := ha _ _ _ hxs
 subst this
 unfold zfp
 rw [zd8 hf hn hb]
 refine (h w).mono ?_
 rintro e w' ⟨rfl, hw⟩
 exact ⟨v, D, rfl, hw, fun _ h => h, fun b hb => .inl hb, hv _ _⟩
theorem zem {P : Program} {f : FuncId} {args : Array Value} {v : Value} (h : ∀ w, Calls P f args w fun e w' => e = .returned v /\ w = w') : ∀ w, Calls P f args w fun e w' => e = .returned v /\ Below w.heap.size w w' :=
 fun w => (h w).mono fun e w' ⟨h1, h2⟩ => ⟨h1, by subst h2; exact Below.refl _ _⟩
def zsu (x : AV) (v : Value) : Prop := ∀ h D u, R h D zav x u -> u = v
theorem zcm (k : IntKind) (n : Int) : zsu (.int k n) (.int k n) := fun _ _ _ r => by cases r; rfl
theorem zbz (l : List UInt8) : zsu (.str l) (.string ⟨l.toArray⟩) := fun _ _ _ r => ybb r
theorem zsm {x : AV} {v : Value} (hx : zsu x v) : ∀ h D vs, RL h D zav [x] vs -> vs = #[v] := by
 intro h D vs ⟨hl, hr⟩
 obtain ⟨a, ha⟩ : ∃ a, vs.toList = [a] := List.length_eq_one_iff.1 (by simpa using hl.symm)
 have : vs = #[a] := by rw [<- Array.toArray_toList (xs := vs), ha]
 subst this
 rw [hx _ _ a (hr 0 x a rfl rfl)]
theorem zvi {x y : AV} {v u : Value} (hx : zsu x v) (hy : zsu y u) : ∀ h D vs, RL h D zav [x, y] vs -> vs = #[v, u] := by
 intro h D vs ⟨hl, hr⟩
 obtain ⟨a, b, ha⟩ : ∃ a b, vs.toList = [a, b] := by
   have hl : vs.toList.length = 2 := by simpa using hl.symm
   match vs.toList, hl with
   | [a, b], _ => exact ⟨a, b, rfl⟩
 have : vs = #[a, b] := by rw [<- Array.toArray_toList (xs := vs), ha]
 subst this
 rw [hx _ _ a (hr 0 x a rfl rfl), hy _ _ b (hr 1 y b rfl rfl)]
abbrev zbn := Nat × (List AV -> Option (Prop × AV))
abbrev yaq := Nat × MSum
def yvu (l : List zbn) : FuncId -> List AV -> Option (Prop × AV) := fun f xs => match za2 l f with | some g => g xs | none => none
def zai (l : List zbn) : zqt := ⟨yvu l, fun _ => none⟩
def zh8 (l : List zbn) (lm : List yaq) : zqt := ⟨yvu l, za2 lm⟩
def zay (P : Program) (e : zbn) : Prop := ∀ xs p r, e.2 xs = some (p, r) -> p -> za7 P e.1 xs r
def ykl (P : Program) : List zbn -> Prop
 | [] => True
 | e :: l => zay P e /\ ykl P l
def zo2 (P : Program) (e : yaq) : Prop := ∀ raw ob T, e.2 raw ob = some T -> T.p -> ze6 P e.1 T.xs T.O T.r T.O1
def ygk (P : Program) : List yaq -> Prop
 | [] => True
 | e :: l => zo2 P e /\ ygk P l
theorem zum {P : Program} : ∀ {l : List zbn}, ykl P l -> ∀ f xs p r, yvu l f xs = some (p, r) -> p -> za7 P f xs r
 | [], _, f, xs, p, r, h => by cases h
 | (n, g) :: l, ⟨hg, hl⟩, f, xs, p, r, h => by
   unfold yvu za2 at h
   by_cases e : n = f
   · subst e
     rw [za6] at h
     exact hg xs p r h
   · rw [zao e] at h
     exact zum hl f xs p r h
theorem ydq {P : Program} : ∀ {l : List yaq}, ygk P l -> ∀ f m, za2 l f = some m -> ∀ raw ob T, m raw ob = some T -> T.p -> ze6 P f T.xs T.O T.r T.O1
 | [], _, f, m, h => by cases h
 | (n, g) :: l, ⟨hg, hl⟩, f, m, h => by
   unfold za2 at h
   by_cases e : n = f
   · subst e
     rw [za6] at h
     cases h
     exact hg
   · rw [zao e] at h
     exact ydq hl f m h
theorem za1 {P : Program} {l : List zbn} (h : ykl P l) : zed P (zai l) := ⟨zum h, fun f m h => by cases h⟩
theorem zcv {P : Program} {l : List zbn} {lm : List yaq} (h : ykl P l) (hm : ygk P lm) : zed P (zh8 l lm) := ⟨zum h, ydq hm⟩
theorem law_of_ac {P : Program} {f : FuncId} {fn : Func} {c : Code} {xs : List AV} {vs : Array Value} (hf : P.funcs[f]? = some fn) (hb : fn.body = some c) (hn : (fn.name == "runtime.NumGoroutine") = false)
   (h : za7 P f xs (.bool true)) (D : Nat -> Prop) (w : World) (hD : ∀ b, D b -> b < w.heap.size) (hr : RL w.heap D zav xs vs) (hg : GOk w := by trivial) : Calls P f vs w fun e w' => e = .returned (.bool true) /\ Below w.heap.size w w' := by
 have h := h D w vs hD hr hg
 unfold zfp at h
 rw [zd8 hf hn hb] at h
 refine h.mono ?_
 rintro e w' ⟨v, D', rfl, hw, _, _, r⟩
 cases r
 exact ⟨rfl, hw⟩
theorem rl_nil {h : Array Obj} {D : Nat -> Prop} : RL h D zav [] #[] := ⟨rfl, fun i x v h => by simp at h⟩
theorem rl_of {h : Array Obj} {D : Nat -> Prop} {xs : List AV} {vs : Array Value} {x : AV} {v : Value} (hx : R h D zav x v) (hr : RL h D zav xs ⟨vs.toList⟩) : RL h D zav (x :: xs) ⟨v :: vs.toList⟩ := by
 obtain ⟨h1, h2⟩ := hr
 refine ⟨by simpa using h1, ?_⟩
 intro i y u hy hu
 cases i with
 | zero => simp at hy hu; subst hy hu; exact hx
 | succ i => simp at hy hu; exact h2 i y u hy (by simpa using hu)
theorem zel {p q : Nat} (h : p < q) : zc9 p q = true := by rw [zd4]; exact h
theorem zf7 {p q : Nat} (h : ¬ p < q) : zc9 p q = false := by rw [Bool.eq_false_iff, ne_eq, zd4]; exact h
theorem zjt {h : Array Obj} {D : Nat -> Prop} {μ : Mu} {sz n : Nat} {g g' : Nat -> Nat -> AV} {v : Value} (r : R h D μ (.lst sz n g) v) (e : ∀ i j, i < n -> j < sz -> g i j = g' i j) : R h D μ (.lst sz n g') v := by
 cases r with
 | lst0 sz get a cap hn => exact .lst0 _ _ _ _ hn
 | lst sz n get b o cap vs hD hc hv h1 hr => exact .lst _ _ _ b o cap vs hD hc hv h1 (fun i j hi hj => by rw [<- e i j hi hj]; exact hr i j hi hj)
set_option linter.defProp false in
def sySet := And.intro @yxq (And.intro @yxr (And.intro @yxs (And.intro @yxt (And.intro @yxv (And.intro @yxw (And.intro @yxm (And.intro @yxn (And.intro @ywj (And.intro @ywk (And.intro @yop (And.intro @yxo (And.intro @yxp (And.intro @yt3 (And.intro @zlj (And.intro @yq1 (And.intro @yen (And.intro @yjs (And.intro @zx0 (And.intro @zzh (And.intro @yev (And.intro @yeu (And.intro @yjr (And.intro @zzg (And.intro @yer (And.intro @ymj (And.intro @ymn (And.intro @ymd (And.intro @ymm (And.intro @yo1 (And.intro @yor (And.intro @yos (And.intro @Bool.not_eq_true' (And.intro @Bool.not_eq_false' (And.intro @Bool.and_eq_true (And.intro @Bool.and_eq_false_imp (And.intro @Bool.or_eq_true (And.intro @Bool.or_eq_false_iff (And.intro @Bool.not_true (And.intro @Bool.not_false (And.intro @yrl (And.intro @yw7 (And.intro @ygt (And.intro @yw6 (And.intro @yrk (And.intro @w_u8 (And.intro @Int.zero_add (And.intro @yog (And.intro @yju (And.intro @yx8 (And.intro @zbi (And.intro @zb7 (And.intro @zbh (And.intro @zgb (And.intro @yeq (And.intro @zhm (And.intro @yeo (And.intro @yep (And.intro @zn5 (And.intro @zqe (And.intro @zop (And.intro @yem (And.intro @zdu (And.intro @zeq (And.intro @zs5 @yjt))))))))))))))))))))))))))))))))))))))))))))))))))))))))))))))))
set_option linter.defProp false in
def syB := And.intro @Decidable.not_not (And.intro @true_and (And.intro @and_true (And.intro @decide_eq_true_eq (And.intro @decide_eq_false_iff_not (And.intro @imp_false (And.intro not_false_eq_true (And.intro not_true_eq_false (And.intro @false_imp_iff (And.intro @true_imp_iff (And.intro @forall_const.{0} (And.intro @forall_const.{1} (And.intro @implies_true.{0} (And.intro @implies_true.{1} (And.intro @ne_eq.{1} (And.intro @Int.cast_ofNat_Int (And.intro @Int.toNat_natCast (And.intro @Nat.succ_eq_add_one (And.intro @Nat.le_eq (And.intro @Nat.sub_eq (And.intro @yv8.eq_1 (And.intro @yw2.eq_1 (@wmul.eq_1))))))))))))))))))))))
set_option linter.defProp false in
def syS := And.intro sySet syB
end Sy
end Go.Proofs.YtcgikjfloloekaaGreatDoor
namespace Go.Proofs.YtcgikjfloloekaaGreatDoor
namespace Sy
open Go Go.RowKit
set_option linter.unusedSimpArgs false
set_option linter.unusedVariables false
set_option linter.unusedSectionVars false
def yww : List (Nat × Ob) -> List Nat
 | [] => []
 | (n, _) :: r => match zgs n with | true => n :: yww r | false => yww r
def zou : List (Nat × Ob) -> Bool
 | [] => true
 | (n, _) :: r => match zgs n with | true => zou r | false => false
def zuj (L : za9) (ice : List Nat) : Nat -> List AV -> List (Nat × Ob) -> Option (List AV × List (Nat × Ob))
 | _, [], O => some ([], O)
 | d, .slc id sz off n cap :: r, O => match za2 O id, zcf ice id, za2 O d, zgs d with
   | some (.row ty sz' _ get), false, none, false => match cond (zc9 0 sz) (zan sz sz') false with
     | true => match zuj L ice (d + 1) r ((d, .row ty sz (L2 L Nat.add off n) get) :: (id, .gone) :: O) with
       | some (vs, O') => some (.sl d sz off n :: vs, O')
       | none => none
     | false => none
   | _, _, _, _ => none
 | d, v :: r, O => match zuj L ice d r O with
   | some (vs, O') => some (v :: vs, O')
   | none => none
section
variable (T : TT) (L : za9) (S : zqt) (lo lb : Nat -> St -> Option Ann)
def yu5 (rts : List AV) (O1 : List (Nat × Ob)) (rs : List ResultVar) (s : St) : zcp :=
 match yco T s rs with
 | some vs => match zan (ze0 vs) (ze0 rts) with
   | true => match zuj L s.ice 600010 vs s.objs with
     | some (vs, O) => zyv ⟨zyp 0 vs, O, s.ice, []⟩ ⟨zyp 0 rts, O1, [], []⟩ (yww O1) .yes
     | none => .fail 265
   | false => .fail 263
 | none => .fail 264
def finM (rts : List AV) (O1 : List (Nat × Ob)) (rs : List ResultVar) : K := fun e s => match e with
 | .normal => yu5 T L rts O1 rs s
 | .ret => yu5 T L rts O1 rs s
 | _ => .fail 262
def ywl (n : Nat) (f : Func) (xs : List AV) (O : List (Nat × Ob)) (rts : List AV) (O1 : List (Nat × Ob)) : zcp :=
 match f.body with
 | some c => run T L S lo (zo5 lb (pass T L S lo lb n)) noL c ⟨zyp 0 xs, O, [], []⟩ (finM T L rts O1 f.results.toList)
 | none => .fail 270
end
def ycp : List AV -> AV
 | [r] => r
 | rs => .tup rs
theorem zot : ∀ {O : List (Nat × Ob)}, zou O = true -> ∀ n, za2 O n ≠ none -> zgs n = true
 | [], _, n, h => by simp [za2] at h
 | (m, o) :: r, e, n, h => by
   unfold zou at e
   unfold za2 at h
   split at e
   · rename_i hp
     split at h
     · rename_i hb; rw [<- za4 hb]; exact hp
     · exact zot e n h
   · cases e
section
variable {P : Program} {T : TT} {base : Nat} {M : Two} {W : World} {nt : Nat} {f : Nat -> Option AV} {g : Nat -> Option Ob} {c : Nat -> Bool} {a : Act} {w : World} {D : Nat -> Prop} {μ : Mu} {o : Oper}
theorem Sim.rename (h : Sim base M W nt f g c a w D μ) {d id b z m k ty sz : Nat} {get get' : Nat -> Nat -> AV} (hp : zgs d = false) (hd : g d = none) (hμ : μ id = some (some (b, z, m))) (hg : g id = some (.row ty sz m get)) (hc : c id = false)
   (hz : k * sz <= z) (hs : 0 < sz) (hget : ∀ i j, i < k -> j < sz -> (i < m /\ get' i j = get i j) \/ get' i j = .dead) :
   Sim base M W nt f (zbb g [(d, .row ty sz k get'), (id, .gone)]) c a w D (fun i => if i = d then some (some (b, z, k)) else μ i) := by
 have hdid : d ≠ id := by rintro rfl; rw [hd] at hg; cases hg
 obtain ⟨_, C, tt, fr, hh, hcs, hf, hle, hrow⟩ := h.obs id _ _ hg hμ
 obtain ⟨hblt, hbb⟩ := h.own id b _ hμ
 have hnD := (h.kd id b _ _ hμ hg (by simp)).2 hc
 have hfree : ∀ i o2 z2, μ i = some (some (b, z2)) -> zbb g [(id, .gone)] i = some o2 -> o2 = .gone := by
   intro i o2 z2 k1 k2
   by_cases k3 : id = i
   · subst k3
     simp [zbb, za2, za6] at k2
     exact k2.symm
   · simp [zbb, za2, zao k3] at k2
     by_cases k4 : o2 = .gone
     · exact k4
     · exact absurd (h.inj id i b _ z2 _ o2 hμ k1 hg k2 (by simp) k4) k3
 have hgone := h.gone hg
 have hd2 : zbb g [(id, .gone)] d = none := by simp [zbb, za2, zao (fun x => hdid x.symm : ¬ id = d), hd]
 have had := hgone.adopt (d := d) hp hd2 (b := b) (z := z) (m := k) hblt hbb hnD hfree (ob := .row ty sz k get') (by simp) C (fun hD => by
   rw [setRow_self w b C tt fr hh]
   refine ⟨rfl, C, tt, fr, hh, hcs, hf, hz, fun i j hi hj => ?_⟩
   have hlt : i * sz + j < C.size := by
     have h3 : (i + 1) * sz <= k * sz := Nat.mul_le_mul_right _ hi
     rw [Nat.add_mul] at h3
     omega
   rcases hget i j hi hj with ⟨him, e⟩ | e
   · rw [e]; exact hrow i j him hj
   · rw [e]
     exact ⟨_, getD_some hlt, hf.2.2.1 _ _ (getD_some hlt), .dead _⟩)
 rw [setRow_self w b C tt fr hh] at had
 have e2 : zbb (zbb g [(id, .gone)]) [(d, .row ty sz k get')] = zbb g [(d, .row ty sz k get'), (id, .gone)] := by
   funext q
   simp only [zbb, za2]
   by_cases k1 : d = q
   · subst k1; simp [za6]
   · by_cases k2 : id = q
     · subst k2; simp [za6, zao hdid]
     · simp [zao k1, zao k2]
 rw [e2] at had
 exact had
theorem Sim.renameNil (h : Sim base M W nt f g c a w D μ) {d id m ty sz : Nat} {get get' : Nat -> Nat -> AV} (hp : zgs d = false) (hd : g d = none) (hμ : μ id = some none) (hg : g id = some (.row ty sz m get)) :
   Sim base M W nt f (zbb g [(d, .row ty sz 0 get'), (id, .gone)]) c a w D (fun i => if i = d then some none else μ i) := by
 have hdid : d ≠ id := by rintro rfl; rw [hd] at hg; cases hg
 have hgone := h.gone hg
 have hd2 : zbb g [(id, .gone)] d = none := by simp [zbb, za2, zao (fun x => hdid x.symm : ¬ id = d), hd]
 have had := hgone.newNil (d := d) hp hd2 ty sz get'
 have e2 : zbb (zbb g [(id, .gone)]) [(d, .row ty sz 0 get')] = zbb g [(d, .row ty sz 0 get'), (id, .gone)] := by
   funext q
   simp only [zbb, za2]
   by_cases k1 : d = q
   · subst k1; simp [za6]
   · by_cases k2 : id = q
     · subst k2; simp [za6, zao hdid]
     · simp [zao k1, zao k2]
 rw [e2] at had
 exact had
theorem yez {d : Nat} {y : Option (Nat × Nat × Nat)} (hd : μ d = none) : ∀ i x, μ i = some x -> (if i = d then some y else μ i) = some x := by
 intro i x hx
 have : i ≠ d := by rintro rfl; rw [hd] at hx; cases hx
 rw [if_neg this, hx]
theorem agets (O : List (Nat × Ob)) (p : Nat × Ob) (q : Nat × Ob) : za2 (p :: q :: O) = zbb (za2 O) [p, q] := by
 funext i
 obtain ⟨p, x⟩ := p
 obtain ⟨q, y⟩ := q
 simp only [zbb, za2]
 cases zan p i with
 | true => rfl
 | false => cases zan q i <;> rfl
theorem yxy (h : Sim base M W nt f g c a w D μ) {d id ty sz m off n cap : Nat} {get : Nat -> Nat -> AV} {v : Value} (hp : zgs d = false) (hd : g d = none) (hg : g id = some (.row ty sz m get)) (hc : c id = false) (hs : 0 < sz) (r : R w.heap D μ (.slc id sz off n cap) v) :
   ∃ μ', Sim base M W nt f (zbb g [(d, .row ty sz (off + n) get), (id, .gone)]) c a w D μ' /\ (∀ i y, μ i = some y -> μ' i = some y) /\ R w.heap D μ' (.sl d sz off n) v := by
 have hmd : μ d = none := (h.dom d).2 hd
 cases r with
 | slcv _ _ ad hm =>
   exact ⟨_, h.renameNil hp hd hm hg, yez hmd, .slv _ _ _ (by simp)⟩
 | slc0 _ _ _ b z mm o hm ho =>
   have hmm := (h.obs id _ _ hg hm).1
   subst hmm
   obtain ⟨_, C, tt, fr, hh, hcs, hf, hle, hrow⟩ := h.obs id _ _ hg hm
   exact ⟨_, h.rename (k := off + 0) (get' := get) hp hd hm hg hc (Nat.le_trans (Nat.mul_le_mul_right _ ho) hle) hs (fun i j hi hj => .inl ⟨by omega, rfl⟩), yez hmd, .sl0 _ _ _ b z off o (by simp) (by omega)⟩
 | slc _ _ _ _ _ b z mm hm hn hz ho =>
   have hmm := (h.obs id _ _ hg hm).1
   subst hmm
   exact ⟨_, h.rename (k := off + n) (get' := get) hp hd hm hg hc (Nat.le_trans (Nat.mul_le_mul_right _ (by omega)) hz) hs (fun i j hi hj => .inl ⟨by omega, rfl⟩), yez hmd, .sl _ _ _ _ b z (off + n) cap (by simp) hn hz (by omega)⟩
theorem zqb {ice : List Nat} : ∀ (vs : List AV) (d : Nat) (O : List (Nat × Ob)) (vs' : List AV) (O' : List (Nat × Ob)) (us : Nat -> Value) {μ : Mu}, zuj std ice d vs O = some (vs', O') -> Sim base M W nt f (za2 O) (zcf ice) a w D μ -> (∀ t v, vs[t]? = some v -> R w.heap D μ v (us t)) ->
   ∃ μ', Sim base M W nt f (za2 O') (zcf ice) a w D μ' /\ vs'.length = vs.length /\ (∀ i y, μ i = some y -> μ' i = some y) /\ ∀ t v, vs'[t]? = some v -> R w.heap D μ' v (us t)
 | [], d, O, vs', O', us, μ, e, h, hr => by cases e; exact ⟨μ, h, rfl, fun _ _ h => h, hr⟩
 | x :: r, d, O, vs', O', us, μ, e, h, hr => by
   have plain : ∀ vs1, zuj std ice d r O = some (vs1, O') -> vs' = x :: vs1 -> ∃ μ', Sim base M W nt f (za2 O') (zcf ice) a w D μ' /\ vs'.length = (x :: r).length /\ (∀ i y, μ i = some y -> μ' i = some y) /\ ∀ t v, vs'[t]? = some v -> R w.heap D μ' v (us t) := by
     rintro vs1 e1 rfl
     obtain ⟨μ2, k1, k2, k3, k4⟩ := zqb r d O vs1 O' (fun t => us (t + 1)) e1 h (fun t v hv => hr (t + 1) v hv)
     refine ⟨μ2, k1, by simp [k2], k3, fun t v hv => ?_⟩
     cases t with
     | zero => cases hv; exact (hr 0 _ rfl).mono (fun _ _ => rfl) (fun _ h => h) k3
     | succ t => exact k4 t v hv
   by_cases hx : ∃ id sz off n cap, x = .slc id sz off n cap
   · obtain ⟨id, sz, off, n, cap, rfl⟩ := hx
     simp only [zuj] at e
     split at e
     · rename_i ty sz' m get hg hc hd hp
       split at e
       · rename_i hsz
         have hs : zc9 0 sz = true := by cases hq : zc9 0 sz <;> simp_all
         rw [hs] at hsz
         obtain rfl := za4 hsz
         split at e
         · rename_i vs1 O1 e1
           cases e
           obtain ⟨μ1, h1, h2, h3⟩ := yxy h hp hd hg hc (zdj hs) (hr 0 _ rfl)
           rw [<- agets] at h1
           obtain ⟨μ2, k1, k2, k3, k4⟩ := zqb r (d + 1) _ vs1 _ (fun t => us (t + 1)) e1 h1 (fun t v hv => (hr (t + 1) v hv).mono (fun _ _ => rfl) (fun _ h => h) h2)
           refine ⟨μ2, k1, by simp [k2], fun i y hy => k3 i y (h2 i y hy), fun t v hv => ?_⟩
           cases t with
           | zero => cases hv; exact h3.mono (fun _ _ => rfl) (fun _ h => h) k3
           | succ t => exact k4 t v hv
         · cases e
       · cases e
     · cases e
   · have e' : (match zuj std ice d r O with | some (vs, O') => some (x :: vs, O') | none => none) = some (vs', O') := by
       cases x <;> first | exact e | exact absurd ⟨_, _, _, _, _, rfl⟩ hx
     split at e'
     · rename_i vs1 O1 e1
       cases e'
       exact plain vs1 e1 rfl
     · cases e'
end
theorem zyx {P : Program} {T : TT} {Q : AV -> Prop} {fn : Func} {O O1 : List (Nat × Ob)} {rts : List AV} {D : Nat -> Prop} {w : World} {μ : Mu} (hT : zcs P T) (hD : ∀ b, D b -> b < w.heap.size) (hdom : ∀ n, μ n = none ↔ za2 O n = none)
   (hown : ∀ n b z, μ n = some (some (b, z)) -> b < w.heap.size /\ ¬ D b) (hrb : fn.results.size <= 500000) (hpin : zou O = true) {nt : Nat} {s : St} {a : Act} {w' : World} {D1 : Nat -> Prop} {μ1 : Mu}
   (S1 : Sim w.heap.size ⟨fun b => ∃ n z, μ n = some (some (b, z)), D, fun n => (μ n).getD none⟩ w nt (za2 s.slots) (za2 s.objs) (zcf s.ice) a w' D1 μ1)
   (h' : Sat P Q (yu5 T std rts O1 fn.results.toList s)) : a.defers = [] /\ ∃ v, (results fn a.tmps).run P w' = .ok v w' /\ ∃ v' D' μ', yv3 D w μ O O1 (ycp rts) (Ending.returned v) v' w' D' μ' := by
 unfold yu5 at h'
 split at h'
 · rename_i vs1 hvs
   split at h'
   · rename_i hlen
     have hlen := za4 hlen
     rw [zaj, zaj] at hlen
     obtain ⟨l1, us, h1, h2⟩ := ztk S1 hT hvs
     split at h'
     rotate_left
     · cases h'
     rename_i vs2 O2 hhide
     obtain ⟨μ3, S3, l3, _, h4⟩ := zqb vs1 600010 s.objs vs2 O2 us hhide S1 h2
     have l1 : vs2.length = fn.results.toList.length := l3.trans l1
     have hlen : vs2.length = rts.length := l3.trans hlen
     clear h2
     have h2 := h4
     have hres := zmg (P := P) (w := w') (fn := fn) (tmps := a.tmps) h1
     have hk : vs2.length = fn.results.size := by rw [l1, Array.length_toList]
     have hut : ∀ t, t < fn.results.size -> (((List.range fn.results.size).map us).toArray).getD t undef = us t := by
       intro t ht
       rw [Array.getD_eq_getD_getElem?]
       simp [ht]
     have hs1 : znm w.heap.size ⟨fun b => ∃ n z, μ n = some (some (b, z)), D, fun n => (μ n).getD none⟩ w fn.results.size ⟨zyp 0 vs2, O2, s.ice, []⟩ ⟨((List.range fn.results.size).map us).toArray, []⟩ w' :=
       ⟨⟨D1, μ3, {
         os := S1.os, tape := S1.tape, output := S1.output, size := S1.size, bs := S1.bs, old := S1.old, defers := rfl
         tmps := by simp
         slots := fun t v hv => by
           have hv : za2 (zyp 0 vs2) t = some v := hv
           rw [zgf, if_pos (by omega), Nat.sub_zero] at hv
           have ht := (List.getElem?_eq_some_iff.1 hv).1
           rw [hut t (by omega)]
           exact h2 t v hv
         dlt := S3.dlt, low := S3.low, dom := S3.dom, obs := S3.obs, inj := S3.inj, own := S3.own, kd := S3.kd, icy := S3.icy, ntb := hrb, pin := S3.pin, gl := S3.gl }⟩, fun t b ht => by simp [za2] at ht⟩
     obtain ⟨⟨⟨D2, μ2, S2⟩, _⟩, _⟩ := ydx hs1 h' rfl
     refine ⟨S1.defers, _, hres, (if fn.results.size = 1 then us 0 else .tuple ((List.range fn.results.size).map us).toArray), fun b => D b \/ D2 b, μ2, ?_⟩
     exact {
       ret := rfl, os := S2.os, tape := S2.tape, output := S2.output, size := S2.size
       old := fun b h1 h2 => S2.old b h1 fun ⟨n, z, hn⟩ => h2 n z hn
       up := fun b hb => .inl hb
       dn := fun b hb => by
         rcases hb with hb | hb
         · exact .inl hb
         · by_cases hlt : b < w.heap.size
           · rcases S2.low b hb hlt with q | q
             · exact .inl q
             · exact .inr (.inr q)
           · exact .inr (.inl ⟨by omega, S2.dlt b hb⟩)
       dom := S2.dom
       obs := fun n o x ho hx => (S2.obs n o x ho hx).mono (fun _ _ => rfl) (fun _ h => .inr h) (fun _ _ h => h) (fun _ _ _ _ => rfl)
       inj := fun n n' b z z' h1 h2 => by
         have g1 : za2 O1 n ≠ none := fun e => by rw [(S2.dom n).2 e] at h1; cases h1
         have g2 : za2 O1 n' ≠ none := fun e => by rw [(S2.dom n').2 e] at h2; cases h2
         obtain ⟨o1, q1⟩ := Option.ne_none_iff_exists'.1 g1
         obtain ⟨o2, q2⟩ := Option.ne_none_iff_exists'.1 g2
         exact S2.inj n n' b z z' o1 o2 h1 h2 q1 q2 (zmr hs1 h' n o1 q1) (zmr hs1 h' n' o2 q2)
       own := fun n b z h1 => by
         have g1 : za2 O1 n ≠ none := fun e => by rw [(S2.dom n).2 e] at h1; cases h1
         obtain ⟨o1, q1⟩ := Option.ne_none_iff_exists'.1 g1
         have k := (S2.kd n b z o1 h1 q1 (zmr hs1 h' n o1 q1)).2 rfl
         obtain ⟨p1, p2⟩ := S2.own n b z h1
         refine ⟨p1, ?_, ?_⟩
         · rintro (hb | hb)
           · rcases p2 with p2 | ⟨m, z2, p2⟩
             · have := hD b hb; omega
             · exact (hown m b z2 p2).2 hb
           · exact k hb
         · rcases p2 with p2 | ⟨m, z2, p2⟩
           · exact .inl p2
           · exact .inr ⟨m, z2, p2⟩
       keep := fun n hn hn1 => by
         obtain ⟨y, hy⟩ := Option.ne_none_iff_exists'.1 (fun e => hn1 ((S2.dom n).1 e) : μ2 n ≠ none)
         have := S2.pin n y (zot hpin n hn) hy
         have h3 : μ n ≠ none := fun e => hn ((hdom n).1 e)
         obtain ⟨y0, hy0⟩ := Option.ne_none_iff_exists'.1 h3
         have h4 : y = (μ n).getD none := this
         rw [hy0] at h4
         rw [hy, hy0, h4]; rfl
       val := by
         have each : ∀ (i : Nat) r, rts[i]? = some r -> R w'.heap (fun b => D b \/ D2 b) μ2 r (us i) := by
           intro i r hr
           have hlt : i < fn.results.size := by
             have := (List.getElem?_eq_some_iff.1 hr).1
             omega
           have := S2.slots i r (by show za2 (zyp 0 rts) i = some r; rw [zgf, if_pos (by omega), Nat.sub_zero]; exact hr)
           have h3 := hut i hlt
           have this : R w'.heap D2 μ2 r ((((List.range fn.results.size).map us).toArray).getD i undef) := this
           rw [h3] at this
           exact this.mono (fun _ _ => rfl) (fun _ h => .inr h) (fun _ _ h => h)
         unfold ycp
         split
         · rename_i r
           have hsz : fn.results.size = 1 := by rw [<- hk, hlen]; rfl
           rw [if_pos hsz]
           exact each 0 _ rfl
         · rename_i hne
           have hsz : ¬ fn.results.size = 1 := by
             rw [<- hk, hlen]
             intro h1
             obtain ⟨v, hv⟩ := List.length_eq_one_iff.1 h1
             exact hne v hv
           rw [if_neg hsz]
           refine .tup _ _ (by simp; omega) fun i v x hv hx => ?_
           have hlt : i < fn.results.size := by
             have := (List.getElem?_eq_some_iff.1 hv).1
             omega
           simp [hlt] at hx
           subst hx
           exact each i v hv }
   · cases h'
 · cases h'
theorem ydz {P : Program} {T : TT} {S : zqt} {lo lb : Nat -> St -> Option Ann} {n : Nat} {f : FuncId} {fn : Func} {c : Code} {xs : List AV} {O : List (Nat × Ob)} {rts : List AV} {O1 : List (Nat × Ob)} (hf : P.funcs[f]? = some fn) (hb : fn.body = some c) (hn : (fn.name == "runtime.NumGoroutine") = false)
   (hc : zck fn.ntmps c = true) (hx : (zcj xs.length fn.ntmps && zcj fn.ntmps 500000 && zcj fn.results.size 500000 && zou O) = true) (hT : zcs P T) (hS : zed P S) (hm : P.follows .mixedOrders = true) {Q : AV -> Prop} (h : Sat P Q (ywl T std S lo lb n fn xs O rts O1)) : ze6 P f xs O (ycp rts) O1 := by
 intro D w μ vs hD hxs hdom hobs hinj hown hg hgb
 rw [Bool.and_eq_true, Bool.and_eq_true, Bool.and_eq_true] at hx
 obtain ⟨⟨⟨hx, hnb⟩, hrb⟩, hpin⟩ := hx
 have hx := zc1 hx
 have hnb := zc1 hnb
 have hrb := zc1 hrb
 unfold zfp
 rw [zd8 hf hn hb]
 simp only
 refine calls_of_wp hf hb ?_
 unfold ywl at h
 rw [hb] at h
 refine yfo (base := w.heap.size) (M := ⟨fun b => ∃ n z, μ n = some (some (b, z)), D, fun n => (μ n).getD none⟩) (W := w) hT hS hm hc ⟨⟨D, μ, ?_⟩, fun t b ht => by simp [za2] at ht⟩ h (fun e s a w' hs h' => ?_)
 · exact {
     os := rfl, tape := rfl, output := rfl, size := Nat.le_refl _, bs := Nat.le_refl _, old := fun _ _ _ => rfl, defers := rfl
     tmps := by
       rw [hxs.1] at hx
       simp; omega
     slots := fun t v hv => by
       have hv : za2 (zyp 0 xs) t = some v := hv
       rw [zgf, if_pos (by omega), Nat.sub_zero] at hv
       have hlt : t < vs.size := by rw [<- hxs.1]; exact (List.getElem?_eq_some_iff.1 hv).1
       have h1 : vs[t]? = some vs[t] := by simp [hlt]
       have h2 : (vs ++ Array.replicate (fn.ntmps - vs.size) undef).getD t undef = vs[t] := by
         rw [Array.getD_eq_getD_getElem?, Array.getElem?_append_left hlt, h1]; rfl
       rw [h2]
       exact hxs.2 t v vs[t] hv h1
     dlt := hD, low := fun b hb _ => .inl hb, dom := hdom, obs := hobs
     inj := fun id id' b z z' o o' h1 h2 _ _ _ _ => hinj id id' b z z' h1 h2
     own := fun id b z h1 => ⟨(hown id b z h1).1, .inr ⟨id, z, h1⟩⟩
     kd := fun id b z o h1 _ _ => ⟨fun hx => by simp [zcf] at hx, fun _ => (hown id b z h1).2⟩
     icy := fun id h => by simp [zcf] at h
     ntb := hnb
     pin := fun id y _ hy => by show y = (μ id).getD none; rw [hy]; rfl
     gl := ⟨hg, zxh hg, fun b ⟨n, z, hn⟩ => hgb n b z hn⟩ }
 · obtain ⟨⟨D1, μ1, S1⟩, _⟩ := hs
   have key : Sat P Q (yu5 T std rts O1 fn.results.toList s) -> a.defers = [] /\ ∃ v, (results fn a.tmps).run P w' = .ok v w' /\ ∃ v' D' μ', yv3 D w μ O O1 (ycp rts) (Ending.returned v) v' w' D' μ' := fun h' => zyx hT hD hdom hown hrb hpin S1 h'
   cases e with
   | normal => exact key h'
   | ret => exact key h'
   | exit id => cases h'
   | goto l => cases h'
end Sy
end Go.Proofs.YtcgikjfloloekaaGreatDoor
namespace Go.Proofs.YtcgikjfloloekaaGreatDoor
namespace Sy
open Go Go.RowKit
set_option maxRecDepth 100000
set_option linter.unusedSimpArgs false
section
variable {P : Program} {Q : AV -> Prop}
theorem yhb {b : Bool} {k : zcp} : Sat P Q (.need b k) ↔ b = true /\ Sat P Q k := ⟨fun h => by cases h with | need h hk => exact ⟨h, hk⟩, fun h => .need h.1 h.2⟩
theorem yhc {p : Prop} {k : zcp} : Sat P Q (.must p k) ↔ p /\ Sat P Q k := ⟨fun h => by cases h with | must h hk => exact ⟨h, hk⟩, fun h => .must h.1 h.2⟩
theorem ymr {b : Bool} {t e : zcp} : Sat P Q (.ite b t e) ↔ (b = true -> Sat P Q t) /\ (b = false -> Sat P Q e) := ⟨fun h => by cases h with | ite h hk => exact ⟨h, hk⟩, fun h => .ite h.1 h.2⟩
theorem yhe {r : AV} : Sat P Q (.done r) ↔ Q r := ⟨fun h => by cases h with | done h => exact h, fun h => .done h⟩
theorem ymp : Sat P Q .yes ↔ True := ⟨fun _ => trivial, fun _ => .yes⟩
theorem yrz {X : Type} {f : X -> zcp} : Sat P Q (.ex X f) ↔ ∃ x, Sat P Q (f x) := ⟨fun h => by cases h with | ex x h => exact ⟨x, h⟩, fun ⟨x, h⟩ => .ex x h⟩
theorem ymt {X : Type} {f : X -> zcp} : Sat P Q (.all X f) ↔ ∀ x, Sat P Q (f x) := ⟨fun h => by cases h with | all h => exact h, fun h => .all h⟩
theorem ymq {p : Prop} {k : zcp} : Sat P Q (.sup p k) ↔ (p -> Sat P Q k) := ⟨fun h => by cases h with | sup h => exact h, fun h => .sup h⟩
theorem yms {a b : zcp} : Sat P Q (.and a b) ↔ Sat P Q a /\ Sat P Q b := ⟨fun h => by cases h with | and h hk => exact ⟨h, hk⟩, fun h => .and h.1 h.2⟩
theorem yhd {n : Nat} : Sat P Q (.fail n) ↔ False := ⟨fun h => (by cases h), fun h => h.elim⟩
set_option linter.defProp false in
def syT := And.intro @yhb (And.intro @yhc (And.intro @ymr (And.intro @yhe (And.intro @ymp (And.intro @yrz (And.intro @ymt (And.intro @ymq (And.intro @yms (@yhd)))))))))
end
theorem za5 {P : Program} {T : TT} {S : za9 -> zqt} {lo lb : za9 -> Nat -> St -> Option Ann} (n : Nat) {f : FuncId} {fn : Func} {c : Code} {xs : List AV} {r : AV} (hf : P.funcs[f]? = some fn) (hb : fn.body = some c) (hn : (fn.name == "runtime.NumGoroutine") = false)
   (hc : zck fn.ntmps c = true) (hx : (zcj xs.length fn.ntmps && zcj fn.ntmps 500000) = true) (hT : zcs P T) (hS : zed P (S std)) (hm : P.follows .mixedOrders = true)
   (h : ∀ (L : za9) (P' : Program) (Q' : AV -> Prop), @L = @std -> P' = P -> Q' = zh6 r -> Sat P' Q' (yvk T L (S L) (lo L) (lb L) n fn xs)) : za7 P f xs r :=
 zst (lo := lo std) (lb := lb std) hf hb hn hc hx hT hS hm (h std _ _ rfl rfl rfl)
theorem za8 {P : Program} {T : TT} {S : za9 -> zqt} {lo lb : za9 -> Nat -> St -> Option Ann} (n : Nat) {f : FuncId} {fn : Func} {c : Code} {xs : za9 -> List AV} {r : AV} (hf : P.funcs[f]? = some fn) (hb : fn.body = some c) (hn : (fn.name == "runtime.NumGoroutine") = false)
   (hc : zck fn.ntmps c = true) (hx : (zcj (xs std).length fn.ntmps && zcj fn.ntmps 500000) = true) (hT : zcs P T) (hS : zed P (S std)) (hm : P.follows .mixedOrders = true)
   (h : ∀ (L : za9) (P' : Program) (Q' : AV -> Prop), @L = @std -> P' = P -> Q' = zh6 r -> Sat P' Q' (yvk T L (S L) (lo L) (lb L) n fn (xs L))) : za7 P f (xs std) r :=
 zst (lo := lo std) (lb := lb std) hf hb hn hc hx hT hS hm (h std _ _ rfl rfl rfl)
theorem zeg {P : Program} {T : TT} {S : za9 -> zqt} {lo lb : za9 -> Nat -> St -> Option Ann} (n : Nat) {f : FuncId} {fn : Func} {c : Code} {xs rts : za9 -> List AV} {O O1 : za9 -> List (Nat × Ob)} (hf : P.funcs[f]? = some fn) (hb : fn.body = some c) (hn : (fn.name == "runtime.NumGoroutine") = false)
   (hc : zck fn.ntmps c = true) (hx : (zcj (xs std).length fn.ntmps && zcj fn.ntmps 500000 && zcj fn.results.size 500000 && zou (O std)) = true) (hT : zcs P T) (hS : zed P (S std)) (hm : P.follows .mixedOrders = true)
   (h : ∀ (L : za9) (P' : Program) (Q' : AV -> Prop), @L = @std -> P' = P -> Q' = (fun _ => True) -> Sat P' Q' (ywl T L (S L) (lo L) (lb L) n fn (xs L) (O L) (rts L) (O1 L))) : ze6 P f (xs std) (O std) (ycp (rts std)) (O1 std) :=
 ydz (lo := lo std) (lb := lb std) hf hb hn hc hx hT hS hm (h std _ _ rfl rfl rfl)
def noS : za9 -> zqt := fun _ => ⟨fun _ _ => none, fun _ => none⟩
theorem zcc (P : Program) : zed P (noS std) := ⟨fun f xs p r h => by (cases h), fun f m h => by cases h⟩
def noA : za9 -> Nat -> St -> Option Ann := fun _ _ _ => none
def tt : TT :=
 (.node (.node (.node (.node (.node (.node (.node (.node .leaf 1 ⟨1, false, [.nilf], .func, false, none, false, false⟩
        .leaf) 2 ⟨1, false, [.int .i64 0], .int .i64, false, none, false, false⟩
       (.node .leaf 3 ⟨1, false, [.int .i64 0], .int .i64, false, none, false, false⟩
        .leaf)) 4 ⟨1, false, [.bool false], .bool, false, none, false, false⟩
      (.node (.node .leaf 5 ⟨1, false, [.int .u8 0], .int .u8, false, none, false, false⟩
        .leaf) 6 ⟨1, false, [.int .u8 0], .int .u8, false, none, false, false⟩
       (.node .leaf 7 ⟨4, true, [.int .i64 0, .int .i64 0, .bool false, .int .u8 0], .struct [(0, 2), (1, 3), (2, 4), (3, 6)], true, none, false, false⟩
        .leaf))) 8 ⟨4, true, [.int .i64 0, .int .i64 0, .bool false, .int .u8 0], .struct [(0, 2), (1, 3), (2, 4), (3, 6)], true, none, false, false⟩
     (.node (.node (.node .leaf 9 ⟨1, false, [.str []], .str, false, none, false, false⟩
        .leaf) 10 ⟨1, false, [.str []], .str, false, none, false, false⟩
       (.node .leaf 11 ⟨1, false, [.str []], .str, false, none, false, false⟩
        .leaf)) 12 ⟨1, false, [.int .u64 0], .int .u64, false, none, false, false⟩
      (.node (.node .leaf 13 ⟨2, true, [.str [], .int .u64 0], .struct [(0, 9), (1, 12)], false, none, false, false⟩
        .leaf) 14 ⟨2, true, [.str [], .int .u64 0], .struct [(0, 9), (1, 12)], false, none, false, false⟩
       (.node .leaf 15 ⟨1, false, [.nilp], .ptr, false, some 261, false, false⟩
        .leaf)))) 16 ⟨1, false, [.nilp], .ptr, false, some 264, false, false⟩
    (.node (.node (.node (.node .leaf 17 ⟨1, false, [.nilp], .ptr, false, some 271, false, false⟩
        .leaf) 18 ⟨1, true, [.nilp], .struct [(0, 17)], false, none, false, false⟩
       (.node .leaf 19 ⟨1, true, [.nilp], .struct [(0, 17)], false, none, false, false⟩
        .leaf)) 20 ⟨1, false, [.nili], .iface, false, none, false, false⟩
      (.node (.node .leaf 21 ⟨1, false, [.int .i32 0], .int .i32, false, none, false, false⟩
        .leaf) 22 ⟨1, false, [.int .u64 0], .int .u64, false, none, false, false⟩
       (.node .leaf 23 ⟨1, false, [.nilf], .func, false, none, false, false⟩
        .leaf))) 24 ⟨3, true, [.int .u64 0, .int .u64 0, .bool false], .struct [(0, 22), (1, 22), (2, 4)], true, none, false, false⟩
     (.node (.node (.node .leaf 25 ⟨3, true, [.int .u64 0, .int .u64 0, .bool false], .struct [(0, 22), (1, 22), (2, 4)], true, none, false, false⟩
        .leaf) 26 ⟨12, true, [.int .u64 0, .str [], .bool false, .int .u64 0, .int .u64 0, .str [], .int .u64 0, .int .u64 0, .bool false, .int .u64 0, .int .u64 0, .bool false], .struct [(0, 22), (1, 9), (2, 4), (3, 22), (4, 22), (5, 9), (6, 25), (9, 25)], true, none, false, false⟩
       (.node .leaf 27 ⟨12, true, [.int .u64 0, .str [], .bool false, .int .u64 0, .int .u64 0, .str [], .int .u64 0, .int .u64 0, .bool false, .int .u64 0, .int .u64 0, .bool false], .struct [(0, 22), (1, 9), (2, 4), (3, 22), (4, 22), (5, 9), (6, 25), (9, 25)], true, none, false, false⟩
        .leaf)) 29 ⟨1, false, [.nilf], .func, false, none, false, false⟩
      (.node (.node .leaf 30 ⟨1, false, [.int .i64 0], .int .i64, false, none, false, false⟩
        .leaf) 32 ⟨1, false, [.nilf], .func, false, none, false, false⟩
       .leaf)))) 33 ⟨1, false, [.nilf], .func, false, none, false, false⟩
   (.node (.node (.node (.node (.node .leaf 34 ⟨1, false, [.nils], .slice 22 1 8, false, none, false, false⟩
        .leaf) 36 ⟨1, false, [.nilf], .func, false, none, false, false⟩
       (.node .leaf 37 ⟨1, false, [.nilf], .func, false, none, false, false⟩
        .leaf)) 38 ⟨1, false, [.nils], .slice 46 9 104, false, none, false, false⟩
      (.node (.node .leaf 39 ⟨11, true, [.int .u64 0, .str [], .bool false, .int .u64 0, .int .u64 0, .str [], .int .u64 0, .int .u64 0, .int .u64 0, .bool false, .bool false], .struct [(0, 22), (1, 9), (2, 4), (3, 22), (4, 22), (5, 9), (6, 22), (7, 22), (8, 22), (9, 4), (10, 4)], true, none, false, false⟩
        .leaf) 40 ⟨11, true, [.int .u64 0, .str [], .bool false, .int .u64 0, .int .u64 0, .str [], .int .u64 0, .int .u64 0, .int .u64 0, .bool false, .bool false], .struct [(0, 22), (1, 9), (2, 4), (3, 22), (4, 22), (5, 9), (6, 22), (7, 22), (8, 22), (9, 4), (10, 4)], true, none, false, false⟩
       (.node .leaf 41 ⟨1, false, [.nils], .slice 108 7 48, false, none, false, false⟩
        .leaf))) 42 ⟨1, false, [.nils], .slice 113 2 40, false, none, false, false⟩
     (.node (.node (.node .leaf 43 ⟨3, true, [.int .u64 0, .nils, .nils], .struct [(0, 22), (1, 41), (2, 42)], false, none, false, false⟩
        .leaf) 44 ⟨3, true, [.int .u64 0, .nils, .nils], .struct [(0, 22), (1, 41), (2, 42)], false, none, false, false⟩
       (.node .leaf 45 ⟨9, true, [.int .u8 0, .int .u64 0, .int .u64 0, .str [], .int .u64 0, .nils, .nils, .int .u8 0, .bool false], .struct [(0, 5), (1, 22), (2, 22), (3, 9), (4, 44), (7, 5), (8, 4)], false, none, false, false⟩
        .leaf)) 46 ⟨9, true, [.int .u8 0, .int .u64 0, .int .u64 0, .str [], .int .u64 0, .nils, .nils, .int .u8 0, .bool false], .struct [(0, 5), (1, 22), (2, 22), (3, 9), (4, 44), (7, 5), (8, 4)], false, none, false, false⟩
      (.node (.node .leaf 47 ⟨1, false, [.nilf], .func, false, none, false, false⟩
        .leaf) 49 ⟨1, false, [.nilf], .func, false, none, false, false⟩
       .leaf))) 50 ⟨1, false, [.nilf], .func, false, none, false, false⟩
    (.node (.node (.node (.node .leaf 52 ⟨1, false, [.nilf], .func, false, none, false, false⟩
        .leaf) 53 ⟨1, false, [.nils], .slice 128 7 48, false, none, false, false⟩
       (.node .leaf 54 ⟨1, false, [.nils], .slice 117 2 40, false, none, false, false⟩
        .leaf)) 55 ⟨3, true, [.int .u64 0, .nils, .nils], .struct [(0, 22), (1, 53), (2, 54)], false, none, false, false⟩
      (.node (.node .leaf 56 ⟨3, true, [.int .u64 0, .nils, .nils], .struct [(0, 22), (1, 53), (2, 54)], false, none, false, false⟩
        .leaf) 57 ⟨1, false, [.nilf], .func, false, none, false, false⟩
       (.node .leaf 58 ⟨1, false, [.nilf], .func, false, none, false, false⟩
        .leaf))) 59 ⟨1, false, [.nils], .slice 3 1 8, false, none, false, false⟩
     (.node (.node (.node .leaf 61 ⟨1, false, [.nilf], .func, false, none, false, false⟩
        .leaf) 62 ⟨1, false, [.nilf], .func, false, none, false, false⟩
       (.node .leaf 63 ⟨1, false, [.nilf], .func, false, none, false, false⟩
        .leaf)) 64 ⟨1, false, [.nils], .slice 9 1 16, false, none, false, false⟩
      (.node (.node .leaf 65 ⟨1, false, [.int .u16 0], .int .u16, false, none, false, false⟩
        .leaf) 66 ⟨3, true, [.int .u64 0, .int .u64 0, .int .i64 0], .struct [(0, 22), (1, 22), (2, 3)], true, none, false, false⟩
       .leaf))))) 67 ⟨3, true, [.int .u64 0, .int .u64 0, .int .i64 0], .struct [(0, 22), (1, 22), (2, 3)], true, none, false, false⟩
  (.node (.node (.node (.node (.node (.node .leaf 68 ⟨9, true, [.int .u64 0, .int .u64 0, .int .u64 0, .int .u64 0, .str [], .bool false, .int .u64 0, .int .u64 0, .int .i64 0], .struct [(0, 22), (1, 22), (2, 22), (3, 22), (4, 9), (5, 4), (6, 67)], true, none, false, false⟩
        .leaf) 69 ⟨9, true, [.int .u64 0, .int .u64 0, .int .u64 0, .int .u64 0, .str [], .bool false, .int .u64 0, .int .u64 0, .int .i64 0], .struct [(0, 22), (1, 22), (2, 22), (3, 22), (4, 9), (5, 4), (6, 67)], true, none, false, false⟩
       (.node .leaf 70 ⟨1, false, [.nilf], .func, false, none, false, false⟩
        .leaf)) 72 ⟨1, false, [.nilf], .func, false, none, false, false⟩
      (.node (.node .leaf 73 ⟨3, true, [.int .u64 0, .int .u64 0, .str []], .struct [(0, 22), (1, 22), (2, 9)], true, none, false, false⟩
        .leaf) 74 ⟨3, true, [.int .u64 0, .int .u64 0, .str []], .struct [(0, 22), (1, 22), (2, 9)], true, none, false, false⟩
       (.node .leaf 76 ⟨1, false, [.nilf], .func, false, none, false, false⟩
        .leaf))) 77 ⟨1, false, [.nilf], .func, false, none, false, false⟩
     (.node (.node (.node .leaf 78 ⟨1, false, [.nilf], .func, false, none, false, false⟩
        .leaf) 80 ⟨1, false, [.nilf], .func, false, none, false, false⟩
       (.node .leaf 82 ⟨1, false, [.nilf], .func, false, none, false, false⟩
        .leaf)) 83 ⟨1, false, [.nilf], .func, false, none, false, false⟩
      (.node (.node .leaf 84 ⟨1, false, [.nilf], .func, false, none, false, false⟩
        .leaf) 85 ⟨1, false, [.nilf], .func, false, none, false, false⟩
       (.node .leaf 86 ⟨1, false, [.nilf], .func, false, none, false, false⟩
        .leaf)))) 87 ⟨1, false, [.nils], .slice 89 4 56, false, none, false, false⟩
    (.node (.node (.node (.node .leaf 88 ⟨4, true, [.int .i64 0, .int .u64 0, .str [], .nils], .struct [(0, 3), (1, 22), (2, 9), (3, 87)], false, none, false, false⟩
        .leaf) 89 ⟨4, true, [.int .i64 0, .int .u64 0, .str [], .nils], .struct [(0, 3), (1, 22), (2, 9), (3, 87)], false, none, false, false⟩
       (.node .leaf 90 ⟨1, false, [.nilf], .func, false, none, false, false⟩
        .leaf)) 91 ⟨1, false, [.nilf], .func, false, none, false, false⟩
      (.node (.node .leaf 93 ⟨1, false, [.nilf], .func, false, none, false, false⟩
        .leaf) 94 ⟨1, false, [.nilf], .func, false, none, false, false⟩
       (.node .leaf 95 ⟨3, true, [.int .i64 0, .int .u64 0, .str []], .struct [(0, 3), (1, 22), (2, 9)], true, none, false, false⟩
        .leaf))) 96 ⟨3, true, [.int .i64 0, .int .u64 0, .str []], .struct [(0, 3), (1, 22), (2, 9)], true, none, false, false⟩
     (.node (.node (.node .leaf 97 ⟨1, false, [.nilf], .func, false, none, false, false⟩
        .leaf) 99 ⟨1, false, [.nilf], .func, false, none, false, false⟩
       (.node .leaf 100 ⟨1, false, [.nilf], .func, false, none, false, false⟩
        .leaf)) 102 ⟨1, false, [.nilf], .func, false, none, false, false⟩
      (.node (.node .leaf 103 ⟨4, true, [.int .u8 0, .int .u8 0, .int .u8 0, .int .u8 0], .arr 4 5 1, true, none, false, false⟩
        .leaf) 104 ⟨5, true, [.int .u8 0, .int .u8 0, .int .u8 0, .int .u8 0, .int .u16 0], .struct [(0, 103), (4, 65)], true, none, false, false⟩
       .leaf)))) 105 ⟨5, true, [.int .u8 0, .int .u8 0, .int .u8 0, .int .u8 0, .int .u16 0], .struct [(0, 103), (4, 65)], true, none, false, false⟩
   (.node (.node (.node (.node (.node .leaf 106 ⟨1, false, [.nils], .slice 110 4 56, false, none, false, false⟩
        .leaf) 107 ⟨7, true, [.str [], .int .u8 0, .int .u8 0, .int .u8 0, .int .u8 0, .int .u16 0, .nils], .struct [(0, 9), (1, 105), (6, 106)], false, none, false, false⟩
       (.node .leaf 108 ⟨7, true, [.str [], .int .u8 0, .int .u8 0, .int .u8 0, .int .u8 0, .int .u16 0, .nils], .struct [(0, 9), (1, 105), (6, 106)], false, none, false, false⟩
        .leaf)) 109 ⟨4, true, [.str [], .str [], .str [], .int .u64 0], .struct [(0, 9), (1, 9), (2, 9), (3, 22)], true, none, false, false⟩
      (.node (.node .leaf 110 ⟨4, true, [.str [], .str [], .str [], .int .u64 0], .struct [(0, 9), (1, 9), (2, 9), (3, 22)], true, none, false, false⟩
        .leaf) 111 ⟨1, false, [.nils], .slice 131 6 16, false, none, false, false⟩
       (.node .leaf 112 ⟨2, true, [.str [], .nils], .struct [(0, 9), (1, 111)], false, none, false, false⟩
        .leaf))) 113 ⟨2, true, [.str [], .nils], .struct [(0, 9), (1, 111)], false, none, false, false⟩
     (.node (.node (.node .leaf 114 ⟨1, false, [.nilf], .func, false, none, false, false⟩
        .leaf) 115 ⟨1, false, [.nils], .slice 120 6 16, false, none, false, false⟩
       (.node .leaf 116 ⟨2, true, [.str [], .nils], .struct [(0, 9), (1, 115)], false, none, false, false⟩
        .leaf)) 117 ⟨2, true, [.str [], .nils], .struct [(0, 9), (1, 115)], false, none, false, false⟩
      (.node (.node .leaf 118 ⟨5, true, [.int .u8 0, .int .u8 0, .int .u8 0, .int .u8 0, .int .u16 0], .struct [(0, 103), (4, 65)], true, none, false, false⟩
        .leaf) 119 ⟨6, true, [.int .u8 0, .int .u8 0, .int .u8 0, .int .u8 0, .int .u16 0, .int .i64 0], .struct [(0, 118), (5, 3)], true, none, false, false⟩
       .leaf))) 120 ⟨6, true, [.int .u8 0, .int .u8 0, .int .u8 0, .int .u8 0, .int .u16 0, .int .i64 0], .struct [(0, 118), (5, 3)], true, none, false, false⟩
    (.node (.node (.node (.node .leaf 121 ⟨1, false, [.nilf], .func, false, none, false, false⟩
        .leaf) 122 ⟨1, false, [.nils], .slice 124 4 56, false, none, false, false⟩
       (.node .leaf 123 ⟨4, true, [.int .i64 0, .int .u64 0, .str [], .nils], .struct [(0, 3), (1, 22), (2, 9), (3, 122)], false, none, false, false⟩
        .leaf)) 124 ⟨4, true, [.int .i64 0, .int .u64 0, .str [], .nils], .struct [(0, 3), (1, 22), (2, 9), (3, 122)], false, none, false, false⟩
      (.node (.node .leaf 125 ⟨1, false, [.nilf], .func, false, none, false, false⟩
        .leaf) 126 ⟨1, false, [.nils], .slice 129 4 56, false, none, false, false⟩
       (.node .leaf 127 ⟨7, true, [.str [], .int .u8 0, .int .u8 0, .int .u8 0, .int .u8 0, .int .u16 0, .nils], .struct [(0, 9), (1, 118), (6, 126)], false, none, false, false⟩
        .leaf))) 128 ⟨7, true, [.str [], .int .u8 0, .int .u8 0, .int .u8 0, .int .u8 0, .int .u16 0, .nils], .struct [(0, 9), (1, 118), (6, 126)], false, none, false, false⟩
     (.node (.node (.node .leaf 129 ⟨4, true, [.str [], .str [], .str [], .int .u64 0], .struct [(0, 9), (1, 9), (2, 9), (3, 22)], true, none, false, false⟩
        .leaf) 130 ⟨6, true, [.int .u8 0, .int .u8 0, .int .u8 0, .int .u8 0, .int .u16 0, .int .i64 0], .struct [(0, 105), (5, 3)], true, none, false, false⟩
       (.node .leaf 131 ⟨6, true, [.int .u8 0, .int .u8 0, .int .u8 0, .int .u8 0, .int .u16 0, .int .i64 0], .struct [(0, 105), (5, 3)], true, none, false, false⟩
        .leaf)) 132 ⟨1, false, [.nilf], .func, false, none, false, false⟩
      (.node (.node .leaf 133 ⟨3, true, [.int .i64 0, .int .u64 0, .str []], .struct [(0, 3), (1, 22), (2, 9)], true, none, false, false⟩
        .leaf) 135 ⟨1, false, [.nilf], .func, false, none, false, false⟩
       .leaf)))))) 136 ⟨1, false, [.nilf], .func, false, none, false, false⟩
 (.node (.node (.node (.node (.node (.node (.node .leaf 137 ⟨1, false, [.nilf], .func, false, none, false, false⟩
        .leaf) 138 ⟨1, false, [.nilp], .ptr, false, some 141, false, false⟩
       (.node .leaf 139 ⟨1, false, [.nils], .slice 5 1 1, false, none, false, false⟩
        .leaf)) 140 ⟨2, true, [.nilp, .nils], .struct [(0, 138), (1, 139)], false, none, false, false⟩
      (.node (.node .leaf 141 ⟨2, true, [.nilp, .nils], .struct [(0, 138), (1, 139)], false, none, false, true⟩
        .leaf) 142 ⟨1, false, [.nilf], .func, false, none, false, false⟩
       (.node .leaf 143 ⟨1, false, [.nilf], .func, false, none, false, false⟩
        .leaf))) 144 ⟨1, false, [.nilf], .func, false, none, false, false⟩
     (.node (.node (.node .leaf 145 ⟨1, false, [.nilf], .func, false, none, false, false⟩
        .leaf) 146 ⟨1, false, [.nilf], .func, false, none, false, false⟩
       (.node .leaf 147 ⟨1, false, [.nilf], .func, false, none, false, false⟩
        .leaf)) 148 ⟨1, false, [.nilf], .func, false, none, false, false⟩
      (.node (.node .leaf 149 ⟨1, false, [.nilf], .func, false, none, false, false⟩
        .leaf) 151 ⟨1, false, [.nilf], .func, false, none, false, false⟩
       (.node .leaf 153 ⟨1, false, [.nilf], .func, false, none, false, false⟩
        .leaf)))) 154 ⟨1, false, [.nilf], .func, false, none, false, false⟩
    (.node (.node (.node (.node .leaf 155 ⟨1, false, [.nilf], .func, false, none, false, false⟩
        .leaf) 156 ⟨1, false, [.nilf], .func, false, none, false, false⟩
       (.node .leaf 157 ⟨1, false, [.nilf], .func, false, none, false, false⟩
        .leaf)) 158 ⟨1, false, [.nilf], .func, false, none, false, false⟩
      (.node (.node .leaf 159 ⟨1, false, [.nilf], .func, false, none, false, false⟩
        .leaf) 160 ⟨1, false, [.nilf], .func, false, none, false, false⟩
       (.node .leaf 161 ⟨1, false, [.nilf], .func, false, none, false, false⟩
        .leaf))) 162 ⟨1, false, [.nilf], .func, false, none, false, false⟩
     (.node (.node (.node .leaf 163 ⟨1, false, [.nilf], .func, false, none, false, false⟩
        .leaf) 165 ⟨1, false, [.nilf], .func, false, none, false, false⟩
       (.node .leaf 167 ⟨1, false, [.nilf], .func, false, none, false, false⟩
        .leaf)) 168 ⟨1, false, [.nilf], .func, false, none, false, false⟩
      (.node (.node .leaf 169 ⟨1, false, [.nilf], .func, false, none, false, false⟩
        .leaf) 170 ⟨1, false, [.nili], .iface, false, none, false, false⟩
       .leaf)))) 171 ⟨1, false, [.nili], .iface, false, none, false, false⟩
   (.node (.node (.node (.node (.node .leaf 172 ⟨1, false, [.nilf], .func, false, none, false, false⟩
        .leaf) 174 ⟨1, false, [.nilf], .func, false, none, false, false⟩
       (.node .leaf 175 ⟨1, false, [.nilf], .func, false, none, false, false⟩
        .leaf)) 176 ⟨1, false, [.nilp], .ptr, false, some 5, false, false⟩
      (.node (.node .leaf 177 ⟨1, false, [.int .u32 0], .int .u32, false, none, false, false⟩
        .leaf) 178 ⟨1, false, [.nilf], .func, false, none, false, false⟩
       (.node .leaf 179 ⟨1, false, [.int .u64 0], .int .u64, false, none, false, false⟩
        .leaf))) 180 ⟨1, false, [.nilf], .func, false, none, false, false⟩
     (.node (.node (.node .leaf 182 ⟨1, false, [.nilf], .func, false, none, false, false⟩
        .leaf) 183 ⟨1, false, [.nilf], .func, false, none, false, false⟩
       (.node .leaf 184 ⟨1, false, [.nils], .slice 188 2 32, false, none, false, false⟩
        .leaf)) 186 ⟨1, false, [.nilf], .func, false, none, false, false⟩
      (.node (.node .leaf 187 ⟨2, true, [.int .u64 0, .nils], .struct [(0, 22), (1, 87)], false, none, false, false⟩
        .leaf) 188 ⟨2, true, [.int .u64 0, .nils], .struct [(0, 22), (1, 87)], false, none, false, false⟩
       .leaf))) 189 ⟨1, false, [.nilf], .func, false, none, false, false⟩
    (.node (.node (.node (.node .leaf 190 ⟨1, false, [.nilf], .func, false, none, false, false⟩
        .leaf) 191 ⟨1, false, [.nilf], .func, false, none, false, false⟩
       (.node .leaf 192 ⟨1, false, [.nilf], .func, false, none, false, false⟩
        .leaf)) 193 ⟨1, false, [.nilf], .func, false, none, false, false⟩
      (.node (.node .leaf 194 ⟨1, false, [.nilf], .func, false, none, false, false⟩
        .leaf) 195 ⟨1, false, [.nilf], .func, false, none, false, false⟩
       (.node .leaf 196 ⟨1, false, [.nilf], .func, false, none, false, false⟩
        .leaf))) 197 ⟨1, false, [.nilf], .func, false, none, false, false⟩
     (.node (.node (.node .leaf 198 ⟨1, false, [.nilf], .func, false, none, false, false⟩
        .leaf) 199 ⟨1, false, [.nilf], .func, false, none, false, false⟩
       (.node .leaf 200 ⟨1, false, [.nilf], .func, false, none, false, false⟩
        .leaf)) 202 ⟨1, false, [.nilf], .func, false, none, false, false⟩
      (.node (.node .leaf 203 ⟨1, false, [.nilf], .func, false, none, false, false⟩
        .leaf) 204 ⟨1, false, [.nilf], .func, false, none, false, false⟩
       .leaf))))) 205 ⟨1, false, [.nilf], .func, false, none, false, false⟩
  (.node (.node (.node (.node (.node (.node .leaf 206 ⟨1, false, [.nilf], .func, false, none, false, false⟩
        .leaf) 207 ⟨1, false, [.nilf], .func, false, none, false, false⟩
       (.node .leaf 209 ⟨1, false, [.nilf], .func, false, none, false, false⟩
        .leaf)) 210 ⟨1, false, [.nilp], .other, false, none, true, false⟩
      (.node (.node .leaf 211 ⟨1, false, [.nilf], .func, false, none, false, false⟩
        .leaf) 213 ⟨1, false, [.nilf], .func, false, none, false, false⟩
       (.node .leaf 214 ⟨1, false, [.nilf], .func, false, none, false, false⟩
        .leaf))) 215 ⟨1, false, [.nilf], .func, false, none, false, false⟩
     (.node (.node (.node .leaf 216 ⟨1, false, [.nilf], .func, false, none, false, false⟩
        .leaf) 218 ⟨1, false, [.nilf], .func, false, none, false, false⟩
       (.node .leaf 219 ⟨1, false, [.nilf], .func, false, none, false, false⟩
        .leaf)) 220 ⟨1, false, [.nilf], .func, false, none, false, false⟩
      (.node (.node .leaf 221 ⟨1, false, [.nilf], .func, false, none, false, false⟩
        .leaf) 222 ⟨1, false, [.nilf], .func, false, none, false, false⟩
       .leaf))) 223 ⟨1, false, [.nilf], .func, false, none, false, false⟩
    (.node (.node (.node (.node .leaf 224 ⟨1, false, [.nilf], .func, false, none, false, false⟩
        .leaf) 226 ⟨1, false, [.nilf], .func, false, none, false, false⟩
       (.node .leaf 227 ⟨1, false, [.int .i64 0], .int .i64, false, none, false, false⟩
        .leaf)) 228 ⟨1, false, [.nilf], .func, false, none, false, false⟩
      (.node (.node .leaf 229 ⟨1, false, [.nilf], .func, false, none, false, false⟩
        .leaf) 230 ⟨1, false, [.nilp], .ptr, false, some 242, false, false⟩
       (.node .leaf 231 ⟨1, false, [.nilf], .func, false, none, false, false⟩
        .leaf))) 232 ⟨1, false, [.nilf], .func, false, none, false, false⟩
     (.node (.node (.node .leaf 233 ⟨1, false, [.nilf], .func, false, none, false, false⟩
        .leaf) 234 ⟨24, true, [.int .u8 0, .int .u8 0, .int .u8 0, .int .u8 0, .int .u8 0, .int .u8 0, .int .u8 0, .int .u8 0, .int .u8 0, .int .u8 0, .int .u8 0, .int .u8 0, .int .u8 0, .int .u8 0, .int .u8 0, .int .u8 0, .int .u8 0, .int .u8 0, .int .u8 0, .int .u8 0, .int .u8 0, .int .u8 0, .int .u8 0, .int .u8 0], .arr 24 5 1, true, none, false, false⟩
       (.node .leaf 235 ⟨1, false, [.nilf], .func, false, none, false, false⟩
        .leaf)) 237 ⟨1, false, [.nilf], .func, false, none, false, false⟩
      (.node (.node .leaf 238 ⟨1, false, [.nilf], .func, false, none, false, false⟩
        .leaf) 240 ⟨1, false, [.nilf], .func, false, none, false, false⟩
       .leaf)))) 241 ⟨3, true, [.str [], .str [], .nili], .struct [(0, 9), (1, 9), (2, 171)], false, none, false, false⟩
   (.node (.node (.node (.node (.node .leaf 242 ⟨3, true, [.str [], .str [], .nili], .struct [(0, 9), (1, 9), (2, 171)], false, none, false, false⟩
        .leaf) 243 ⟨1, false, [.nilf], .func, false, none, false, false⟩
       (.node .leaf 244 ⟨1, false, [.nilf], .func, false, none, false, false⟩
        .leaf)) 245 ⟨20, true, [.int .u64 0, .int .u64 0, .int .u64 0, .int .u64 0, .int .u64 0, .int .u64 0, .int .u64 0, .int .u64 0, .int .u64 0, .int .u64 0, .int .u64 0, .int .u64 0, .int .u64 0, .int .u64 0, .int .u64 0, .int .u64 0, .int .u64 0, .int .u64 0, .int .u64 0, .int .u64 0], .arr 20 22 1, true, none, false, false⟩
      (.node (.node .leaf 246 ⟨65, true, [.int .u8 0, .int .u8 0, .int .u8 0, .int .u8 0, .int .u8 0, .int .u8 0, .int .u8 0, .int .u8 0, .int .u8 0, .int .u8 0, .int .u8 0, .int .u8 0, .int .u8 0, .int .u8 0, .int .u8 0, .int .u8 0, .int .u8 0, .int .u8 0, .int .u8 0, .int .u8 0, .int .u8 0, .int .u8 0, .int .u8 0, .int .u8 0, .int .u8 0, .int .u8 0, .int .u8 0, .int .u8 0, .int .u8 0, .int .u8 0, .int .u8 0, .int .u8 0, .int .u8 0, .int .u8 0, .int .u8 0, .int .u8 0, .int .u8 0, .int .u8 0, .int .u8 0, .int .u8 0, .int .u8 0, .int .u8 0, .int .u8 0, .int .u8 0, .int .u8 0, .int .u8 0, .int .u8 0, .int .u8 0, .int .u8 0, .int .u8 0, .int .u8 0, .int .u8 0, .int .u8 0, .int .u8 0, .int .u8 0, .int .u8 0, .int .u8 0, .int .u8 0, .int .u8 0, .int .u8 0, .int .u8 0, .int .u8 0, .int .u8 0, .int .u8 0, .int .u8 0], .arr 65 5 1, true, none, false, false⟩
        .leaf) 247 ⟨1, false, [.nilf], .func, false, none, false, false⟩
       (.node .leaf 248 ⟨1, false, [.nilf], .func, false, none, false, false⟩
        .leaf))) 250 ⟨2, true, [.int .u8 0, .int .u8 0], .struct [(0, 5), (1, 5)], true, none, false, false⟩
     (.node (.node (.node .leaf 251 ⟨2, true, [.int .u8 0, .int .u8 0], .struct [(0, 5), (1, 5)], true, none, false, false⟩
        .leaf) 252 ⟨32, true, [.int .u8 0, .int .u8 0, .int .u8 0, .int .u8 0, .int .u8 0, .int .u8 0, .int .u8 0, .int .u8 0, .int .u8 0, .int .u8 0, .int .u8 0, .int .u8 0, .int .u8 0, .int .u8 0, .int .u8 0, .int .u8 0, .int .u8 0, .int .u8 0, .int .u8 0, .int .u8 0, .int .u8 0, .int .u8 0, .int .u8 0, .int .u8 0, .int .u8 0, .int .u8 0, .int .u8 0, .int .u8 0, .int .u8 0, .int .u8 0, .int .u8 0, .int .u8 0], .arr 16 251 2, true, none, false, false⟩
       (.node .leaf 253 ⟨1, false, [.nilp], .ptr, false, some 255, false, false⟩
        .leaf)) 254 ⟨1, true, [.str []], .struct [(0, 9)], true, none, false, false⟩
      (.node (.node .leaf 255 ⟨1, true, [.str []], .struct [(0, 9)], true, none, false, false⟩
        .leaf) 256 ⟨1, false, [.nilf], .func, false, none, false, false⟩
       .leaf))) 257 ⟨1, false, [.nilf], .func, false, none, false, false⟩
    (.node (.node (.node (.node .leaf 258 ⟨32, true, [.int .u8 0, .int .u8 0, .int .u8 0, .int .u8 0, .int .u8 0, .int .u8 0, .int .u8 0, .int .u8 0, .int .u8 0, .int .u8 0, .int .u8 0, .int .u8 0, .int .u8 0, .int .u8 0, .int .u8 0, .int .u8 0, .int .u8 0, .int .u8 0, .int .u8 0, .int .u8 0, .int .u8 0, .int .u8 0, .int .u8 0, .int .u8 0, .int .u8 0, .int .u8 0, .int .u8 0, .int .u8 0, .int .u8 0, .int .u8 0, .int .u8 0, .int .u8 0], .arr 32 5 1, true, none, false, false⟩
        .leaf) 259 ⟨64, true, [.int .u8 0, .int .u8 0, .int .u8 0, .int .u8 0, .int .u8 0, .int .u8 0, .int .u8 0, .int .u8 0, .int .u8 0, .int .u8 0, .int .u8 0, .int .u8 0, .int .u8 0, .int .u8 0, .int .u8 0, .int .u8 0, .int .u8 0, .int .u8 0, .int .u8 0, .int .u8 0, .int .u8 0, .int .u8 0, .int .u8 0, .int .u8 0, .int .u8 0, .int .u8 0, .int .u8 0, .int .u8 0, .int .u8 0, .int .u8 0, .int .u8 0, .int .u8 0, .int .u8 0, .int .u8 0, .int .u8 0, .int .u8 0, .int .u8 0, .int .u8 0, .int .u8 0, .int .u8 0, .int .u8 0, .int .u8 0, .int .u8 0, .int .u8 0, .int .u8 0, .int .u8 0, .int .u8 0, .int .u8 0, .int .u8 0, .int .u8 0, .int .u8 0, .int .u8 0, .int .u8 0, .int .u8 0, .int .u8 0, .int .u8 0, .int .u8 0, .int .u8 0, .int .u8 0, .int .u8 0, .int .u8 0, .int .u8 0, .int .u8 0, .int .u8 0], .arr 64 5 1, true, none, false, false⟩
       (.node .leaf 260 ⟨4, true, [.nilp, .nilp, .nilp, .str []], .struct [(0, 17), (1, 17), (2, 17), (3, 9)], false, none, false, false⟩
        .leaf)) 261 ⟨4, true, [.nilp, .nilp, .nilp, .str []], .struct [(0, 17), (1, 17), (2, 17), (3, 9)], false, none, false, false⟩
      (.node (.node .leaf 262 ⟨0, true, [], .arr 0 16 1, false, none, false, false⟩
        .leaf) 263 ⟨0, true, [], .struct [(0, 262)], false, none, false, false⟩
       (.node .leaf 264 ⟨0, true, [], .struct [(0, 262)], false, none, false, false⟩
        .leaf))) 265 ⟨1, false, [.int .u8 0], .int .u8, false, none, false, false⟩
     (.node (.node (.node .leaf 266 ⟨1, false, [.int .u8 0], .int .u8, false, none, false, false⟩
        .leaf) 267 ⟨1, false, [.nilf], .func, false, none, false, false⟩
       (.node .leaf 268 ⟨1, false, [.int .i32 0], .int .i32, false, none, false, false⟩
        .leaf)) 269 ⟨1, false, [.int .i32 0], .int .i32, false, none, false, false⟩
      (.node (.node .leaf 270 ⟨11, true, [.int .u64 0, .int .u64 0, .int .u32 0, .int .u8 0, .int .u8 0, .int .u8 0, .int .u8 0, .nilf, .nilp, .int .i32 0, .int .i32 0], .struct [(0, 12), (1, 12), (2, 177), (3, 265), (4, 5), (5, 5), (6, 266), (7, 267), (8, 176), (9, 268), (10, 269)], false, none, false, false⟩
        .leaf) 271 ⟨11, true, [.int .u64 0, .int .u64 0, .int .u32 0, .int .u8 0, .int .u8 0, .int .u8 0, .int .u8 0, .nilf, .nilp, .int .i32 0, .int .i32 0], .struct [(0, 12), (1, 12), (2, 177), (3, 265), (4, 5), (5, 5), (6, 266), (7, 267), (8, 176), (9, 268), (10, 269)], false, none, false, false⟩
       .leaf)))))))
theorem zaa : zcs Tryz.prog tt := ym6 (by kernel_rfl)
theorem yml (x : Int) (h0 : 0 <= x) (h1 : x <= 1000000) : za7 Tryz.prog 90 [.int .i64 x] (.int .i64 (x + 20)) := by
 refine za5 (T := tt) (S := noS) (lo := noA) (lb := noA) 5 (fn := Tryz.f90) rfl rfl (by kernel_rfl) (by kernel_rfl) rfl zaa (zcc _) (by kernel_rfl) ?_
 (intro L P1 Q1 hL hP hQ; cbv; subst hL; simp only [L2, L3, std, syT]; subst hQ)
 (simp only [syS, reduceCtorEq, Int.reduceToNat, Int.reduceAdd, Int.reduceSub])
 omega
end Sy
end Go.Proofs.YtcgikjfloloekaaGreatDoor
namespace Go.Proofs.YtcgikjfloloekaaGreatDoor
open Go.RowKit Go.WideShapes Go.ChangeShapes Go.ChangeAt
def zea (b : UInt8) : Value := .int .u8 (b.toNat : Int)
def str (l : List UInt8) : Value := .string ⟨l.toArray⟩
theorem zix (n : Nat) : zea (UInt8.ofNat n) = .int .u8 ((n : Int) % 256) := by
 have h : (((UInt8.ofNat n).toNat : Nat) : Int) = (n : Int) % 256 := by
   rw [UInt8.toNat_ofNat']; omega
 unfold zea; rw [h]
@[go_sem] theorem ba_get (l : List UInt8) (k : Nat) (h : k < (⟨l.toArray⟩ : ByteArray).size) : (⟨l.toArray⟩ : ByteArray)[k] = l[k]'h := rfl
@[go_sem] theorem ba_append (a b : List UInt8) : (⟨a.toArray⟩ : ByteArray) ++ ⟨b.toArray⟩ = ⟨(a ++ b).toArray⟩ := by
 apply ByteArray.ext; simp
theorem zk9 (l : List UInt8) (a b : Nat) : (⟨l.toArray⟩ : ByteArray).extract a b = ⟨((l.drop a).take (b - a)).toArray⟩ := by
 apply ByteArray.ext; simp [ByteArray.data_extract]
@[go_sem] theorem ba_extract_all (l : List UInt8) (a : Nat) : (⟨l.toArray⟩ : ByteArray).extract a l.length = ⟨(l.drop a).toArray⟩ := by
 rw [zk9, List.take_of_length_le (by simp)]
@[go_sem] theorem ba_extract_zero (l : List UInt8) (b : Nat) : (⟨l.toArray⟩ : ByteArray).extract 0 b = ⟨(l.take b).toArray⟩ := by
 rw [zk9, List.drop_zero, Nat.sub_zero]
@[go_sem] theorem wrap_byte_u64 (b : UInt8) : IntKind.u64.wrap (b.toNat : Int) = b.toNat := by
 have := b.toNat_lt; rw [IntKind.wrap_u64]; omega
@[go_sem] theorem wrap_byte_u32 (b : UInt8) : IntKind.u32.wrap (b.toNat : Int) = b.toNat := by
 have := b.toNat_lt; rw [IntKind.wrap_u32]; omega
@[go_sem] theorem wrap_byte_u16 (b : UInt8) : IntKind.u16.wrap (b.toNat : Int) = b.toNat := by
 have := b.toNat_lt; rw [IntKind.wrap_u16]; omega
@[go_sem] theorem wrap_byte_u8 (b : UInt8) : IntKind.u8.wrap (b.toNat : Int) = b.toNat := by
 have := b.toNat_lt; rw [IntKind.wrap_u8]; omega
@[go_sem] theorem wrap_byte_i64 (b : UInt8) : IntKind.i64.wrap (b.toNat : Int) = b.toNat := by
 have := b.toNat_lt; rw [IntKind.wrap_i64]; omega
theorem yjo {α : Type} (l : List α) (i : Nat) (d : α) (h : i < l.length) : l.getD i d = l[i] := by simp [h]
theorem yqc (b : UInt8) : (b.toNat : Int) < 256 := by have := b.toNat_lt; omega
theorem zh0 (g j : Nat) : (⟨g, 0, none⟩ : Addr).add j = ⟨g, j, none⟩ := by
 unfold Addr.add
 split
 · rename_i h; rw [h]
 · rw [Nat.zero_add]
theorem zqn {P : Program} {w : World} {src dst e : TypeId} {g n cap : Nat} {f : Nat -> Value} (l : List UInt8) (hs : P.underlying src = some (.slice e)) (he : P.underlying e = some (.int .u8)) (hd : P.underlying dst = some .string)
   (hr : w.rowIs g e n f) (hl : l.length = n) (hf : ∀ i (hi : i < l.length), f i = zea l[i]) :
   (convert src dst (.slice (some ⟨g, 0, none⟩) n cap)).run P w = .ok (.string ⟨l.toArray⟩) w := by
 subst hl
 refine run_convert_bytes_back w src dst e _ cap l hs he hd fun j hj => ?_
 have := hr.cell hj
 rw [hf j hj] at this
 rw [zh0]
 exact this
theorem yk8 {P : Program} {src dst e : TypeId} (hs : P.underlying src = some (.slice e)) (he : P.underlying e = some (.int .u8)) (hd : P.underlying dst = some .string) (W : World) (v : Int) (b : UInt8) (hv : (b.toNat : Int) = v) :
   (convert src dst (.slice (some ⟨W.heap.size, 0, none⟩) 1 1)).run P (W.alloc (.cells #[.int .u8 v] e)) = .ok (.string ⟨[b].toArray⟩) (W.alloc (.cells #[.int .u8 v] e)) := by
 subst hv
 refine zqn (n := 1) (f := fun _ => zea b) [b] hs he hd (World.rowIs_alloc W #[zea b] e (fun _ => zea b) ?_) rfl ?_
 · intro i hi
   simp at hi
   subst hi
   rfl
 · intro i hi
   simp at hi
   subst hi
   rfl
theorem ofNat_toNat (x : Nat) : ((UInt8.ofNat x).toNat : Int) = (x : Int) % 256 := by rw [UInt8.toNat_ofNat']; omega
def Row (w : World) (b : Nat) (t : TypeId) (n : Nat) (f : Nat -> Value) : Prop :=
 ∃ (c : Array Value) (lo hi : Nat), w.heap[b]? = some (.cells c t (lo, hi)) /\ n <= c.size /\ (hi = 0 \/ n <= lo) /\ ∀ i, i < n -> c[i]? = some (f i)
section
variable {w w' : World} {b : Nat} {t : TypeId} {n : Nat} {f g : Nat -> Value}
theorem Row.cell (h : Row w b t n f) {i : Nat} (hi : i < n) : w.cell? ⟨b, i, none⟩ = some (f i) := by
 obtain ⟨c, lo, hi', hb, _, _, hc⟩ := h
 simp [World.cell?, hb, hc i hi]
theorem Row.frozen (h : Row w b t n f) {i : Nat} (hi : i < n) : w.frozen? ⟨b, i, none⟩ = false := by
 obtain ⟨c, lo, hi', hb, _, hf, _⟩ := h
 simp only [World.frozen?, hb]
 rcases hf with hf | hf
 · subst hf; simp
 · simp; omega
theorem Row.lt (h : Row w b t n f) : b < w.heap.size := by
 obtain ⟨c, lo, hi, hb, _⟩ := h
 exact (Array.getElem?_eq_some_iff.1 hb).1
theorem Row.congr (h : Row w b t n f) (e : ∀ i, i < n -> f i = g i) : Row w b t n g := by
 obtain ⟨c, lo, hi, hb, hn, hf, hc⟩ := h
 exact ⟨c, lo, hi, hb, hn, hf, fun i hi => by rw [hc i hi, e i hi]⟩
theorem Row.of_block (h : Row w b t n f) (e : w'.heap[b]? = w.heap[b]?) : Row w' b t n f := by
 obtain ⟨c, lo, hi, hb, hn, hf, hc⟩ := h
 exact ⟨c, lo, hi, e.trans hb, hn, hf, hc⟩
theorem Row.set (h : Row w b t n f) (i : Nat) (v : Value) : Row (w.setCell ⟨b, i, none⟩ v) b t n (fun j => if j = i then v else f j) := by
 obtain ⟨c, lo, hi', hb, hn, hf, hc⟩ := h
 refine ⟨c.setIfInBounds i v, lo, hi', ?_, by simpa using hn, hf, fun j hj => ?_⟩
 · simp [World.setCell, Array.getElem?_modify, hb]
 · rw [Array.getElem?_setIfInBounds]
   by_cases e : i = j
   · subst e
     have : i < c.size := by omega
     simp [this]
   · rw [if_neg e, hc j hj]
     show _ = some (if j = i then v else f j)
     rw [if_neg (fun (h : j = i) => e h.symm)]
theorem Row.alloc (h : Row w b t n f) (o : Obj) : Row (w.alloc o) b t n f := h.of_block (Below.heap_alloc _ _ _ h.lt)
theorem Row.drewN (h : Row w b t n f) (k : Nat) : Row (w.drewN k) b t n f := h
theorem Row.bytes (w : World) (t : TypeId) (l : List UInt8) (cap : Nat) : Row (w.alloc (.cells (bytesRow ⟨l.toArray⟩ cap) t ((bytesRow ⟨l.toArray⟩ cap).size, (bytesRow ⟨l.toArray⟩ cap).size + 1))) w.heap.size t l.length (fun j => zea (l.getD j 0)) := by
 refine ⟨bytesRow ⟨l.toArray⟩ cap, _, _, heap_alloc_new _ _, by simp [bytesRow], .inr (by simp [bytesRow]), fun i hi => ?_⟩
 rw [bytesRow_at _ _ _ (by simpa using hi)]
 simp [zea, hi]
theorem yk9 {P : Program} {src dst e : TypeId} {cap : Nat} (l : List UInt8) (hs : P.underlying src = some (.slice e)) (he : P.underlying e = some (.int .u8)) (hd : P.underlying dst = some .string)
   (hr : Row w b e n f) (hl : l.length = n) (hf : ∀ i (hi : i < l.length), f i = zea l[i]) :
   (convert src dst (.slice (some ⟨b, 0, none⟩) n cap)).run P w = .ok (.string ⟨l.toArray⟩) w := by
 subst hl
 refine run_convert_bytes_back w src dst e _ cap l hs he hd fun j hj => ?_
 have := hr.cell hj
 rw [hf j hj] at this
 rw [zh0]
 exact this
end
def Blk (w : World) (g : Nat) (t : TypeId) (cs : Array Value) : Prop := w.heap[g]? = some (.cells cs t (0, 0))
section
variable {w w' : World} {g : Nat} {t : TypeId} {cs : Array Value}
theorem Blk.lt (h : Blk w g t cs) : g < w.heap.size := by
 rcases Nat.lt_or_ge g w.heap.size with hlt | hge
 · exact hlt
 · unfold Blk at h; rw [Array.getElem?_eq_none hge] at h; cases h
theorem Blk.cell (h : Blk w g t cs) (i : Nat) : w.cell? ⟨g, i, none⟩ = cs[i]? := cell_of_row w g i cs t (0, 0) h
theorem Blk.frozen (h : Blk w g t cs) (i : Nat) : w.frozen? ⟨g, i, none⟩ = false := by
 unfold Blk at h
 simp [World.frozen?, h]
theorem Blk.new (w : World) (t : TypeId) (cs : Array Value) : Blk (w.alloc (.cells cs t)) w.heap.size t cs := heap_alloc_new w _
theorem Blk.drew (h : Blk w g t cs) : Blk w.drew g t cs := h
theorem Blk.drewN (h : Blk w g t cs) (n : Nat) : Blk (w.drewN n) g t cs := h
theorem Blk.alloc (h : Blk w g t cs) (o : Obj) : Blk (w.alloc o) g t cs := (Below.heap_alloc w o g h.lt).trans h
theorem Blk.grown {row : Option Nat} (h : Blk w g t cs) (hb : w.grownBy w' row) (hg : some g ≠ row) : Blk w' g t cs := (hb.block g h.lt hg).trans h
end
theorem zni {base : Nat} {e : TypeId} {size n : Nat} {v : Value} {xs : List Value} {w w' : World} (hown : w.ownsRow base e size v n xs) (hb : base <= w.heap.size) (hg : w.grownBy w' v.ownBlock) : Below base w w' :=
 (Below.refl _ _).grown hg hb fun k hk => (hown.lt k hk).1
theorem zm0 {P : Program} {ops : Array Oper} {rest : List Oper} {o : Oper} {a : Act} {Q : Exit -> Act -> World -> Prop} (wr : World) (hgd : o.guard = none) (s x : Operand) (t : TypeId)
   (ho : o.op = .call { callee := .builtin .append, args := #[s, x], argTypes := #[t, t] })
   (base : Nat) (e : TypeId) (z : Value) (bytes : Nat) (ht : P.underlying t = some (.slice e)) (hinfo : (P.info? e).map (fun i => (i.zero, i.size, i.bytes)) = some (some z, 1, bytes)) (hz1 : z.cells.size = 1)
   (v : Value) (n : Nat) (xs : List Value) (hs : a.eval s = v) (hown : wr.ownsRow base e 1 v n xs)
   (c : Value) (h1 : c.oneCell' = true) (hx : a.eval x = .slice (some ⟨wr.heap.size, 0, none⟩) 1 1)
   (hbytes : (n + 1) * bytes <= 140737488355328) (hn : n < 9223372036854775807) (hbase : base <= wr.heap.size)
   (h : ∀ v' w', w'.ownsRow base e 1 v' (n + 1) (xs ++ [c]) -> Below base wr w' -> wpList P ops Q rest (a.put o.dst v') w') : wpList P ops Q (o :: rest) a (wr.alloc (.cells #[c] e)) := by
 obtain ⟨i, hi, hzz⟩ := Option.map_eq_some_iff.1 hinfo
 simp only [Prod.mk.injEq] at hzz
 obtain ⟨hz, hsz, hby⟩ := hzz
 have hown' := hown.alloc (.cells #[c] e)
 refine wpList_append_own _ hgd s x t ho base e i z 1 bytes ht hi hz hsz hby hz1 (by decide) v n xs hs hown' ⟨wr.heap.size, 0, none⟩ 1 1 [c] hx rfl ?_ ?_ ?_ hbytes ?_ ?_
 · intro j u hj
   match j, hj with
   | 0, hj =>
     simp at hj; subst hj
     rw [zh0, cell_of_row _ _ _ _ _ _ (heap_alloc_new wr _)]; rfl
 · intro u hu
   simp at hu; subst hu; exact h1
 · unfold maxLen; omega
 · simp; omega
 · intro v' w' ho' hg _
   exact h v' w' ho' (((Below.refl _ _).alloc hbase _).trans (zni hown' (by simp; omega) hg))
theorem zzl {P : Program} {src dst e : TypeId} (hs : P.underlying src = some (.slice e)) (he : P.underlying e = some (.int .u8)) (hd : P.underlying dst = some .string) {w : World} {base n : Nat} {v : Value} (l : List UInt8)
   (h : w.ownsRow base e 1 v n (l.map zea)) : (convert src dst v).run P w = .ok (.string ⟨l.toArray⟩) w := by
 rcases h.2 with ⟨rfl, rfl⟩ | ⟨g, cap, cur, rfl, _, hh, hnc, _, hsz, hx⟩
 · have hl : l = [] := by have := h.1; simpa using this
   subst hl
   rw [run_convert_bytes_string w src dst e none 0 0 hs he hd]
   simp [Conv.bytesToString]; rfl
 · have hl : l.length = n := by have := h.1; simpa using this
   subst hl
   refine run_convert_bytes_back w src dst e _ cap l hs he hd fun j hj => ?_
   have := h.cells (g := g) rfl j (zea l[j]) (by simp [hj])
   exact this
theorem zkk {a b : List UInt8} (h : a = b) : Ending.returned (.string ⟨a.toArray⟩) = .returned (.string ⟨b.toArray⟩) := by rw [h]
theorem ztj {k : IntKind} {a b : Int} (h : a = b) : Ending.returned (.int k a) = .returned (.int k b) := by rw [h]
theorem zfq {P : Program} {a : Act} {w : World} {Q : Exit -> Act -> World -> Prop} {c rest : Code} (l : Nat) (J : Act -> World -> Prop) (μ : Act -> World -> Nat) (hf : findLabel c l = some (.seq .skip rest))
   (pass : ∀ a w, J a w -> rest.wp P (Exit.jump l (fun a' w' => J a' w' /\ μ a' w' < μ a w) Q) a w)
   (first : Hid (∀ a w, J a w -> rest.wp P (Exit.jump l J Q) a w) -> c.wp P (Exit.jump l J Q) a w) : (Code.scope c).wp P Q a w := by
 refine wp_scope_jumps l J μ hf (first fun a w hJ => Code.wp_mono (fun e a' w' hq => ?_) (pass a w hJ)) fun a w hJ => wp_seq (wp_skip (pass a w hJ))
 cases e <;> first | exact hq | exact ⟨hq.1, hq.2.1⟩
section
variable {l : Nat} {J : Act -> World -> Prop} {Q : Exit -> Act -> World -> Prop} {a : Act} {w : World}
@[go_sem] theorem jump_normal : Exit.jump l J Q .normal a w = Q .normal a w := rfl
@[go_sem] theorem jump_exit (id : Nat) : Exit.jump l J Q (.exit id) a w = Q (.exit id) a w := rfl
@[go_sem] theorem jump_ret : Exit.jump l J Q .ret a w = Q .ret a w := rfl
@[go_sem] theorem jump_panic (ch : List PanicEntry) : Exit.jump l J Q (.panic ch) a w = Q (.panic ch) a w := rfl
end
theorem zvh {a b c : World} (h : Below a.heap.size a b) (k : Below b.heap.size b c) : Below a.heap.size a c :=
 h.trans (k.mono h.size)
theorem _root_.Go.RowKit.Below.trans' {a b c : World} (h : Below a.heap.size a b) (k : Below b.heap.size b c) : Below a.heap.size a c := zvh h k
section
variable {H : Type} {enc : TypeId × Value -> H} {P : Program}
theorem zpk {f : Func} {s : ChangeSpec} {apart fresh handsOn again : Bool} {W W' : World} {args : Array Value} {v : Value} {ds gs : List (DataW H)} {before pa pv : List MemPlace}
   (hW : DataW.Whole enc P f.params.toList s.vars apart W args.toList ds gs before)
   (hres : ∀ (b : Nat) (sp : Nat -> Bool) (hd : Bool), DataW.TrodAll enc P W' b sp hd f.resultTypes.toList (v.resultList f.resultTypes.size) (s.fn H (ds ++ gs)).results [])
   (hargs : ∀ sp : Nat -> Bool, (∀ p ∈ before, sp p.block = true) -> DataW.TrodAll enc P W' 0 sp true f.params.toList args.toList (s.fn H (ds ++ gs)).args pa)
   (hvars : ∀ sp : Nat -> Bool, (∀ p ∈ before, sp p.block = true) -> DataW.TrodVars enc P W' sp s.vars (s.fn H (ds ++ gs)).vars pv)
   (hps : before = pa ++ pv) (hb : Below W.heap.size W W')
   (hok : ∀ (j : Nat) (t : TypeId) (r : Value), f.resultTypes[j]? = some t -> (v.resultList f.resultTypes.size)[j]? = some r -> Value.okWide P W' .any 0 t r) :
   s.post enc P f apart fresh handsOn again W args v W' := by
 have hlt : ∀ p ∈ before, p.block < W.heap.size := fun p hp => hW.lt p hp
 have hold : ∀ p ∈ before, (fun b => decide (b < W.heap.size)) p.block = true := fun p hp => by simpa using hlt p hp
 refine ⟨ds, gs, before, [], pa, pv, hW, hres _ _ _, hargs _ hold, hvars _ hold, World.keptBut_mono (fun p hp => ⟨hp, ?_⟩) (hb.frame (· ∈ before)), fun _ => ?_⟩
 · rw [hps, List.mem_append] at hp
   exact Or.inr hp
 · obtain ⟨_, _, _, _, _, hz, hn⟩ := hW
   refine ⟨hok, _, _, ([] ++ pa) ++ pv, ⟨[] ++ pa, pv, trodAll_append (hargs _ (fun _ _ => rfl)) (hres _ _ _), hvars _ (fun _ _ => rfl), rfl, ?_, ?_⟩, ?_⟩
   · intro b off hp
     have hin : MemPlace.cell b off ∈ before := by rw [hps]; simpa using hp
     rw [hb.frozen (hlt _ hin)]
     exact hz b off hin
   · intro ha
     have := hn ha
     rw [hps] at this
     simpa using this
   · intro p hp _
     rw [hps]
     simpa using hp
theorem zj2 (hl : laidOutB P = true) {W W' : World} (hb : Below W.heap.size W W') {sp : Nat -> Bool} :
   ∀ {ts : List TypeId} {vs : List Value} {ds : List (DataW H)} {ps : List MemPlace}, (∀ t ∈ ts, P.readableRec t = true /\ t < P.types.size) ->
   DataW.TrodAll enc P W 0 (fun _ => true) true ts vs ds ps -> (∀ x ∈ ps, x.block < W.heap.size) -> (∀ x ∈ ps, sp x.block = true) -> DataW.TrodAll enc P W' 0 sp true ts vs ds ps
 | [], [], [], _, _, h, _, _ => h
 | _ :: _, _ :: _, _ :: _, _, hr, ⟨p, q, h1, h2, e⟩, hlt, hs =>
   ⟨p, q, WideElems.Trod_stays hl (hr _ (List.mem_cons.2 (Or.inl rfl))).1 (hr _ (List.mem_cons.2 (Or.inl rfl))).2 h1
       (fun x hx => hb.same (hlt x (by rw [e]; exact List.mem_append_left _ hx))) (fun x hx => hs x (by rw [e]; exact List.mem_append_left _ hx)),
     zj2 hl hb (fun t ht => hr t (List.mem_cons.2 (Or.inr ht))) h2 (fun x hx => hlt x (by rw [e]; exact List.mem_append_right _ hx)) (fun x hx => hs x (by rw [e]; exact List.mem_append_right _ hx)), e⟩
theorem post_law {f : Func} {s : ChangeSpec} {apart fresh handsOn again : Bool} {W W' : World} {args : Array Value} {ds : List (DataW H)} {before : List MemPlace} {tb : TypeId}
   (hl : laidOutB P = true) (hr : (f.params.toList.all fun t => P.readableRec t && decide (t < P.types.size)) = true) (hbt : f.resultTypes = #[tb]) (hub : P.underlying tb = some .bool) (hsv : s.vars = [])
   (hW : DataW.Whole enc P f.params.toList s.vars apart W args.toList ds [] before)
   (hfn : s.fn H (ds ++ []) = { results := [.lit (.bool true)], args := ds }) (hb : Below W.heap.size W W') :
   s.post enc P f apart fresh handsOn again W args (.bool true) W' := by
 have hlt : ∀ p ∈ before, p.block < W.heap.size := fun p hp => hW.lt p hp
 obtain ⟨p, q, hA, hV, hpq, _, _⟩ := id hW
 rw [hsv] at hV
 have hq : q = [] := hV
 subst hq
 rw [List.append_nil] at hpq
 subst hpq
 refine zpk (pa := before) (pv := []) hW ?_ ?_ ?_ (by simp) hb ?_
 · intro _ _ _
   rw [hfn, hbt]
   exact trodAll_mk1 (shut_bool hub true)
 · intro sp hsp
   rw [hfn]
   exact zj2 hl hb (fun t ht => by simpa using List.all_eq_true.1 hr t ht) hA hlt hsp
 · intro sp _
   rw [hfn, hsv]
   rfl
 · exact ok_one hbt rfl (okWide_bool_mk hub true)
end
end Go.Proofs.YtcgikjfloloekaaGreatDoor
namespace Go.Proofs.YtcgikjfloloekaaGreatDoor
open Go.RowKit
theorem i5 : (Tryz.prog.info? 5).map (fun i => (i.zero, i.size, i.bytes)) = some (some (.int .u8 0), 1, 1) := by kernel_rfl
def cl8 (k : Int) : Nat := (min (max k 0) 8).toNat
def zie (n : Nat) : Nat -> List UInt8
 | 0 => []
 | i+1 => UInt8.ofNat (n / 256^i) :: zie n i
theorem yfp (k : Int) : cl8 k <= 8 := by unfold cl8; omega
theorem zd2 (n c : Nat) : (zie n c).length = c := by induction c <;> simp_all [zie]
theorem yht (n c t : Nat) (h : t < (zie n c).length) : (zie n c)[t] = UInt8.ofNat (n / 256 ^ (c - 1 - t)) := by
 induction c generalizing t with
 | zero => simp [zie] at h
 | succ c ih =>
   rcases t with _ | t
   · simp [zie]
   · simp only [zie, List.getElem_cons_succ]
     rw [ih]
     congr 3; omega
set_option maxRecDepth 100000 in
set_option maxHeartbeats 400000 in
theorem yd0 (n : Nat) (k : Int) (w : World) (_hn : n < 18446744073709551616) :
   Calls Tryz.prog 59 #[.int .u64 n, .int .i64 k] w fun e w' => e = .returned (.string ⟨(zie n (cl8 k)).toArray⟩) /\ Below w.heap.size w w' := by
 have h8 := yfp k
 have hmk := fun W => run_make_row' (P := Tryz.prog) 139 5 (.int .u8 0) 1 Tryz.underlying139 i5 rfl .i64 .i64 (cl8 k) (by omega) (by omega) W
 go_enter Tryz.func59, Tryz.ntmps59
 go_upto_region 1 with (fail)
 go_cut [1] (fun v wx => v = .int .i64 (cl8 k) /\ w = wx)
 case first =>
   go_wp2
   all_goals (go_meet; exact ⟨by unfold cl8; go_num, rfl⟩)
 case rest =>
   obtain ⟨rfl, rfl⟩ := hcut
   generalize hc : cl8 k = c at *
   have Hc := Lib.hid hc
   clear hc
   go_wp2
   go_loopw [0, 6] (fun m i wr => ∃ j x : Nat, j <= c /\ i = .int .i64 ((j : Int) - 1) /\ m = .int .u64 (x : Int) /\ Hid (x = n / 256 ^ (c - j)) /\
      wr.rowIs w.heap.size 5 c (fun t => if t < j then .int .u8 0 else zea (UInt8.ofNat (n / 256 ^ (c - 1 - t)))) /\ Below w.heap.size w wr) (fun _ i _ => (intOf i + 1).toNat)
   case atStart =>
     refine ⟨c, n, by omega, by simp, by simp, Lib.hid (by simp), ?_, ?_⟩
     · exact (World.rowIs_made w (.int .u8 0) c 5).congr (fun i hi => by simp [hi])
     · exact (Below.refl _ _).alloc (Nat.le_refl _) _
   case round =>
     obtain ⟨j, x, hj, rfl, rfl, hx, hrow, hb⟩ := hrel
     rcases j with _ | j
     · have hconv := fun cc => zqn (P := Tryz.prog) (src := 139) (dst := 9) (cap := cc) (zie n c) Tryz.underlying139 Tryz.underlying5 Tryz.underlying9 hrow (zd2 n c) (fun i hi => by simp [yht])
       go_wp2
       go_ret
       exact ⟨zkk (by rw [Hc.out]), hb⟩
     · have hc := hrow.cell (i := j) (by omega)
       have hf := hrow.frozen j
       have hs := hrow.set j (.int .u8 ((x : Int) % 256))
       have hB := hb.setCell (p := ⟨w.heap.size, j, none⟩) (Nat.le_refl _) (.int .u8 ((x : Int) % 256))
       have h0 : ((j + 1 : Nat) : Int) - 1 = j := by omega
       rw [h0]
       simp only [Nat.lt_succ_self, if_true] at hc
       clear hrow hb h0
       go_wp2
       go_roundw
       case rel =>
         refine ⟨j, x / 256, by omega, rfl, rfl, Lib.hid ?_, hs.congr fun t ht => ?_, hB⟩
         · rw [hx.out, Nat.div_div_eq_div_mul, <- Nat.pow_succ]; congr 2; omega
         · by_cases h1 : t = j
           · subst h1; rw [if_pos rfl, if_neg (by omega), zix, hx.out, show c - (t + 1) = c - 1 - t by omega]
           · rw [if_neg h1]
             by_cases h2 : t < j
             · rw [if_pos h2, if_pos (by omega)]
             · rw [if_neg h2, if_neg (by omega)]
       case measure => simp [intOf] <;> omega
def zon (l : List UInt8) : Nat := l.foldl (fun n b => n * 256 + b.toNat) 0
theorem zk2 (l : List UInt8) (b : UInt8) : zon (l ++ [b]) = zon l * 256 + b.toNat := by simp [zon]
theorem zk1 (l : List UInt8) (k : Nat) (h : k < l.length) : zon (l.take (k + 1)) = zon (l.take k) * 256 + l[k].toNat := by
 rw [List.take_succ_eq_append_getElem h, zk2]
theorem zuk (l : List UInt8) : zon l < 256 ^ l.length := by
 rw [<- List.reverse_reverse l]
 induction l.reverse with
 | nil => simp [zon]
 | cons b l ih =>
   rw [List.reverse_cons, zk2, List.length_append, List.length_singleton, Nat.pow_succ]
   have := b.toNat_lt
   omega
theorem zwx (l : List UInt8) (k : Nat) (h : k < l.length) (h8 : l.length <= 8) : zon (l.take k) < 72057594037927936 := by
 have h1 := zuk (l.take k)
 have h2 : (l.take k).length <= 7 := by rw [List.length_take]; omega
 have h3 : 256 ^ (l.take k).length <= 256 ^ 7 := Nat.pow_le_pow_right (by omega) h2
 omega
theorem ynk (x : Nat) (b : UInt8) (h : x < 72057594037927936) : bits .or .u64 ((x : Int) * 256) (b.toNat : Int) = ((x * 256 + b.toNat : Nat) : Int) := by
 have hb := b.toNat_lt
 have := u64_or_nat (x * 256) b.toNat (by omega) (by omega)
 rw [nat_join 8 (x * 256) b.toNat (by omega) (by omega)] at this
 rw [<- this]; congr 1
set_option maxRecDepth 100000 in
set_option maxHeartbeats 400000 in
theorem yp7 (l : List UInt8) (w : World) (h1 : 1 <= l.length) (h8 : l.length <= 8) :
   Calls Tryz.prog 92 #[.string ⟨l.toArray⟩] w fun e w' => e = .returned (.tuple #[.int .u64 (zon l), .int .i64 0]) /\ w = w' := by
 have hne : (l == []) = false := by cases l <;> simp_all
 have hne' : l ≠ [] := by intro h; simp [h] at h1
 go_enter Tryz.func92, Tryz.ntmps92
 go_wp2
 refine zfq 0 (fun a' w' => w = w' /\ ∃ (k x : Nat), Hid (x = zon (l.take k)) /\ k < l.length /\ x < 72057594037927936 /\ ∃ u1 u2 u3 u6 u7 u8 u9 u10 u11 u12 u13 u14 u15 u16 u17 u18 u19 u20 u21 u22 u23 u24 : Value, a' = ⟨#[.string ⟨l.toArray⟩, u1, u2, u3, .int .u64 (x : Int), .int .i64 (k : Int), u6, u7, u8, u9, u10, u11, u12, u13, u14, u15, u16, u17, u18, u19, u20, u21, u22, u23, u24], []⟩) (fun a' _ => l.length - (intOf (a'.tmps.getD 5 undef)).toNat) rfl ?_ ?_
 · rintro a' w' ⟨rfl, k, x, hx, hk, hx7, u1, u2, u3, u6, u7, u8, u9, u10, u11, u12, u13, u14, u15, u16, u17, u18, u19, u20, u21, u22, u23, u24, rfl⟩
   have hor := ynk x l[k] hx7
   go_wp2
   · go_step3
     exact ⟨rfl, ⟨rfl, k + 1, x * 256 + l[k].toNat, Lib.hid (by rw [zk1 l k hk, hx.out]), by omega, by have := zwx l (k + 1) (by omega) h8; rw [zk1 l k hk, <- hx.out] at this; exact this, _, _, _, _, _, _, _, _, _, _, _, _, _, _, _, _, _, _, _, _, _, _, by go_num⟩, by simp [intOf] <;> omega⟩
   · go_ret2
     refine ⟨?_, rfl⟩
     have : zon l = x * 256 + l[k].toNat := by rw [hx.out, <- zk1 l k hk, List.take_of_length_le (by omega)]
     rw [this]; rfl
 · intro hP
   go_wp2
   go_step3
   simp only [Exit.then]
   apply_assumption
   exact hP.out _ _ ⟨rfl, 0, 0, Lib.hid rfl, by omega, by omega, _, _, _, _, _, _, _, _, _, _, _, _, _, _, _, _, _, _, _, _, _, _, rfl⟩
set_option maxRecDepth 100000 in
set_option maxHeartbeats 400000 in
theorem ygg (a b : Nat) (w : World) (ha : a < 18446744073709551616) (hb : b < 18446744073709551616) :
   Calls Tryz.prog 47 #[.int .u64 a, .int .u64 b] w fun e w' => e = .returned (.int .u64 ((min (a+b) 18446744073709551615 : Nat) : Int)) /\ w = w' := by
 go_enter Tryz.func47, Tryz.ntmps47
 go_wp2
 all_goals (go_ret; exact ⟨by go_num, rfl⟩)
set_option maxRecDepth 100000 in
set_option maxHeartbeats 400000 in
theorem yhn (l : List UInt8) (w : World) (h8 : l.length <= 8) :
   Calls Tryz.prog 109 #[.string ⟨l.toArray⟩] w fun e w' => e = .returned (.int .u64 (zon l)) /\ w = w' := by
 go_enter Tryz.func109, Tryz.ntmps109
 go_wp2
 go_loop [3, 4] (fun n i => ∃ k x : Nat, Hid (x = zon (l.take k)) /\ k <= l.length /\ i = .int .i64 k /\ n = .int .u64 x) (fun _ i => l.length - (intOf i).toNat)
 case atStart => exact ⟨0, 0, Lib.hid rfl, by omega, rfl, rfl⟩
 case round =>
   obtain ⟨k, x, hx, hk, rfl, rfl⟩ := hrel
   by_cases hlt : k < l.length
   · have hx7 := zwx l k hlt h8
     rw [<- hx.out] at hx7
     have hb := yqc l[k]
     go_wp2
     go_round
     case rel => exact ⟨k + 1, x * 256 + l[k].toNat, Lib.hid (by rw [zk1 l k hlt, hx.out]), by omega, by go_num, by go_num⟩
     case measure => simp [intOf] <;> omega
   · go_wp2
     go_ret
     exact ⟨ztj (by rw [hx.out, List.take_of_length_le (by omega)]), rfl⟩
set_option maxRecDepth 100000 in
set_option maxHeartbeats 400000 in
theorem yhi (n : Nat) (k : Int) (w : World) (hn : n < 18446744073709551616) (hk0 : -9223372036854775808 <= k) (hk1 : k <= 9223372036854775807) :
   Calls Tryz.prog 75 #[.int .u64 n, .int .i64 k] w fun e w' => e = .returned (.string ⟨(zie n (cl8 k)).toArray⟩) /\ Below w.heap.size w w' := by
 go_enter Tryz.func75, Tryz.ntmps75
 go_wp2
 go_loopw [0, 5, 6] (fun m s i wr => ∃ j x : Nat, (j : Int) <= max k 0 /\ j <= 8 /\ x < 18446744073709551616 /\ i = .int .i64 j /\ m = .int .u64 x /\ Hid (x = n / 256 ^ j) /\ s = .string ⟨(zie n j).toArray⟩ /\ Below w.heap.size w wr) (fun _ _ i _ => 8 - (intOf i).toNat)
 case atStart => exact ⟨0, n, by omega, by omega, hn, rfl, rfl, Lib.hid (by simp), rfl, Below.refl _ _⟩
 case round =>
   obtain ⟨j, x, hj, hj8, hxb, rfl, rfl, hx, rfl, hb⟩ := hrel
   have hcv := fun W => yk8 (P := Tryz.prog) Tryz.underlying139 Tryz.underlying5 Tryz.underlying9 W ((x : Int) % 256) (UInt8.ofNat x) (ofNat_toNat x)
   by_cases h : (j : Int) < k
   · by_cases h2 : j < 8
     · have hl := zd2 n j
       have hp : zie n (j + 1) = UInt8.ofNat x :: zie n j := by rw [zie, hx.out]
       have Hp := Lib.hid hp
       have hl2 : (zie n j).length <= 8 := by omega
       clear hp hl
       go_wp2
       go_roundw
       case rel => exact ⟨j + 1, x / 256, by omega, by omega, by omega, by go_num, by go_num, Lib.hid (by rw [hx.out, Nat.div_div_eq_div_mul, <- Nat.pow_succ]), by rw [Hp.out], hb.alloc hb.size _⟩
       case measure => simp [intOf] <;> omega
     · go_wp2
       go_ret
       exact ⟨zkk (by rw [show cl8 k = j by unfold cl8; omega]), hb⟩
   · go_wp2
     go_ret
     exact ⟨zkk (by rw [show cl8 k = j by unfold cl8; omega]), hb⟩
def zdz (n : Nat) : List UInt8 := if n < 128 then [UInt8.ofNat n] else UInt8.ofNat (n % 128 + 128) :: zdz (n / 128)
termination_by n
decreasing_by omega
theorem zbd {n : Nat} (h : n < 128) : zdz n = [UInt8.ofNat n] := by rw [zdz, if_pos h]
theorem zeo {n : Nat} (h : 128 <= n) : zdz n = UInt8.ofNat (n % 128 + 128) :: zdz (n / 128) := by rw [zdz, if_neg (by omega)]
theorem ywy (x : Nat) : bits .or .u8 ((x : Int) % 256) 128 = (x : Int) % 128 + 128 := by
 have h := u8_or_nat (x % 256) 128 (by omega) (by omega)
 have h2 : x % 256 ||| 128 = x % 128 + 128 := by
   have e1 : x % 256 = x % 128 + x / 128 % 2 * 128 := by omega
   have h3 : x / 128 % 2 = 0 \/ x / 128 % 2 = 1 := by omega
   have j1 : ∀ y, y < 128 -> 128 ||| y = 128 + y := fun y hy => nat_join 7 128 y (by decide) hy
   have e2 : ∀ y, y < 128 -> (y + 128) ||| 128 = y + 128 := fun y hy => by
     rw [Nat.add_comm y 128, <- j1 y hy, Nat.or_comm 128 y, Nat.or_assoc, Nat.or_self]
   rcases h3 with h3 | h3
   · rw [e1, h3, Nat.or_comm]; simp only [Nat.zero_mul, Nat.add_zero]; rw [j1 _ (by omega)]; omega
   · rw [e1, h3, Nat.one_mul, e2 _ (by omega)]
 rw [h2] at h
 have e : (((x % 256 : Nat) : Int)) = (x : Int) % 256 := by omega
 rw [e] at h
 rw [show ((128 : Nat) : Int) = 128 from rfl] at h
 rw [h]; omega
set_option maxRecDepth 100000 in
set_option maxHeartbeats 400000 in
theorem ybg (n : Nat) (w : World) (hn : n < 18446744073709551616) :
   Calls Tryz.prog 87 #[.int .u64 n] w fun e w' => e = .returned (.string ⟨(zdz n).toArray⟩) /\ Below w.heap.size w w' := by
 go_enter Tryz.func87, Tryz.ntmps87
 go_wp2
 refine zfq 0 (fun a' w' => Below w.heap.size w w' /\ ∃ (x k : Nat) (v : Value) (pre : List UInt8), Hid (pre ++ zdz x = zdz n) /\ x < 18446744073709551616 /\ k <= 10 /\ Hid (x * 128 ^ k <= n) /\ w'.ownsRow w.heap.size 5 1 v k (pre.map zea) /\ ∃ u1 u2 u4 u5 u6 u7 u8 u9 u10 u11 u12 u13 u14 u15 u16 u17 u18 u19 : Value, a' = ⟨#[.int .u64 (x : Int), u1, u2, v, u4, u5, u6, u7, u8, u9, u10, u11, u12, u13, u14, u15, u16, u17, u18, u19], []⟩) (fun a' _ => (intOf (a'.tmps.getD 0 undef)).toNat) rfl ?_ ?_
 · rintro a' wr ⟨hb, x, k, v, pre, hpre, hx, hk, hxk, hown, u1, u2, u4, u5, u6, u7, u8, u9, u10, u11, u12, u13, u14, u15, u16, u17, u18, u19, rfl⟩
   have hor := ywy x
   have hsz := hb.size
   by_cases hlt : x < 128
   · have hx8 : ∀ w1 : World, ∀ v1, w1.ownsRow w.heap.size 5 1 v1 (k + 1) (List.map zea pre ++ [Value.int .u8 (x : Int)]) -> (convert 139 9 v1).run Tryz.prog w1 = .ok (.string ⟨(pre ++ [UInt8.ofNat x]).toArray⟩) w1 := fun w1 v1 h =>
       zzl (P := Tryz.prog) (src := 139) (dst := 9) (e := 5) Tryz.underlying139 Tryz.underlying5 Tryz.underlying9 (pre ++ [UInt8.ofNat x]) (by
         have e : (Value.int .u8 (x : Int)) = zea (UInt8.ofNat x) := by rw [zix]; go_num
         rw [List.map_append, List.map_singleton, <- e]; exact h)
     have Hx8 := Lib.hid hx8
     clear hx8
     go_wp2_with (at_builtin; refine zm0 _ rfl _ _ 139 rfl w.heap.size 5 (.int .u8 0) 1 Tryz.underlying139 i5 rfl _ _ _ rfl hown _ rfl rfl (by omega) (by omega) hsz ?_; intro v1 w1 hown1 hb1; have hcv := Hx8.out w1 v1 hown1; clear hown1 hown hor)
     go_ret
     exact ⟨zkk (by rw [<- hpre.out, zbd hlt]), hb.trans (by assumption)⟩
   · go_wp2_with (at_builtin; refine zm0 _ rfl _ _ 139 rfl w.heap.size 5 (.int .u8 0) 1 Tryz.underlying139 i5 rfl _ _ _ rfl hown _ rfl rfl (by omega) (by omega) hsz ?_; intro v1 w1 hown1 hb1)
     go_step3
     have h128 : 128 * 128 ^ k <= n := Nat.le_trans (Nat.mul_le_mul_right _ (by omega)) hxk.out
     have hk9 : k + 1 <= 10 := by
       refine Decidable.byContradiction fun h => ?_
       have : 128 ^ 10 <= 128 ^ k := Nat.pow_le_pow_right (by decide) (by omega)
       have h3 : (128 : Nat) ^ 10 = 1180591620717411303424 := by decide
       omega
     exact ⟨rfl, ⟨hb.trans hb1, x / 128, k + 1, v1, pre ++ [UInt8.ofNat (x % 128 + 128)], Lib.hid (by rw [List.append_assoc, <- hpre.out, zeo (n := x) (by omega)]; rfl), by omega, hk9, Lib.hid (by
       rw [Nat.pow_succ]; have h4 : x / 128 * (128 ^ k * 128) <= x * 128 ^ k := by
         rw [Nat.mul_comm (128 ^ k) 128, <- Nat.mul_assoc]; exact Nat.mul_le_mul_right _ (by omega)
       exact Nat.le_trans h4 hxk.out), by
       rw [List.map_append, List.map_singleton, zix]; rw [show (((x % 128 + 128 : Nat) : Int) % 256) = (x : Int) % 128 + 128 by omega]; exact hown1, _, _, _, _, _, _, _, _, _, _, _, _, _, _, _, _, _, _, rfl⟩, by simp [intOf]; omega⟩
 · intro hP
   go_wp2
   go_step3
   simp only [Exit.then]
   apply_assumption
   exact hP.out _ _ ⟨Below.refl _ _, n, 0, _, [], Lib.hid rfl, hn, by omega, Lib.hid (by simp), World.ownsRow_nil _ _ _ _, _, _, _, _, _, _, _, _, _, _, _, _, _, _, _, _, _, _, rfl⟩
theorem ysj (n : Nat) (k : Int) (r : List UInt8) (hn : n < 18446744073709551616) (hr : r = zie n (cl8 k)) (w : World) :
   Calls Tryz.prog 59 #[.int .u64 n, .int .i64 k] w fun e w' => e = .returned (.string ⟨r.toArray⟩) /\ Below w.heap.size w w' := by rw [hr]; exact yd0 n k w hn
end Go.Proofs.YtcgikjfloloekaaGreatDoor
