/-The symbolic executor: values, blocks that are a template's. The symbolic executor: calls that turn blocks of the caller's own. The symbolic executor: regions; and what stands between these and the texts behind.-/
import Derived.Test.YtlphgephdhadhaaM2
import Derived.Deep.LoopGhost
import Derived.IntWalk
import Derived.Test.YtlphgephdhadhaaRows
import Derived.WalkKit
import Derived.WalkSpells
import Derived.WalkLawsBesides
import Derived.Deep.DeepCutAuto
import Derived.Deep.OwnRows
import Derived.Laws.IdiomStrings
import Derived.Lib.Hide
import Derived.Below
import Derived.ChangeSame
import Derived.ScopeJumps
import Derived.ProofKit
import Derived.OpenShut
import Derived.Carry
import Derived.Lib.SmallJoins
import Derived.RegionTactic
import Derived.BigRegion
import Derived.Tactics
import Derived.Tactics2
import Derived.StillTactics
import Derived.Laws.Cells
import Derived.Laws.Pointers
import Derived.Laws.Sem
import Derived.Laws.Small
import Derived.LoopTactic
import Derived.LoopN
import Derived.Laws.IdiomRangeMap
import Derived.Maps.RangeRun
namespace Go.Proofs.Ytlphgephdhadhaa
namespace Sy
open Go Go.RowKit
set_option linter.unusedSimpArgs false
set_option linter.unusedVariables false
set_option linter.unusedSectionVars false
def zcs (μ : Mu) (F : List (Nat × Option Nat)) : Mu := fun t => match za1 F t with
 | some (some id) => μ id
 | some none => some none
 | none => none
def Inj (ids : List (Nat × Option Nat)) : Prop := ∀ t t' id, za1 ids t = some (some id) -> za1 ids t' = some (some id) -> t = t'
structure Ext (m m' : zay) : Prop where
 ids : ∀ t x, za1 m.ids t = some x -> za1 m'.ids t = some x
 ps : ∀ p, p ∈ m.ps -> p ∈ m'.ps
 inj : Inj m.ids -> Inj m'.ids
theorem Ext.refl (m : zay) : Ext m m := ⟨fun _ _ h => h, fun _ h => h, fun h => h⟩
theorem Ext.trans {m m' m'' : zay} (a : Ext m m') (b : Ext m' m'') : Ext m m'' := ⟨fun t x h => b.ids t x (a.ids t x h), fun p h => b.ps p (a.ps p h), fun h => b.inj (a.inj h)⟩
theorem Ext.add (m : zay) (p : Prop) : Ext m (m.add p) := ⟨fun _ _ h => h, fun q h => List.mem_cons_of_mem _ h, fun h => h⟩
theorem zq2 {id : Nat} {x : Option Nat} (h : zv3 id x = true) : x = some id := by
 unfold zv3 at h
 split at h
 · rw [za2 h]
 · cases h
theorem zoe {id : Nat} {ids : List (Nat × Option Nat)} (h : zii id ids = false) : ∀ t, za1 ids t ≠ some (some id) := by
 induction ids with
 | nil => intro t; simp [za1]
 | cons p r ih =>
   obtain ⟨k, y⟩ := p
   unfold zii at h
   cases e : zv3 id y with
   | true => rw [e] at h; cases h
   | false =>
     rw [e] at h
     intro t
     unfold za1
     split
     · intro hy
       cases hy
       simp [zv3, za3] at e
     · exact ih h t
theorem zcx {m m' : zay} {tid id : Nat} (h : zdk m tid id = some m') : Ext m m' /\ za1 m'.ids tid = some (some id) := by
 unfold zdk at h
 split at h
 · rename_i x hx
   split at h
   · rename_i e; cases h; exact ⟨.refl _, by rw [hx, zq2 e]⟩
   · cases h
 · rename_i hx
   split at h
   · cases h
   · rename_i e
     cases h
     refine ⟨⟨fun t x ht => ?_, fun _ h => h, fun hi t t' id' h1 h2 => ?_⟩, by simp [za1, za3]⟩
     · simp only [za1]
       split
       · rename_i e'; rw [za2 e'] at hx; rw [hx] at ht; cases ht
       · exact ht
     · have e := zoe (by simpa using e : zii id m.ids = false)
       simp only [za1] at h1 h2
       cases q1 : za9 tid t with
       | true => cases q2 : za9 tid t' with
         | true => rw [<- za2 q1, <- za2 q2]
         | false => rw [q1] at h1; rw [q2] at h2; cases h1; exact absurd h2 (e _)
       | false => cases q2 : za9 tid t' with
         | true => rw [q1] at h1; rw [q2] at h2; cases h2; exact absurd h1 (e _)
         | false => rw [q1] at h1; rw [q2] at h2; exact hi _ _ _ h1 h2
theorem zh0 {m m' : zay} {tid : Nat} (h : ze4 m tid = some m') : Ext m m' /\ za1 m'.ids tid = some none := by
 unfold ze4 at h
 split at h
 · cases h
 · rename_i hx
   cases h
   refine ⟨⟨fun t x ht => ?_, fun _ h => h, fun hi t t' id' h1 h2 => ?_⟩, by simp [za1, za3]⟩
   · simp only [za1]
     split
     · rename_i e'; rw [za2 e'] at hx; rw [hx] at ht; cases ht
     · exact ht
   · simp only [za1] at h1 h2
     split at h1 <;> split at h2
     · cases h1
     · cases h1
     · cases h2
     · exact hi _ _ _ h1 h2
section
variable {h : Array Obj} {D : Nat -> Prop} {μ : Mu}
def Fin (m : zay) (F : List (Nat × Option Nat)) : Prop := (∀ t x, za1 m.ids t = some x -> za1 F t = some x) /\ ∀ p, p ∈ m.ps -> p
theorem Fin.of {m m' : zay} {F : List (Nat × Option Nat)} (e : Ext m m') (f : Fin m' F) : Fin m F := ⟨fun t x h => f.1 t x (e.ids t x h), fun p h => f.2 p (e.ps p h)⟩
theorem zb1 {F : List (Nat × Option Nat)} {t id : Nat} (h : za1 F t = some (some id)) : zcs μ F t = μ id := by unfold zcs; rw [h]
theorem zlo {F : List (Nat × Option Nat)} {t : Nat} (h : za1 F t = some none) : zcs μ F t = some none := by unfold zcs; rw [h]
theorem zd3.turn {kk : KK} {has has' : Ky -> Bool} {es : Array MapEntry} {clock : Nat} {kf : Nat -> Ky} (k : zd3 kk has' es clock kf) (e : ∀ x, has' x = has x) : zd3 kk has es clock kf :=
 ⟨fun i x hx => ⟨(k.key i x hx).1, by rw [<- e]; exact (k.key i x hx).2⟩, fun x hx => k.all x (by rw [e]; exact hx), k.st⟩
theorem zhy {m m' : zay} {v u : AV} (e : zak m v u = some m') : Ext m m' /\ ∀ F x, Fin m' F -> R h D μ u x -> R h D (zcs μ F) v x := by
 unfold zak at e
 split at e
 · cases e; exact ⟨.refl _, fun F x _ _ => .dead _⟩
 · cases e; refine ⟨.add _ _, fun F x f r => ?_⟩
   have := f.2 _ (List.mem_cons_self ..); subst this
   cases r; exact .bool _
 · split at e
   · rename_i hk
     have hk := of_decide_eq_true hk; subst hk
     cases e; refine ⟨.add _ _, fun F x f r => ?_⟩
     have := f.2 _ (List.mem_cons_self ..); subst this
     cases r; exact .int _ _
   · cases e
 · cases e; refine ⟨.add _ _, fun F x f r => ?_⟩
   have := f.2 _ (List.mem_cons_self ..); subst this
   cases r with | str _ s e => exact .str _ s e
 · cases e; exact ⟨.refl _, fun F x _ r => by cases r; exact .nilp⟩
 · cases e; exact ⟨.refl _, fun F x _ r => by cases r; exact .nilm⟩
 · cases e; exact ⟨.refl _, fun F x _ r => by cases r; exact .nilf⟩
 · cases e; exact ⟨.refl _, fun F x _ r => by cases r; exact .nils⟩
 · cases e; exact ⟨.refl _, fun F x _ r => by cases r; exact .nili⟩
 · cases e; refine ⟨.add _ _, fun F x f r => ?_⟩
   have := f.2 _ (List.mem_cons_self ..); subst this
   cases r with
   | ifn => exact .ifn
   | ifs t p => exact .ifs t p
 · cases e; exact ⟨.refl _, fun F x _ r => by cases r; exact .emp _ _⟩
 · cases e; exact ⟨.refl _, fun F x _ r => by cases r; exact .emz _⟩
 · rename_i sz n get sz' n' get'
   split at e
   · rename_i hz
     have := za2 hz; subst this
     cases e; refine ⟨.add _ _, fun F x f r => ?_⟩
     obtain ⟨h1, h2⟩ := f.2 _ (List.mem_cons_self ..); subst h1
     cases r with
     | lst0 _ _ a cap hn => exact .lst0 _ _ a cap hn
     | lst _ _ _ b o cap vs hD hc hv h1 hr => exact .lst _ _ _ b o cap vs hD hc hv h1 (fun i j hi hj => by rw [<- h2 i j hi hj]; exact hr i j hi hj)
   · cases e
 · rename_i sz n get sz' n' get'
   split at e
   · rename_i hz
     have := za2 hz; subst this
     cases e; refine ⟨.add _ _, fun F x f r => ?_⟩
     obtain ⟨h1, h2⟩ := f.2 _ (List.mem_cons_self ..); subst h1
     cases r.lessx with
     | lst0 _ _ a cap hn => exact .lst0 _ _ a cap hn
     | lst _ _ _ b o cap vs hD hc hv h1 hr => exact .lst _ _ _ b o cap vs hD hc hv h1 (fun i j hi hj => by rw [<- h2 i j hi hj]; exact hr i j hi hj)
   · cases e
 · cases e; refine ⟨.add _ _, fun F x f r => ?_⟩
   have h1 := f.2 _ (List.mem_cons_self ..); subst h1
   cases r with | nils => exact .lst0 _ _ none 0 (fun _ => rfl)
 · cases e; refine ⟨.add _ _, fun F x f r => ?_⟩
   have h1 := f.2 _ (List.mem_cons_self ..); subst h1
   cases r with | emp a cap => exact .lst0 _ _ _ cap (fun h => by cases h)
 · cases e; refine ⟨.add _ _, fun F x f r => ?_⟩
   have h1 := f.2 _ (List.mem_cons_self ..); subst h1
   cases r with | emz a => exact .lst0 _ _ _ 0 (fun h => by cases h)
 · rename_i n get n' get'
   cases e; refine ⟨.add _ _, fun F x f r => ?_⟩
   obtain ⟨h1, h2⟩ := f.2 _ (List.mem_cons_self ..)
   cases r with
   | iptr _ _ b o vs hD hv h1' hr => exact .iptr _ _ b o vs hD (fun j hj => hv j (by omega)) (fun j hj => h1' j (by omega)) (fun j hj => by rw [<- h2 j hj]; exact hr j (by omega))
 · rename_i n get n' get'
   split at e
   · rename_i hz
     have := za2 hz; subst this
     cases e; refine ⟨.add _ _, fun F x f r => ?_⟩
     have h2 := f.2 _ (List.mem_cons_self ..)
     cases r with
     | arr _ _ vs e1 h1 hr => exact .arr _ _ vs e1 h1 (fun j v hv => by
         rw [<- h2 j (by rw [e1]; exact (Array.getElem?_eq_some_iff.1 hv).1)]
         exact hr j v hv)
   · cases e
 · split at e
   · rename_i ho
     have := za2 ho; subst this
     obtain ⟨e1, e2⟩ := zcx e
     refine ⟨e1, fun F x f r => ?_⟩
     cases r with | ref _ _ b z m hm => exact .ref _ _ b z m ((zb1 (f.1 _ _ e2)).trans hm)
   · cases e
 · split at e
   · rename_i hz
     split at e
     · rename_i ho
       split at e
       · rename_i m1 hp
         have := za2 hz; subst this
         have := za2 ho; subst this
         obtain ⟨e1, e2⟩ := zcx hp
         cases e
         refine ⟨e1.trans (.add _ _), fun F x f r => ?_⟩
         have h1 := f.2 _ (List.mem_cons_self ..); subst h1
         cases r with | eref _ _ _ _ b z m hm hi => exact .eref _ _ _ _ b z m ((zb1 (f.1 _ _ e2)).trans hm) hi
       · cases e
     · cases e
   · cases e
 · split at e
   · rename_i hz
     split at e
     · rename_i m1 hp
       have := za2 hz; subst this
       obtain ⟨e1, e2⟩ := zcx hp
       cases e
       refine ⟨e1.trans (.add _ _), fun F x f r => ?_⟩
       obtain ⟨h1, h2⟩ := f.2 _ (List.mem_cons_self ..); subst h1; subst h2
       cases r with
       | slv _ _ a hm => exact .slv _ _ a ((zb1 (f.1 _ _ e2)).trans hm)
       | sl0 _ _ _ b z m o hm ho => exact .sl0 _ _ _ b z m o ((zb1 (f.1 _ _ e2)).trans hm) ho
       | sl _ _ _ _ b z m cap hm hn hz ho => exact .sl _ _ _ _ b z m cap ((zb1 (f.1 _ _ e2)).trans hm) hn hz ho
     · cases e
   · cases e
 · split at e
   · rename_i hz
     split at e
     · rename_i m1 hp
       have := za2 hz; subst this
       obtain ⟨e1, e2⟩ := zcx hp
       cases e
       refine ⟨e1.trans (.add _ _), fun F x f r => ?_⟩
       obtain ⟨h1, h2⟩ := f.2 _ (List.mem_cons_self ..); subst h1; subst h2
       cases r.less with
       | slv _ _ a hm => exact .slv _ _ a ((zb1 (f.1 _ _ e2)).trans hm)
       | sl0 _ _ _ b z m o hm ho => exact .sl0 _ _ _ b z m o ((zb1 (f.1 _ _ e2)).trans hm) ho
       | sl _ _ _ _ b z m cap hm hn hz ho => exact .sl _ _ _ _ b z m cap ((zb1 (f.1 _ _ e2)).trans hm) hn hz ho
     · cases e
   · cases e
 · split at e
   · rename_i hz
     split at e
     · rename_i m1 hp
       have := za2 hz; subst this
       obtain ⟨e1, e2⟩ := zcx hp
       cases e
       refine ⟨e1.trans (.add _ _), fun F x f r => ?_⟩
       obtain ⟨h1, h2, h3⟩ := f.2 _ (List.mem_cons_self ..); subst h1; subst h2; subst h3
       cases r with
       | slcv _ _ a hm => exact .slcv _ _ a ((zb1 (f.1 _ _ e2)).trans hm)
       | slc0 _ _ _ b z m o hm ho => exact .slc0 _ _ _ b z m o ((zb1 (f.1 _ _ e2)).trans hm) ho
       | slc _ _ _ _ _ b z m hm hn hz ho => exact .slc _ _ _ _ _ b z m ((zb1 (f.1 _ _ e2)).trans hm) hn hz ho
     · cases e
   · cases e
 · split at e
   · rename_i m1 hp
     obtain ⟨e1, e2⟩ := zh0 hp
     cases e
     refine ⟨e1.trans (.add _ _), fun F x f r => ?_⟩
     obtain ⟨h1, h2⟩ := f.2 _ (List.mem_cons_self ..); subst h1; subst h2
     cases r with | nils => exact .slv _ _ none (zlo (f.1 _ _ e2))
   · cases e
 · split at e
   · rename_i hf hfr
     have := za2 hf; subst this
     cases e; refine ⟨.add _ _, fun F x f r => ?_⟩
     obtain ⟨h1, h2⟩ := f.2 _ (List.mem_cons_self ..); subst h1; subst h2
     exact (zc5 r hfr).free
   · cases e
 · obtain ⟨e1, e2⟩ := zcx e
   refine ⟨e1, fun F x f r => ?_⟩
   cases r with | mp _ b z m hm => exact .mp _ b z m ((zb1 (f.1 _ _ e2)).trans hm)
 · rename_i kk n has val kk' n' has' val'
   split at e
   · rename_i hk
     obtain rfl := of_decide_eq_true hk
     cases e; refine ⟨.add _ _, fun F x f r => ?_⟩
     obtain ⟨h1, h2, h3⟩ := f.2 _ (List.mem_cons_self ..)
     cases r with
     | mpi _ _ _ _ b es clock kf hD hb hn hk hr =>
       exact .mpi _ _ _ _ b es clock kf hD hb (hn.trans h1) (hk.turn h2) (fun i e he => by
         rw [<- h3 _ (by rw [<- h2]; exact (hk.key i e he).2)]; exact hr i e he)
   · cases e
 · cases e
theorem zd8 : ∀ {vs us : List AV} {m m' : zay}, zei m vs us = some m' -> Ext m m' /\ vs.length = us.length /\ ∀ F, Fin m' F -> ∀ (i : Nat) v u x, vs[i]? = some v -> us[i]? = some u -> R h D μ u x -> R h D (zcs μ F) v x
 | [], [], m, m', e => by cases e; exact ⟨.refl _, rfl, fun F f i v u x hv => by simp at hv⟩
 | [], _ :: _, m, m', e => by cases e
 | _ :: _, [], m, m', e => by cases e
 | v :: vs, u :: us, m, m', e => by
   unfold zei at e
   split at e
   · rename_i m1 e1
     obtain ⟨x1, r1⟩ := zhy (h := h) (D := D) (μ := μ) e1
     obtain ⟨x2, l2, r2⟩ := zd8 e
     refine ⟨x1.trans x2, by simp [l2], fun F f i v' u' x hv hu r => ?_⟩
     cases i with
     | zero => simp at hv hu; subst hv; subst hu; exact r1 F x (f.of x2) r
     | succ i => exact r2 F f i v' u' x (by simpa using hv) (by simpa using hu) r
   · cases e
theorem zlt {m m' : zay} {v u : AV} (e : zax m v u = some m') : Ext m m' /\ ∀ F x, Fin m' F -> R h D μ u x -> R h D (zcs μ F) v x := by
 unfold zax at e
 split at e
 · split at e
   · exact zhy e
   · split at e
     · rename_i m1 hf e1
       obtain rfl := za2 hf
       obtain ⟨x1, l1, r1⟩ := zd8 (h := h) (D := D) (μ := μ) e1
       obtain ⟨x2, l2, r2⟩ := zd8 (h := h) (D := D) (μ := μ) e
       refine ⟨x1.trans x2, fun F x f r => ?_⟩
       cases r with
       | fn _ _ _ vs us e1 e2 h1 h2 =>
         refine .fn _ _ _ vs us (by rw [l1, e1]) (by rw [l2, e2]) (fun i v x hv hx => ?_) (fun i v x hv hx => ?_)
         · have hlt := (List.getElem?_eq_some_iff.1 hv).1
           have hu := List.getElem?_eq_getElem (show i < _ by rw [<- l1]; exact hlt)
           exact r1 F (f.of x2) i v _ x hv hu (h1 i _ x hu hx)
         · have hlt := (List.getElem?_eq_some_iff.1 hv).1
           have hu := List.getElem?_eq_getElem (show i < _ by rw [<- l2]; exact hlt)
           exact r2 F f i v _ x hv hu (h2 i _ x hu hx)
     · cases e
 · obtain ⟨x1, l1, r1⟩ := zd8 (h := h) (D := D) (μ := μ) e
   refine ⟨x1, fun F x f r => ?_⟩
   obtain ⟨us, rfl, o1, s1, hr⟩ := r.inv_agg
   refine .agg _ _ (by rw [l1, s1]) o1 fun i v x hv hx => ?_
   obtain ⟨u, hu⟩ : ∃ u, (‹List AV› : List AV)[i]? = some u := by
     refine ⟨_, List.getElem?_eq_getElem ?_⟩
     rw [<- l1]; exact (List.getElem?_eq_some_iff.1 hv).1
   exact r1 F f i v u x hv hu (hr i u x hu hx)
 · exact zhy e
theorem zco {slots : List (Nat × AV)} {a : Act} : ∀ {ts : List (Nat × AV)} {m m' : zay}, zdl slots ts m = some m' -> Ext m m' /\ ∀ F, Fin m' F -> (∀ t v, za1 slots t = some v -> R h D μ v (a.tmps.getD t undef)) ->
   ∀ t v, za1 ts t = some v -> R h D (zcs μ F) v (a.tmps.getD t undef)
 | [], m, m', e => by cases e; exact ⟨.refl _, fun F f _ t v hv => by cases hv⟩
 | (t, v) :: r, m, m', e => by
   unfold zdl at e
   split at e
   · rename_i u hu
     split at e
     · rename_i m1 e1
       obtain ⟨x1, r1⟩ := zlt (h := h) (D := D) (μ := μ) e1
       obtain ⟨x2, r2⟩ := zco e
       refine ⟨x1.trans x2, fun F f hs t' v' hv => ?_⟩
       unfold za1 at hv
       split at hv
       · rename_i hb; cases hv; rw [<- za2 hb]; exact r1 F _ (f.of x2) (hs _ _ hu)
       · exact r2 F f hs t' v' hv
     · cases e
   · cases e
theorem zsk {m m' : zay} {v u : AV} (e : zuv m u v = some m') : Ext m m' /\ ∀ F x, Fin m' F -> R h D zat u x -> R h D (zcs μ F) v x := by
 unfold zuv at e
 split at e
 · cases e; exact ⟨.refl _, fun F x f r => .dead _⟩
 · split at e
   · rename_i m1 hp
     obtain ⟨e1, e2⟩ := zh0 hp
     cases e
     refine ⟨e1.trans (.add _ _), fun F x f r => ?_⟩
     obtain ⟨h1, h2, h3⟩ := f.2 _ (List.mem_cons_self ..)
     subst h1; subst h2; subst h3
     cases r with | nils => exact .slv _ _ none (zlo (f.1 _ _ e2))
   · cases e
 · split at e
   · rename_i x hp
     cases e
     refine ⟨.add _ _, fun F x f r => ?_⟩
     have h1 := f.2 _ (List.mem_cons_self ..)
     subst h1
     exact r.free
   · cases e
theorem zj0 {y : Nat -> AV} : ∀ {vs : List AV} {j : Nat} {m m' : zay}, zlq m y j vs = some m' -> Ext m m' /\ ∀ F, Fin m' F -> ∀ (i : Nat) v x, vs[i]? = some v -> R h D zat (y (j + i)) x -> R h D (zcs μ F) v x
 | [], j, m, m', e => by cases e; exact ⟨.refl _, fun F f i v x hv => by simp at hv⟩
 | v :: vs, j, m, m', e => by
   unfold zlq at e
   split at e
   · rename_i m1 e1
     obtain ⟨x1, r1⟩ := zsk (h := h) (D := D) (μ := μ) e1
     obtain ⟨x2, r2⟩ := zj0 e
     refine ⟨x1.trans x2, fun F f i v' x hv r => ?_⟩
     cases i with
     | zero => simp at hv; subst hv; exact r1 F x (f.of x2) r
     | succ i => exact r2 F f i v' x (by simpa using hv) (by rw [show j + 1 + i = j + (i + 1) by omega]; exact r)
   · cases e
theorem zls : ∀ {l l' : List (Ky × AV)}, zsm l l' = true -> l.map Prod.fst = l'.map Prod.fst
 | [], [], _ => rfl
 | [], _ :: _, e => by cases e
 | _ :: _, [], e => by cases e
 | (k, x) :: l, (k', x') :: l', e => by
   unfold zsm at e
   split at e
   · rename_i h; simp only [List.map_cons, zls e]; rw [show k = k' from zg4 h]
   · cases e
theorem zh3 : ∀ {l l' : List (Ky × AV)}, l.map Prod.fst = l'.map Prod.fst -> ∀ {q}, (zao l q).isSome = (zao l' q).isSome
 | [], [], _, _ => rfl
 | [], _ :: _, e, _ => by cases e
 | _ :: _, [], e, _ => by cases e
 | (k, x) :: l, (k', x') :: l', e, q => by
   simp only [List.map_cons, List.cons.injEq] at e
   obtain ⟨rfl, e⟩ := e
   simp only [zao]
   cases kyb k q
   · exact zh3 e
   · rfl
theorem zh4 : ∀ {l l' : List (Ky × AV)}, l.map Prod.fst = l'.map Prod.fst -> ∀ {q y}, zao l' q = some y -> ∃ (j : Nat) (v u : AV), (zbf Prod.snd l)[j]? = some v /\ (zbf Prod.snd l')[j]? = some u /\ zao l q = some v /\ u = y
 | [], [], _, _, _, e => by cases e
 | [], _ :: _, e, _, _, _ => by cases e
 | _ :: _, [], e, _, _, _ => by cases e
 | (k, x) :: l, (k', x') :: l', e, q, y, hy => by
   simp only [List.map_cons, List.cons.injEq] at e
   obtain ⟨rfl, e⟩ := e
   simp only [zao] at hy |-
   cases hk : kyb k q with
   | true => rw [hk] at hy; cases hy; exact ⟨0, x, x', rfl, rfl, rfl, rfl⟩
   | false =>
     rw [hk] at hy
     obtain ⟨j, v, u, h1, h2, h3, h4⟩ := zh4 e hy
     exact ⟨j + 1, v, u, h1, h2, h3, h4⟩
theorem zps {m m' : zay} {v u : Ob} (e : zlp m v u = some m') : Ext m m' /\ v ≠ .gone /\ u ≠ .gone /\ ∀ F x, Fin m' F -> ze2 h D μ u x -> ze2 h D (zcs μ F) v x := by
 unfold zlp at e
 split at e
 · rename_i ty us' ty' us
   split at e
   · rename_i hty
     obtain rfl := za2 hty
     obtain ⟨x1, l1, r1⟩ := zd8 (h := h) (D := D) (μ := μ) e
     refine ⟨x1, by simp, by simp, fun F x f ho => ?_⟩
     match x, ho with
     | some (b, z, mm), ⟨c, t, fr, e1, e2, e3, e4, e5, e6⟩ =>
       refine ⟨c, t, fr, e1, e2, e3, e4, by rw [l1, e5], fun i v x hv hx => ?_⟩
       obtain ⟨u, hu⟩ : ∃ u, us[i]? = some u := by
         refine ⟨_, List.getElem?_eq_getElem ?_⟩
         rw [<- l1]; exact (List.getElem?_eq_some_iff.1 hv).1
       exact r1 F f i v u x hv hu (e6 i u x hu hx)
   · cases e
 · split at e
   · rename_i hty hz
     have := za2 hz; subst this
     obtain rfl := za2 hty
     cases e
     refine ⟨.add _ _, by simp, by simp, fun F x f ho => ?_⟩
     obtain ⟨h1, h2⟩ := f.2 _ (List.mem_cons_self ..); subst h1
     match x, ho with
     | some (b, z, mm), ⟨e0, c, t, fr, e1, e2, e3, e4, e5⟩ =>
       exact ⟨e0, c, t, fr, e1, e2, e3, e4, fun i j hi hj => by
         obtain ⟨v, v1, v2, v3⟩ := e5 i j hi hj
         exact ⟨v, v1, v2, by rw [<- h2 i j hi hj]; exact v3⟩⟩
     | none, ho => exact ho
   · cases e
 · rename_i ty cs ty' cs'
   split at e
   · rename_i hty hl
     obtain rfl := za2 hty
     have hl := zaw hl
     rw [za4, za4] at hl
     obtain ⟨x1, l1, r1⟩ := zd8 (h := h) (D := D) (μ := μ) e
     rw [za4, zab] at r1
     refine ⟨x1, by simp, by simp, fun F x f ho => ?_⟩
     match x, ho with
     | some (b, z, mm), ⟨c, t, fr, e1, e2, e3, e4, e5⟩ =>
       refine ⟨c, t, fr, e1, e2, e3, by omega, fun i v hv => ?_⟩
       have hi := (List.getElem?_eq_some_iff.1 hv).1
       have hu : cs'[i]? = some (cs'[i]'(by omega)) := by simp
       obtain ⟨x, x1, x2, x3⟩ := e5 i _ hu
       exact ⟨x, x1, x2, r1 F f i v _ x hv (by rw [List.getElem?_take, if_pos hi]; exact hu) x3⟩
     | none, ho =>
       have ho : cs' = [] := ho
       subst ho
       show cs = []
       exact List.eq_nil_of_length_eq_zero (by simpa using hl)
   · cases e
 · rename_i kk n has val kk' n' has' val'
   split at e
   · rename_i hk
     obtain rfl := of_decide_eq_true hk
     cases e
     refine ⟨.add _ _, by simp, by simp, fun F x f ho => ?_⟩
     obtain ⟨h1, h2, h3⟩ := f.2 _ (List.mem_cons_self ..)
     match x, ho with
     | some (b, z), ⟨es, clock, kf, hb, hn, hk, hr⟩ =>
       exact ⟨es, clock, kf, hb, hn.trans h1, hk.turn h2, fun i e he => by
         rw [<- h3 _ (by rw [<- h2]; exact (hk.key i e he).2)]; exact hr i e he⟩
   · cases e
 · rename_i q q'
   cases e
   refine ⟨.add _ _, by simp, by simp, fun F x f ho => ?_⟩
   have h1 := f.2 _ (List.mem_cons_self ..)
   match x, ho with
   | some (b, z), ⟨es, clock, hb, he⟩ => exact ⟨es, clock, hb, fun hq => he (h1 hq)⟩
 · rename_i kk l kk' l'
   split at e
   · rename_i hk hl
     obtain rfl := of_decide_eq_true hk
     have hl := zls hl
     obtain ⟨x1, l1, r1⟩ := zd8 (h := h) (D := D) (μ := μ) e
     refine ⟨x1, by simp, by simp, fun F x f ho => ?_⟩
     match x, ho with
     | some (b, z), ⟨es, clock, kf, hb, hn, hks, hnd, hr⟩ =>
       have hlen : l'.length = l.length := by have := congrArg List.length hl; simpa using this.symm
       refine ⟨es, clock, kf, hb, hn.trans hlen, hks.turn fun k => ?_, by rw [hl]; exact hnd, fun i e he => ?_⟩
       · rw [zh3 hl]
       · obtain ⟨y, y1, y2⟩ := hr i e he
         obtain ⟨j, v, u, v1, v2, v3, v4⟩ := zh4 hl y1
         subst v4
         exact ⟨v, v3, r1 F f j v _ e.val v1 v2 y2⟩
   · cases e
 · rename_i ty cs ty' sz n get
   split at e
   · rename_i hty
     obtain rfl := za2 hty
     split at e
     · rename_i m1 hm
       cases e
       obtain ⟨x1, r1⟩ := zj0 (h := h) (D := D) (μ := μ) hm
       refine ⟨x1.trans (.add _ _), by simp, by simp, fun F x f ho => ?_⟩
       have hle := f.2 _ (List.mem_cons_self ..)
       rw [za4] at hle
       match x, ho with
       | some (b, z, mm), ⟨e0, c, t, fr, e1, e2, e3, e4, e5⟩ =>
         refine ⟨c, t, fr, e1, e2, ⟨e3.1, e3.2.1⟩, by omega, fun i v hv => ?_⟩
         have hi := (List.getElem?_eq_some_iff.1 hv).1
         have hs : 0 < sz := by
           rcases Nat.eq_zero_or_pos sz with h0 | h0
           · rw [h0] at hle; omega
           · exact h0
         obtain ⟨x, x1, x2, x3⟩ := e5 (i / sz) (i % sz) (Nat.div_lt_of_lt_mul (by rw [Nat.mul_comm]; omega)) (Nat.mod_lt _ hs)
         rw [show i / sz * sz + i % sz = i by rw [Nat.mul_comm]; exact Nat.div_add_mod i _] at x1
         refine ⟨x, x1, x2, r1 F (f.of (.add _ _)) i v x hv ?_⟩
         rw [Nat.zero_add, zt1 _ _ _ hs]
         exact x3
       | none, ho =>
         have ho : n = 0 := ho
         subst ho
         show cs = []
         exact List.eq_nil_of_length_eq_zero (by omega)
     · cases e
   · cases e
 · cases e
theorem znj {m m' : zay} {v : Ob} (e : zkf m v = some m') : Ext m m' /\ v ≠ .gone /\ ∀ F, Fin m' F -> ze2 h D (zcs μ F) v none := by
 unfold zkf at e
 split at e
 · cases e
   refine ⟨.add _ _, by simp, fun F f => ?_⟩
   exact (f.2 _ (List.mem_cons_self ..)).symm
 · cases e
   exact ⟨.refl _, by simp, fun F f => rfl⟩
 · cases e
structure zxr (h : Array Obj) (D : Nat -> Prop) (μ : Mu) (s : St) (ice : List Nat) (F : List (Nat × Option Nat)) (tid : Nat) (o : Ob) : Prop where
 live : o ≠ .gone
 pair : ∃ x, za1 F tid = some x /\ match x with
   | some id => (zb2 s.ice id = true -> zb2 ice tid = true) /\ ∃ o', za1 s.objs id = some o' /\ o' ≠ .gone /\ ∀ y, ze2 h D μ o' y -> ze2 h D (zcs μ F) o y
   | none => ze2 h D (zcs μ F) o none
theorem zc1 {s : St} {ice : List Nat} : ∀ {ts : List (Nat × Ob)} {m m' : zay}, ze5 s ice ts m = some m' -> Ext m m' /\ ∀ F, Fin m' F -> ∀ tid o, za1 ts tid = some o -> zxr h D μ s ice F tid o
 | [], m, m', e => by cases e; exact ⟨.refl _, fun F f t o ho => by cases ho⟩
 | (tid, o) :: r, m, m', e => by
   unfold ze5 at e
   split at e
   · rename_i id hid
     have key : ∀ o' m1, za1 s.objs id = some o' -> zlp m o o' = some m1 -> ze5 s ice r m1 = some m' -> (zb2 s.ice id = true -> zb2 ice tid = true) -> Ext m m' /\ ∀ F, Fin m' F -> ∀ t o1, za1 ((tid, o) :: r) t = some o1 -> zxr h D μ s ice F t o1 := by
       intro o' m1 ho' hm e hice
       obtain ⟨x1, n1, n2, r1⟩ := zps (h := h) (D := D) (μ := μ) hm
       obtain ⟨x2, r2⟩ := zc1 e
       refine ⟨x1.trans x2, fun F f t o1 ht => ?_⟩
       unfold za1 at ht
       split at ht
       · rename_i hb
         have := za2 hb; subst this
         cases ht
         exact ⟨n1, some id, f.1 _ _ (x2.ids _ _ (x1.ids _ _ hid)), hice, o', ho', n2, fun y hy => r1 F y (f.of x2) hy⟩
       · exact r2 F f t o1 ht
     split at e
     · cases e
     · rename_i hno
       split at e
       · rename_i o' ho'
         split at e
         · rename_i m1 hm
           refine key o' m1 ho' hm e fun hi => ?_
           cases hti : zb2 ice tid with
           | true => rfl
           | false => exact absurd hti (hno hi)
         · cases e
       · cases e
   · rename_i hid
     split at e
     · rename_i m1 hm
       obtain ⟨x1, n1, r1⟩ := znj (h := h) (D := D) (μ := μ) hm
       obtain ⟨x2, r2⟩ := zc1 e
       refine ⟨x1.trans x2, fun F f t o1 ht => ?_⟩
       unfold za1 at ht
       split at ht
       · rename_i hb
         have := za2 hb; subst this
         cases ht
         exact ⟨n1, none, f.1 _ _ (x2.ids _ _ (x1.ids _ _ hid)), r1 F (f.of x2)⟩
       · exact r2 F f t o1 ht
     · cases e
   · cases e
end
theorem zin {l : List Nat} {t : Nat} {x : Option Nat} (h : za1 (zp7 l) t = some x) : x = some t := by
 induction l with
 | nil => simp [zp7, za1] at h
 | cons a l ih =>
   unfold zp7 za1 at h
   split at h
   · rename_i e; cases h; rw [za2 e]
   · exact ih h
theorem zem {objs : List (Nat × Ob)} : ∀ {l : List (Nat × Option Nat)}, zq5 objs l = true -> ∀ t x, za1 l t = some x -> za1 objs t ≠ none
 | [], _, t, x, h => by cases h
 | (k, y) :: l, e, t, x, h => by
   unfold zq5 at e
   split at e
   · rename_i o ho
     unfold za1 at h
     split at h
     · rename_i hb; rw [<- za2 hb]; simp only at ho; rw [ho]; simp
     · exact zem e t x h
   · cases e
theorem zj8 {objs : List (Nat × Ob)} : ∀ {l : List Nat}, zsy objs l = true -> ∀ t, zb2 l t = true -> za1 objs t ≠ none
 | [], _, t, h => by cases h
 | k :: l, e, t, h => by
   unfold zsy at e
   split at e
   · rename_i o ho
     unfold zb2 at h
     split at h
     · rename_i hb; rw [<- za2 hb, ho]; simp
     · exact zj8 e t h
   · cases e
end Sy
end Go.Proofs.Ytlphgephdhadhaa
namespace Go.Proofs.Ytlphgephdhadhaa
namespace Sy
open Go Go.RowKit
set_option linter.unusedSimpArgs false
set_option linter.unusedVariables false
set_option linter.unusedSectionVars false
structure zw3 (D : Nat -> Prop) (w : World) (μ : Mu) (O O1 : List (Nat × Ob)) (r : AV) (e : Ending) (v : Value) (w' : World) (D' : Nat -> Prop) (μ' : Mu) : Prop where
 ret : e = .returned v
 os : w'.os = w.os
 tape : w'.tape = w.tape
 output : w'.output = w.output
 size : w.heap.size <= w'.heap.size
 old : ∀ b, b < w.heap.size -> (∀ n z, μ n ≠ some (some (b, z))) -> w'.heap[b]? = w.heap[b]?
 up : ∀ b, D b -> D' b
 dn : ∀ b, D' b -> D b \/ (w.heap.size <= b /\ b < w'.heap.size) \/ ∃ n z, μ n = some (some (b, z))
 dom : ∀ n, μ' n = none ↔ za1 O1 n = none
 obs : ∀ n o x, za1 O1 n = some o -> μ' n = some x -> ze2 w'.heap D' μ' o x
 inj : ∀ n n' b z z', μ' n = some (some (b, z)) -> μ' n' = some (some (b, z')) -> n = n'
 own : ∀ n b z, μ' n = some (some (b, z)) -> b < w'.heap.size /\ ¬ D' b /\ (w.heap.size <= b \/ ∃ m z', μ m = some (some (b, z')))
 keep : ∀ n, za1 O n ≠ none -> za1 O1 n ≠ none -> μ' n = μ n
 val : R w'.heap D' μ' r v
def zba (P : Program) (f : FuncId) (xs : List AV) (O : List (Nat × Ob)) (r : AV) (O1 : List (Nat × Ob)) : Prop :=
 ∀ (D : Nat -> Prop) (w : World) (μ : Mu) (vs : Array Value), (∀ b, D b -> b < w.heap.size) -> RL w.heap D μ xs vs ->
   (∀ n, μ n = none ↔ za1 O n = none) -> (∀ n o x, za1 O n = some o -> μ n = some x -> ze2 w.heap D μ o x) ->
   (∀ n n' b z z', μ n = some (some (b, z)) -> μ n' = some (some (b, z')) -> n = n') -> (∀ n b z, μ n = some (some (b, z)) -> b < w.heap.size /\ ¬ D b) -> GOk w -> (∀ n b z, μ n = some (some (b, z)) -> gN <= b) ->
   ze3 P f vs w fun e w' => ∃ v D' μ', zw3 D w μ O O1 r e v w' D' μ'
structure zri (g : Nat -> Option Ob) (c : Nat -> Bool) (raw : List AV) (F : List (Nat × Option Nat)) (fr : Nat) (T : zw2) : Prop where
 len : raw.length = T.xs.length
 xs : ∀ h D μ vs, RL h D μ raw vs -> RL h D (zcs μ F) T.xs vs
 inj : Inj F
 dom : ∀ n x, za1 F n = some x -> za1 T.O n ≠ none
 obs : ∀ n o, za1 T.O n = some o -> ∃ x, za1 F n = some x /\ match x with
   | some id => c id = false /\ ∃ o', g id = some o' /\ o' ≠ .gone /\ ∀ h D μ y, ze2 h D μ o' y -> ze2 h D (zcs μ F) o y
   | none => ∀ h D μ, ze2 h D (zcs μ F) o none
 fresh : ∀ n o, za1 T.O1 n = some o -> (∀ id, za1 F n ≠ some (some id)) -> g (fr + n) = none
 unpin : ∀ n o, za1 T.O1 n = some o -> (∀ id, za1 F n ≠ some (some id)) -> zdc (fr + n) = false
 ng : ∀ n, za1 T.O1 n ≠ some .gone
def mOs (F : List (Nat × Option Nat)) (fr : Nat) (T : zw2) : List (Nat × Ob) := zb0 (zgo F fr T.O1) (zdp F T.O1 T.O)
theorem zci {α : Type} (os l : List (Nat × α)) (id : Nat) : za1 (zb0 os l) id = match za1 os id with | some o => some o | none => za1 l id := by
 induction os with
 | nil => rfl
 | cons x os ih =>
   obtain ⟨i, o⟩ := x
   simp only [zb0, za1]
   cases za9 i id <;> simp [ih]
section
variable {F : List (Nat × Option Nat)} {fr : Nat} {h : Array Obj} {D : Nat -> Prop} {μ μ' : Mu}
theorem zf6 (hμ : ∀ n y, μ n = some y -> μ' (tgt F fr n) = some y) {x : AV} {v : Value} (r : R h D μ x v) : R h D μ' (znb F fr x) v := by
 cases r with
 | dead v => exact .dead v
 | bool b => exact .bool b
 | int k n => exact .int k n
 | str l s e => exact .str l s e
 | nilp => exact .nilp
 | nilm => exact .nilm
 | nilf => exact .nilf
 | nils => exact .nils
 | nili => exact .nili
 | ifn => exact .ifn
 | ifs t p => exact .ifs t p
 | emp a cap => exact .emp a cap
 | emz a => exact .emz a
 | lst0 sz get a cap hn => exact .lst0 sz get a cap hn
 | lst sz n get b o cap vs hD hc hv h1 hr => exact .lst sz n get b o cap vs hD hc hv h1 hr
 | lstx sz n get a r => exact .lstx _ _ _ a (zkg r)
 | iptr n get b o vs hD hv h1 hr => exact .iptr n get b o vs hD hv h1 hr
 | arr n get vs e h1 hr => exact .arr n get vs e h1 hr
 | ref id off b z m hm => exact .ref _ off b z m (hμ _ _ hm)
 | eref id sz i off b z m hm hi => exact .eref _ sz i off b z m (hμ _ _ hm) hi
 | slv id sz a hm => exact .slv _ sz a (hμ _ _ hm)
 | sl0 id sz off b z m o hm ho => exact .sl0 _ sz off b z m o (hμ _ _ hm) ho
 | sl id sz off n b z m cap hm hn hz ho => exact .sl _ sz off n b z m cap (hμ _ _ hm) hn hz ho
 | slcv id sz a hm => exact .slcv _ sz a (hμ _ _ hm)
 | slc0 id sz off b z m o hm ho => exact .slc0 _ sz off b z m o (hμ _ _ hm) ho
 | slc id sz off n cap b z m hm hn hz ho => exact .slc _ sz off n cap b z m (hμ _ _ hm) hn hz ho
 | fn f xs ys vs us e1 e2 h1 h2 =>
   simp only [znb]
   split
   · rename_i hf; exact (zc5 (.fn f xs ys vs us e1 e2 h1 h2) hf).free
   · exact .dead _
 | agg cs vs e h1 hr => exact .dead _
 | tup cs vs e hr => exact .dead _
 | mp id b z m hm => exact .mp _ b z m (hμ _ _ hm)
 | bidx id off n i b z m hm hi => exact .bidx _ off n i b z m (hμ _ _ hm) hi
 | mpi kk n has val b es clock kf hD hb hn hk hr => exact .mpi kk n has val b es clock kf hD hb hn hk hr
theorem zdw {α β : Type} (k : α -> β) (l : List α) (i : Nat) : (zbf k l)[i]? = l[i]?.map k := by
 induction l generalizing i with
 | nil => rfl
 | cons x l ih => cases i with
   | zero => rfl
   | succ i => simp [zbf, ih]
theorem zdb {α β : Type} (k : α -> β) (l : List α) : (zbf k l).length = l.length := by
 induction l with
 | nil => rfl
 | cons x l ih => simp [zbf, ih]
theorem zwr (hμ : ∀ n y, μ n = some y -> μ' (tgt F fr n) = some y) {x : AV} {v : Value} (r : R h D μ x v) : R h D μ' (zws F fr x) v := by
 unfold zws
 split
 · obtain ⟨us, rfl, o1, s1, hr⟩ := r.inv_agg
   refine .agg _ _ (by rw [zdb]; exact s1) o1 fun i x v hx hv => ?_
   rw [zdw] at hx
   obtain ⟨y, hy, rfl⟩ := Option.map_eq_some_iff.1 hx
   exact zf6 hμ (hr i y v hy hv)
 · obtain ⟨us, rfl, l1, hr⟩ := r.inv_tup
   refine .tup _ _ (by rw [zdb]; exact l1) fun i x v hx hv => ?_
   rw [zdw] at hx
   obtain ⟨y, hy, rfl⟩ := Option.map_eq_some_iff.1 hx
   exact zf6 hμ (hr i y v hy hv)
 · split
   · rename_i hf; exact (zc5 r hf).free
   · cases r with
     | fn f xs ys vs us e1 e2 h1 h2 =>
       refine .fn _ _ _ _ _ (by rw [zdb]; exact e1) (by rw [zdb]; exact e2) (fun i x v hx hv => ?_) (fun i x v hx hv => ?_)
       · rw [zdw] at hx
         obtain ⟨y, hy, rfl⟩ := Option.map_eq_some_iff.1 hx
         exact zf6 hμ (h1 i y v hy hv)
       · rw [zdw] at hx
         obtain ⟨y, hy, rfl⟩ := Option.map_eq_some_iff.1 hx
         exact zf6 hμ (h2 i y v hy hv)
 · exact zf6 hμ r
theorem zsa (hμ : ∀ n y, μ n = some y -> μ' (tgt F fr n) = some y) {o : Ob} {x : Option (Nat × Nat × Nat)} (k : ze2 h D μ o x) : ze2 h D μ' (zna F fr o) x := by
 match o, x, k with
 | .box ty cs, some (b, z, m), ⟨c, t, q, e, r1, r2, r3, r4, r5⟩ =>
   refine ⟨c, t, q, e, r1, r2, r3, by rw [zdb]; exact r4, fun i x v hx hv => ?_⟩
   rw [zdw] at hx
   obtain ⟨y, hy, rfl⟩ := Option.map_eq_some_iff.1 hx
   exact zf6 hμ (r5 i y v hy hv)
 | .row ty sz n get, some (b, z, m), k => exact k
 | .spr ty cs, some (b, z, m), ⟨c, t, q, e, r1, r2, r3, r4⟩ =>
   refine ⟨c, t, q, e, r1, r2, by rw [zdb]; exact r3, fun i x hx => ?_⟩
   rw [zdw] at hx
   obtain ⟨y, hy, rfl⟩ := Option.map_eq_some_iff.1 hx
   obtain ⟨v, v1, v2, v3⟩ := r4 i y hy
   exact ⟨v, v1, v2, zf6 hμ v3⟩
 | .map kk n has val, some (b, z), k => exact k
 | .mapq e, some (b, z), k => exact k
 | .mapl kk l, some (b, z), ⟨es, clock, kf, e, r1, r2, r3, r4⟩ =>
   have hm : ∀ l : List (Ky × AV), (zbf (fun x => (x.1, znb F fr x.2)) l).map Prod.fst = l.map Prod.fst := by
     intro l
     induction l with
     | nil => rfl
     | cons x l ih => simp [zbf, ih]
   have hk : ∀ (l : List (Ky × AV)) q, zao (zbf (fun x => (x.1, znb F fr x.2)) l) q = (zao l q).map (znb F fr) := by
     intro l q
     induction l with
     | nil => rfl
     | cons x l ih => obtain ⟨k, x⟩ := x; simp only [zbf, zao]; split <;> simp [ih]
   refine ⟨es, clock, kf, e, by rw [zdb]; exact r1, ?_, by rw [hm]; exact r3, fun i e' he' => ?_⟩
   · simp only [hk, Option.isSome_map]; exact r2
   · obtain ⟨y, y1, y2⟩ := r4 i e' he'
     exact ⟨_, by rw [hk, y1]; rfl, zf6 hμ y2⟩
 | .row _ _ n _, none, k => exact k
 | .spr _ cs, none, k =>
   have k : cs = [] := k
   subst k
   rfl
 | .gone, _, _ => exact trivial
end
theorem zfy {F : List (Nat × Option Nat)} {fr : Nat} : ∀ {O1 : List (Nat × Ob)} {i : Nat} {ob : Ob}, za1 (zgo F fr O1) i = some ob -> ∃ n o, (n, o) ∈ O1 /\ tgt F fr n = i /\ ob = zna F fr o
 | [], i, ob, h => by cases h
 | (n, o) :: r, i, ob, h => by
   unfold zgo za1 at h
   split at h
   · rename_i e; cases h; exact ⟨n, o, by simp, za2 e, rfl⟩
   · obtain ⟨m, o', h1, h2, h3⟩ := zfy h
     exact ⟨m, o', List.mem_cons_of_mem _ h1, h2, h3⟩
theorem zhv {F : List (Nat × Option Nat)} {fr : Nat} : ∀ {O1 : List (Nat × Ob)} (_ : ∀ n n', za1 O1 n ≠ none -> za1 O1 n' ≠ none -> tgt F fr n = tgt F fr n' -> n = n') {n : Nat} {o : Ob}, za1 O1 n = some o -> za1 (zgo F fr O1) (tgt F fr n) = some (zna F fr o)
 | [], hi, n, o, h => by cases h
 | (m, o') :: r, hi, n, o, h => by
   have h0 := h
   unfold za1 at h
   unfold zgo za1
   cases e : za9 m n with
   | true =>
     have := za2 e; subst this
     rw [e] at h; cases h
     simp [za3]
   | false =>
     rw [e] at h
     simp only at h
     have hne : m ≠ n := by rintro rfl; rw [za3] at e; cases e
     have : za9 (tgt F fr m) (tgt F fr n) = false := za6 fun x => hne (hi m n (by simp [za1, za3]) (by rw [h0]; simp) x)
     rw [this]
     refine zhv (O1 := r) (fun k k' h1 h2 h3 => hi k k' ?_ ?_ h3) h
     · unfold za1; split
       · simp
       · exact h1
     · unfold za1; split
       · simp
       · exact h2
theorem zhx {α : Type} : ∀ {l : List (Nat × α)} {n : Nat} {o : α}, (n, o) ∈ l -> za1 l n ≠ none
 | (m, o') :: r, n, o, h => by
   unfold za1
   split
   · simp
   · rename_i e
     rcases List.mem_cons.1 h with h | h
     · cases h; rw [za3] at e; cases e
     · exact zhx h
theorem zh7 {F : List (Nat × Option Nat)} {O1 : List (Nat × Ob)} : ∀ {O : List (Nat × Ob)} {i : Nat} {ob : Ob}, za1 (zdp F O1 O) i = some ob -> ob = .gone /\ ∃ n, za1 O n ≠ none /\ za1 O1 n = none /\ za1 F n = some (some i)
 | [], i, ob, h => by cases h
 | (n, o) :: r, i, ob, h => by
   have up : ∀ {m}, za1 r m ≠ none -> za1 ((n, o) :: r) m ≠ none := by
     intro m hm
     unfold za1
     split
     · simp
     · exact hm
   have down : za1 (zdp F O1 r) i = some ob -> ob = .gone /\ ∃ m, za1 ((n, o) :: r) m ≠ none /\ za1 O1 m = none /\ za1 F m = some (some i) := fun h => by
     obtain ⟨h1, m, h2, h3, h4⟩ := zh7 h
     exact ⟨h1, m, up h2, h3, h4⟩
   unfold zdp at h
   split at h
   · exact down h
   · rename_i h1
     split at h
     · rename_i id hid
       unfold za1 at h
       split at h
       · rename_i e
         cases h
         exact ⟨rfl, n, by simp [za1, za3], h1, by rw [hid, za2 e]⟩
       · exact down h
     · exact down h
theorem zg8 {F : List (Nat × Option Nat)} {O1 : List (Nat × Ob)} : ∀ {O : List (Nat × Ob)} {n i : Nat}, za1 O n ≠ none -> za1 O1 n = none -> za1 F n = some (some i) -> za1 (zdp F O1 O) i = some .gone
 | [], n, i, h, _, _ => by simp [za1] at h
 | (m, o) :: r, n, i, h, h1, h2 => by
   unfold zdp
   unfold za1 at h
   cases e : za9 m n with
   | true =>
     have := za2 e; subst this
     rw [h1, h2]
     simp [za1, za3]
   | false =>
     rw [e] at h
     have ih := zg8 (O := r) h h1 h2
     split
     · exact ih
     · split
       · unfold za1; split
         · rfl
         · exact ih
       · exact ih
section
variable {P : Program} {base : Nat} {M : Two} {W : World} {nt : Nat} {f : Nat -> Option AV} {g : Nat -> Option Ob} {c : Nat -> Bool} {a : Act} {w : World} {D : Nat -> Prop} {μ : Mu}
variable {raw : List AV} {F : List (Nat × Option Nat)} {fr : Nat} {T : zw2}
theorem zri.tgt_inj (hm : zri g c raw F fr T) : ∀ n n', za1 T.O1 n ≠ none -> za1 T.O1 n' ≠ none -> tgt F fr n = tgt F fr n' -> n = n' := by
 have key : ∀ n n' id, za1 T.O1 n' ≠ none -> za1 F n = some (some id) -> (∀ id, za1 F n' ≠ some (some id)) -> id ≠ fr + n' := by
   intro n n' id h1 h2 h3 e
   obtain ⟨o, ho⟩ := Option.ne_none_iff_exists'.1 (hm.dom n _ h2)
   obtain ⟨x, hx, hx2⟩ := hm.obs n o ho
   rw [h2] at hx; cases hx
   obtain ⟨_, o', ho', _⟩ := hx2
   obtain ⟨o1, ho1⟩ := Option.ne_none_iff_exists'.1 h1
   rw [e, hm.fresh n' o1 ho1 h3] at ho'
   cases ho'
 have no : ∀ {n}, ¬ (∃ id, za1 F n = some (some id)) -> (∀ id, za1 F n ≠ some (some id)) /\ tgt F fr n = fr + n := by
   intro n h
   refine ⟨fun id e => h ⟨id, e⟩, ?_⟩
   unfold tgt
   split
   · rename_i id e; exact absurd ⟨id, e⟩ h
   · rfl
 have yes : ∀ {n id}, za1 F n = some (some id) -> tgt F fr n = id := by
   intro n id h; unfold tgt; rw [h]
 intro n n' h1 h2 h3
 by_cases e : ∃ id, za1 F n = some (some id) <;> by_cases e' : ∃ id, za1 F n' = some (some id)
 · obtain ⟨id, e⟩ := e
   obtain ⟨id', e'⟩ := e'
   rw [yes e, yes e'] at h3
   subst h3
   exact hm.inj _ _ _ e e'
 · obtain ⟨id, e⟩ := e
   obtain ⟨q1, q2⟩ := no e'
   rw [yes e, q2] at h3
   exact absurd h3 (key n n' id h2 e q1)
 · obtain ⟨id, e'⟩ := e'
   obtain ⟨q1, q2⟩ := no e
   rw [yes e', q2] at h3
   exact absurd h3.symm (key n' n id h1 e' q1)
 · rw [(no e).2, (no e').2] at h3
   omega
theorem zri.asks (hm : zri g c raw F fr T) (h : Sim base M W nt f g c a w D μ) :
   (∀ n, zcs μ F n = none ↔ za1 T.O n = none) /\ (∀ n o x, za1 T.O n = some o -> zcs μ F n = some x -> ze2 w.heap D (zcs μ F) o x) /\
   (∀ n n' b z z', zcs μ F n = some (some (b, z)) -> zcs μ F n' = some (some (b, z')) -> n = n') /\ (∀ n b z, zcs μ F n = some (some (b, z)) -> b < w.heap.size /\ ¬ D b /\ ∃ id o, za1 F n = some (some id) /\ μ id = some (some (b, z)) /\ g id = some o /\ o ≠ .gone /\ c id = false) := by
 have own : ∀ n b z, zcs μ F n = some (some (b, z)) -> ∃ id o, za1 F n = some (some id) /\ μ id = some (some (b, z)) /\ g id = some o /\ o ≠ .gone /\ c id = false := by
   intro n b z hn
   unfold zcs at hn
   split at hn
   · rename_i id hid
     obtain ⟨o, ho⟩ := Option.ne_none_iff_exists'.1 (hm.dom n _ hid)
     obtain ⟨x, hx, hx2⟩ := hm.obs n o ho
     rw [hid] at hx; cases hx
     obtain ⟨c1, o', ho', ho2, _⟩ := hx2
     exact ⟨id, o', hid, hn, ho', ho2, c1⟩
   · cases hn
   · cases hn
 refine ⟨fun n => ⟨fun hn => ?_, fun hn => ?_⟩, fun n o x ho hx => ?_, fun n n' b z z' h1 h2 => ?_, fun n b z h1 => ?_⟩
 · refine Classical.byContradiction fun hne => ?_
   obtain ⟨o, ho⟩ := Option.ne_none_iff_exists'.1 hne
   obtain ⟨x, hx, hx2⟩ := hm.obs n o ho
   unfold zcs at hn
   rw [hx] at hn
   cases x with
   | none => cases hn
   | some id =>
     obtain ⟨_, o', ho', _⟩ := hx2
     rw [(h.dom id).1 hn] at ho'
     cases ho'
 · unfold zcs
   split
   · rename_i e; exact absurd hn (hm.dom n _ e)
   · rename_i e; exact absurd hn (hm.dom n _ e)
   · rfl
 · obtain ⟨y, hy, hy2⟩ := hm.obs n o ho
   unfold zcs at hx
   rw [hy] at hx
   cases y with
   | none => cases hx; exact hy2 _ _ _
   | some id =>
     obtain ⟨_, o', ho', _, ho3⟩ := hy2
     exact ho3 _ _ _ _ (h.obs id o' x ho' hx)
 · obtain ⟨id, o, q1, q2, q3, q4, q5⟩ := own n b z h1
   obtain ⟨id', o', r1, r2, r3, r4, r5⟩ := own n' b z' h2
   have := h.inj id id' b z z' o o' q2 r2 q3 r3 q4 r4
   subst this
   exact hm.inj _ _ _ q1 r1
 · obtain ⟨id, o, q1, q2, q3, q4, q5⟩ := own n b z h1
   exact ⟨(h.own id b z q2).1, (h.kd id b z o q2 q3 q4).2 q5, id, o, q1, q2, q3, q4, q5⟩
open Classical in
noncomputable def muM (μ μ1 : Mu) (F : List (Nat × Option Nat)) (fr : Nat) (O1 : List (Nat × Ob)) : Mu := fun i =>
 if e : ∃ n, za1 O1 n ≠ none /\ tgt F fr n = i then μ1 (Classical.choose e) else μ i
theorem zuu (hm : zri g c raw F fr T) (μ1 : Mu) {n : Nat} (hn : za1 T.O1 n ≠ none) : muM μ μ1 F fr T.O1 (tgt F fr n) = μ1 n := by
 unfold muM
 have e : ∃ m, za1 T.O1 m ≠ none /\ tgt F fr m = tgt F fr n := ⟨n, hn, rfl⟩
 rw [dif_pos e]
 have := Classical.choose_spec e
 rw [hm.tgt_inj _ _ this.1 hn this.2]
theorem zpl {μ1 : Mu} {O1 : List (Nat × Ob)} {i : Nat} (hn : ¬ ∃ n, za1 O1 n ≠ none /\ tgt F fr n = i) : muM μ μ1 F fr O1 i = μ i := by
 unfold muM; rw [dif_neg hn]
theorem Sim.mcall (h : Sim base M W nt f g c a w D μ) (hm : zri g c raw F fr T) {e : Ending} {v : Value} {w' : World} {D' : Nat -> Prop} {μ1 : Mu} (he : zw3 D w (zcs μ F) T.O T.O1 T.r e v w' D' μ1) :
   ∃ μ', Sim base M W nt f (zaf g (mOs F fr T)) c a w' D' μ' /\ R w'.heap D' μ' (zws F fr T.r) v := by
 obtain ⟨a1, a2, a3, a4⟩ := hm.asks h
 have tin := hm.tgt_inj
 obtain ⟨μ', hμ'⟩ : ∃ μ', μ' = muM μ μ1 F fr T.O1 := ⟨_, rfl⟩
 have m1 : ∀ n, za1 T.O1 n ≠ none -> μ' (tgt F fr n) = μ1 n := fun n hn => by rw [hμ']; exact zuu hm μ1 hn
 have m2 : ∀ i, (¬ ∃ n, za1 T.O1 n ≠ none /\ tgt F fr n = i) -> μ' i = μ i := fun i hn => by rw [hμ']; exact zpl hn
 have m3 : ∀ n y, μ1 n = some y -> μ' (tgt F fr n) = some y := fun n y hy => by
   rw [m1 n (fun e => by rw [(he.dom n).2 e] at hy; cases hy), hy]
 have ext : ∀ id x, μ id = some x -> μ' id = some x := by
   intro id x hx
   by_cases e : ∃ n, za1 T.O1 n ≠ none /\ tgt F fr n = id
   · obtain ⟨n, hn, rfl⟩ := e
     rw [m1 n hn]
     by_cases e2 : ∃ id, za1 F n = some (some id)
     · obtain ⟨id, hid⟩ := e2
       have ht : tgt F fr n = id := by unfold tgt; rw [hid]
       rw [ht] at hx
       rw [he.keep n (hm.dom n _ hid) hn]
       unfold zcs; rw [hid]; exact hx
     · have hno : ∀ id, za1 F n ≠ some (some id) := fun id e => e2 ⟨id, e⟩
       have ht : tgt F fr n = fr + n := by
         unfold tgt
         split
         · rename_i id e; exact absurd e (hno id)
         · rfl
       obtain ⟨o, ho⟩ := Option.ne_none_iff_exists'.1 hn
       rw [ht, (h.dom _).2 (hm.fresh n o ho hno)] at hx
       cases hx
   · rw [m2 id e]; exact hx
 have hos1 : ∀ n o, za1 T.O1 n = some o -> zaf g (mOs F fr T) (tgt F fr n) = some (zna F fr o) := by
   intro n o ho
   unfold zaf mOs
   rw [zci, zhv tin ho]
 have hos2 : ∀ i, (¬ ∃ n, za1 T.O1 n ≠ none /\ tgt F fr n = i) -> (∃ n, za1 T.O n ≠ none /\ za1 T.O1 n = none /\ za1 F n = some (some i)) -> zaf g (mOs F fr T) i = some .gone := by
   rintro i hn ⟨n, h1, h2, h3⟩
   unfold zaf mOs
   rw [zci]
   cases e : za1 (zgo F fr T.O1) i with
   | some ob =>
     obtain ⟨m, o, q1, q2, _⟩ := zfy e
     exact absurd ⟨m, zhx q1, q2⟩ hn
   | none => simp only; rw [zg8 h1 h2 h3]
 have hos3 : ∀ i, (¬ ∃ n, za1 T.O1 n ≠ none /\ tgt F fr n = i) -> (¬ ∃ n, za1 T.O n ≠ none /\ za1 T.O1 n = none /\ za1 F n = some (some i)) -> zaf g (mOs F fr T) i = g i := by
   intro i hn hn2
   unfold zaf mOs
   rw [zci]
   cases e : za1 (zgo F fr T.O1) i with
   | some ob =>
     obtain ⟨m, o, q1, q2, _⟩ := zfy e
     exact absurd ⟨m, zhx q1, q2⟩ hn
   | none =>
     simp only
     cases e2 : za1 (zdp F T.O1 T.O) i with
     | none => rfl
     | some ob => exact absurd (zh7 e2).2 hn2
 have alive : ∀ i o, zaf g (mOs F fr T) i = some o -> o ≠ .gone -> (∃ n o1, za1 T.O1 n = some o1 /\ tgt F fr n = i /\ o = zna F fr o1) \/ (g i = some o /\ μ' i = μ i /\ ∀ n, za1 F n ≠ some (some i)) := by
   intro i o ho hng
   by_cases e : ∃ n, za1 T.O1 n ≠ none /\ tgt F fr n = i
   · obtain ⟨n, hn, rfl⟩ := e
     obtain ⟨o1, ho1⟩ := Option.ne_none_iff_exists'.1 hn
     rw [hos1 n o1 ho1] at ho
     cases ho
     exact .inl ⟨n, o1, ho1, rfl, rfl⟩
   · by_cases e2 : ∃ n, za1 T.O n ≠ none /\ za1 T.O1 n = none /\ za1 F n = some (some i)
     · rw [hos2 i e e2] at ho; cases ho; exact absurd rfl hng
     · rw [hos3 i e e2] at ho
       refine .inr ⟨ho, m2 i e, fun n hn => ?_⟩
       by_cases e3 : za1 T.O1 n = none
       · exact e2 ⟨n, hm.dom n _ hn, e3, hn⟩
       · exact e ⟨n, e3, by unfold tgt; rw [hn]⟩
 have other : ∀ i o b z, g i = some o -> o ≠ .gone -> μ i = some (some (b, z)) -> (∀ n, za1 F n ≠ some (some i)) -> ∀ n z', zcs μ F n ≠ some (some (b, z')) := by
   intro i o b z hi hng hb hno n z' hn
   obtain ⟨_, _, id, o', q1, q2, q3, q4, q5⟩ := a4 n b z' hn
   have := h.inj i id b z z' o o' hb q2 hi q3 hng q4
   subst this
   exact hno n q1
 have hD : ∀ b, D b -> w'.heap[b]? = w.heap[b]? := fun b hb => he.old b (h.dlt b hb) fun n z hn => (a4 n b z hn).2.1 hb
 refine ⟨μ', ?_, zwr m3 he.val⟩
 exact {
   os := he.os.trans h.os
   tape := he.tape.trans h.tape
   output := he.output.trans h.output
   size := Nat.le_trans h.size he.size
   bs := Nat.le_trans h.bs he.size
   old := fun b h1 h2 => (he.old b (by have := h.bs; omega) fun n z hn => by
     obtain ⟨_, _, id, o', q1, q2, _⟩ := a4 n b z hn
     rcases (h.own id b z q2).2 with q | q
     · omega
     · exact h2 q).trans (h.old b h1 h2)
   defers := h.defers
   tmps := h.tmps
   slots := fun t v hv => (h.slots t v hv).mono hD he.up ext
   dlt := fun b hb => by
     rcases he.dn b hb with q | q | ⟨n, z, q⟩
     · exact Nat.lt_of_lt_of_le (h.dlt b q) he.size
     · exact q.2
     · exact Nat.lt_of_lt_of_le (a4 n b z q).1 he.size
   low := fun b hb hlt => by
     rcases he.dn b hb with q | q | ⟨n, z, q⟩
     · exact h.low b q hlt
     · have := h.bs; omega
     · obtain ⟨_, _, id, o', q1, q2, _⟩ := a4 n b z q
       rcases (h.own id b z q2).2 with q | q
       · omega
       · exact .inr q
   dom := fun i => by
     by_cases e : ∃ n, za1 T.O1 n ≠ none /\ tgt F fr n = i
     · obtain ⟨n, hn, rfl⟩ := e
       obtain ⟨o1, ho1⟩ := Option.ne_none_iff_exists'.1 hn
       rw [m1 n hn, hos1 n o1 ho1, he.dom n, ho1]
       simp
     · rw [m2 i e]
       by_cases e2 : ∃ n, za1 T.O n ≠ none /\ za1 T.O1 n = none /\ za1 F n = some (some i)
       · rw [hos2 i e e2]
         obtain ⟨n, h1, h2, h3⟩ := e2
         obtain ⟨o, ho⟩ := Option.ne_none_iff_exists'.1 h1
         obtain ⟨x, hx, hx2⟩ := hm.obs n o ho
         rw [h3] at hx; cases hx
         obtain ⟨_, o', ho', _⟩ := hx2
         rw [h.dom i, ho']; simp
       · rw [hos3 i e e2]; exact h.dom i
   obs := fun i o x ho hx => by
     by_cases hg : o = .gone
     · subst hg; cases x <;> exact trivial
     rcases alive i o ho hg with ⟨n, o1, q1, rfl, rfl⟩ | ⟨q1, q2, q3⟩
     · rw [m1 n (by rw [q1]; simp)] at hx
       exact zsa m3 (he.obs n o1 x q1 hx)
     · rw [q2] at hx
       exact (h.obs i o x q1 hx).mono hD he.up ext (fun b z hx2 _ => he.old b (h.own i b z (by rw [hx, hx2])).1 (other i o b z q1 hg (by rw [hx, hx2]) q3))
   inj := fun i i' b z z' o o' h1 h2 h3 h4 h5 h6 => by
     rcases alive i o h3 h5 with ⟨n, o1, q1, rfl, rfl⟩ | ⟨q1, q2, q3⟩ <;> rcases alive i' o' h4 h6 with ⟨n', o1', q1', rfl, rfl⟩ | ⟨q1', q2', q3'⟩
     · rw [m1 n (by rw [q1]; simp)] at h1
       rw [m1 n' (by rw [q1']; simp)] at h2
       rw [he.inj n n' b z z' h1 h2]
     · rw [m1 n (by rw [q1]; simp)] at h1
       rw [q2'] at h2
       rcases (he.own n b z h1).2.2 with q | ⟨m, z2, q⟩
       · have := (h.own i' b z' h2).1; omega
       · exact absurd q (other i' o' b z' q1' h6 h2 q3' m z2)
     · rw [m1 n' (by rw [q1']; simp)] at h2
       rw [q2] at h1
       rcases (he.own n' b z' h2).2.2 with q | ⟨m, z2, q⟩
       · have := (h.own i b z h1).1; omega
       · exact absurd q (other i o b z q1 h5 h1 q3 m z2)
     · rw [q2] at h1; rw [q2'] at h2
       exact h.inj i i' b z z' o o' h1 h2 q1 q1' h5 h6
   own := fun i b z h1 => by
     by_cases e : ∃ n, za1 T.O1 n ≠ none /\ tgt F fr n = i
     · obtain ⟨n, hn, rfl⟩ := e
       rw [m1 n hn] at h1
       obtain ⟨k1, k2, k3⟩ := he.own n b z h1
       refine ⟨k1, ?_⟩
       rcases k3 with q | ⟨m, z2, q⟩
       · have := h.bs; exact .inl (by omega)
       · obtain ⟨_, _, id, o', q1, q2, _⟩ := a4 m b z2 q
         exact (h.own id b z2 q2).2
     · rw [m2 i e] at h1
       exact ⟨Nat.lt_of_lt_of_le (h.own i b z h1).1 he.size, (h.own i b z h1).2⟩
   kd := fun i b z o h1 h2 h3 => by
     rcases alive i o h2 h3 with ⟨n, o1, q1, rfl, rfl⟩ | ⟨q1, q2, q3⟩
     · rw [m1 n (by rw [q1]; simp)] at h1
       have k := (he.own n b z h1).2.1
       have hc : c (tgt F fr n) = false := by
         by_cases e2 : ∃ id, za1 F n = some (some id)
         · obtain ⟨id, hid⟩ := e2
           have ht : tgt F fr n = id := by unfold tgt; rw [hid]
           obtain ⟨o, ho⟩ := Option.ne_none_iff_exists'.1 (hm.dom n _ hid)
           obtain ⟨x, hx, hx2⟩ := hm.obs n o ho
           rw [hid] at hx; cases hx
           rw [ht]; exact hx2.1
         · have hno : ∀ id, za1 F n ≠ some (some id) := fun id e => e2 ⟨id, e⟩
           have ht : tgt F fr n = fr + n := by
             unfold tgt
             split
             · rename_i id e; exact absurd e (hno id)
             · rfl
           rw [ht]
           cases hc : c (fr + n) with
           | false => rfl
           | true => exact absurd (hm.fresh n o1 q1 hno) (h.icy _ hc)
       exact ⟨fun hx => (by rw [hc] at hx; cases hx), fun _ => k⟩
     · rw [q2] at h1
       obtain ⟨k1, k2⟩ := h.kd i b z o h1 q1 h3
       refine ⟨fun hc => he.up b (k1 hc), fun hc hd => ?_⟩
       rcases he.dn b hd with q | q | ⟨n, z2, q⟩
       · exact k2 hc q
       · have := (h.own i b z h1).1; omega
       · exact other i o b z q1 h3 h1 q3 n z2 q
   ntb := h.ntb
   gl := h.gl
   pin := fun i y hp hy => by
     by_cases e : ∃ n, za1 T.O1 n ≠ none /\ tgt F fr n = i
     · obtain ⟨n, hn, rfl⟩ := e
       by_cases e2 : ∃ id, za1 F n = some (some id)
       · obtain ⟨id, hid⟩ := e2
         have ht : tgt F fr n = id := by unfold tgt; rw [hid]
         rw [m1 n hn, he.keep n (hm.dom n _ hid) hn] at hy
         unfold zcs at hy; rw [hid] at hy
         rw [ht] at hp |-
         exact h.pin id y hp hy
       · have hno : ∀ id, za1 F n ≠ some (some id) := fun id e => e2 ⟨id, e⟩
         have ht : tgt F fr n = fr + n := by
           unfold tgt
           split
           · rename_i id e; exact absurd e (hno id)
           · rfl
         obtain ⟨o1, ho1⟩ := Option.ne_none_iff_exists'.1 hn
         rw [ht, hm.unpin n o1 ho1 hno] at hp; cases hp
     · rw [m2 i e] at hy; exact h.pin i y hp hy
   icy := fun i hi => by
     have := h.icy i hi
     by_cases e : ∃ n, za1 T.O1 n ≠ none /\ tgt F fr n = i
     · obtain ⟨n, hn, rfl⟩ := e
       obtain ⟨o1, ho1⟩ := Option.ne_none_iff_exists'.1 hn
       rw [hos1 n o1 ho1]; simp
     · by_cases e2 : ∃ n, za1 T.O n ≠ none /\ za1 T.O1 n = none /\ za1 F n = some (some i)
       · rw [hos2 i e e2]; simp
       · rw [hos3 i e e2]; exact this }
end
theorem zd2 {α : Type} : ∀ (xs : List α) (i t : Nat), za1 (zne i xs) t = if i <= t then xs[t - i]? else none
 | [], i, t => by simp [zne, za1]
 | x :: xs, i, t => by
   unfold zne za1
   cases e : za9 i t with
   | true => have := za2 e; subst this; simp
   | false =>
     have hne : i ≠ t := by rintro rfl; rw [za3] at e; cases e
     simp only
     rw [zd2 xs (i + 1) t]
     by_cases h : i <= t
     · rw [if_pos (by omega), if_pos h]
       obtain ⟨k, hk⟩ : ∃ k, t - i = k + 1 := ⟨t - i - 1, by omega⟩
       rw [hk, show t - (i + 1) = k by omega]
       simp
     · rw [if_neg (by omega), if_neg h]
theorem zdd {objs : List (Nat × Ob)} {F : List (Nat × Option Nat)} {fr : Nat} : ∀ {O1 : List (Nat × Ob)}, zf1 objs F fr O1 = true -> ∀ n o, za1 O1 n = some o -> (∀ id, za1 F n ≠ some (some id)) -> za1 objs (fr + n) = none /\ zdc (fr + n) = false
 | [], _, n, o, h, _ => by cases h
 | (m, o') :: r, e, n, o, h, hno => by
   unfold zf1 at e
   unfold za1 at h
   split at e
   · rename_i id hid
     split at h
     · rename_i hb
       rw [za2 hb] at hid
       exact absurd hid (hno id)
     · exact zdd e n o h hno
   · split at e
     · rename_i hf hp
       split at h
       · rename_i hb; rw [za2 hb] at hf hp; exact ⟨hf, hp⟩
       · exact zdd e n o h hno
     · cases e
theorem zbz : ∀ {O1 : List (Nat × Ob)}, zlm O1 = true -> ∀ n, za1 O1 n ≠ some .gone
 | [], _, n => by simp [za1]
 | (m, o) :: r, e, n => by
   unfold za1
   unfold zlm at e
   cases o with
   | gone => cases e
   | box _ _ =>
     split
     · simp
     · exact zbz e n
   | row _ _ _ _ =>
     split
     · simp
     · exact zbz e n
   | spr _ _ =>
     split
     · simp
     · exact zbz e n
   | map _ _ _ _ =>
     split
     · simp
     · exact zbz e n
   | mapl _ _ =>
     split
     · simp
     · exact zbz e n
   | mapq _ =>
     split
     · simp
     · exact zbz e n
theorem zsl {s : St} {raw : List AV} {T : zw2} {m : zay} {fr : Nat} (e : zuw s raw T = some m) (hf : zf1 s.objs m.ids fr T.O1 = true) (hp : ∀ p, p ∈ m.ps -> p) : zri (za1 s.objs) (zb2 s.ice) raw m.ids fr T := by
 unfold zuw at e
 split at e
 · rename_i hlen
   have hlen := za2 hlen
   rw [za4, za4] at hlen
   split at e
   · rename_i m1 e1
     split at e
     · rename_i m2 e2
       split at e
       · rename_i h3 h4
         cases e
         have x1 := fun h D μ a => zco (h := h) (D := D) (μ := μ) (a := a) e1
         have x2 := fun h D μ => zc1 (h := h) (D := D) (μ := μ) e2
         have F0 : Fin m m.ids := ⟨fun _ _ h => h, hp⟩
         have X1 := (x1 #[] (fun _ => False) zat ⟨#[], []⟩).1
         have X2 := (x2 #[] (fun _ => False) zat).1
         refine { len := hlen, xs := fun h D μ vs hr => ?_, inj := X2.inj (X1.inj (fun t t' id h => by cases h)), dom := fun n x hx => zem h3 n x hx, obs := fun n o ho => ?_, fresh := fun n o h1 h2 => (zdd hf n o h1 h2).1, unpin := fun n o h1 h2 => (zdd hf n o h1 h2).2, ng := zbz h4 }
         · refine ⟨by rw [<- hlen]; exact hr.1, fun i x v hx hv => ?_⟩
           have := (x1 h D μ ⟨vs, []⟩).2 m.ids (F0.of X2) (fun t u hu => by
             rw [zd2, if_pos (by omega), Nat.sub_zero] at hu
             have hlt : t < vs.size := by rw [<- hr.1]; exact (List.getElem?_eq_some_iff.1 hu).1
             have h1 : vs[t]? = some vs[t] := by simp [hlt]
             have h2 : vs.getD t undef = vs[t] := by rw [Array.getD_eq_getD_getElem?, h1]; rfl
             rw [h2]
             exact hr.2 t u _ hu h1) i x (by rw [zd2, if_pos (by omega), Nat.sub_zero]; exact hx)
           have h2 : vs.getD i undef = v := by rw [Array.getD_eq_getD_getElem?, hv]; rfl
           rw [h2] at this
           exact this
         · obtain ⟨x, hx, _⟩ := ((x2 #[] (fun _ => False) zat).2 m.ids F0 n o ho).pair
           refine ⟨x, hx, ?_⟩
           cases x with
           | none =>
             intro h D μ
             obtain ⟨y, hy, hy2⟩ := ((x2 h D μ).2 m.ids F0 n o ho).pair
             rw [hx] at hy; cases hy; exact hy2
           | some id =>
             have hh := fun h D μ => ((x2 h D μ).2 m.ids F0 n o ho).pair
             obtain ⟨y, hy, hy2⟩ := hh #[] (fun _ => False) zat
             rw [hx] at hy; cases hy
             obtain ⟨q1, o', q2, q3, _⟩ := hy2
             refine ⟨?_, o', q2, q3, fun h D μ z hz => ?_⟩
             · cases hc : zb2 s.ice id with
               | false => rfl
               | true => exact absurd (q1 hc) (by simp [zb2])
             · obtain ⟨y, hy, hy2⟩ := hh h D μ
               rw [hx] at hy; cases hy
               obtain ⟨_, o2, r2, _, r4⟩ := hy2
               rw [q2] at r2; cases r2
               exact r4 z hz
       · cases e
     · cases e
   · cases e
 · cases e
def ztw (P : Program) (f : Nat -> Option AV) (g : Nat -> Option Ob) (c : Nat -> Bool) (o : Oper) (v : AV) (os : List (Nat × Ob)) : Prop :=
 ∃ fo xs ts k first caps zs F fr T, o.op = .call { callee := .value fo, args := xs, argTypes := ts } /\ zbf (evf f []) (zaz o.op) = .fn k first caps :: zs /\ zba P k T.xs T.O T.r T.O1 /\
   zri g c (zb0 first (zb0 zs caps)) F fr T /\ v = zws F fr T.r /\ os = mOs F fr T
theorem zi1 : ∀ {os : List (Nat × Ob)} {id : Nat}, za1 os id ≠ none -> id ∈ zm1 os
 | [], id, h => by simp [za1] at h
 | (i, o) :: r, id, h => by
   unfold za1 at h
   unfold zm1
   split at h
   · rename_i e; rw [za2 e]; simp
   · exact List.mem_cons_of_mem _ (zi1 h)
theorem zri.congr {g g' : Nat -> Option Ob} {c c' : Nat -> Bool} {raw : List AV} {F : List (Nat × Option Nat)} {fr : Nat} {T : zw2} (hm : zri g c raw F fr T) (hg : ∀ id, id ∈ zm1 (mOs F fr T) -> g' id = g id) (hc : ∀ id, id ∈ zm1 (mOs F fr T) -> c' id = c id) : zri g' c' raw F fr T := by
 have tin := hm.tgt_inj
 have k1 : ∀ n, za1 T.O1 n ≠ none -> tgt F fr n ∈ zm1 (mOs F fr T) := by
   intro n hn
   obtain ⟨o1, ho1⟩ := Option.ne_none_iff_exists'.1 hn
   refine zi1 ?_
   unfold mOs
   rw [zci, zhv tin ho1]; simp
 have k2 : ∀ n id, za1 F n = some (some id) -> id ∈ zm1 (mOs F fr T) := by
   intro n id hid
   by_cases e : za1 T.O1 n = none
   · refine zi1 ?_
     unfold mOs
     rw [zci]
     cases za1 (zgo F fr T.O1) id with
     | some _ => simp
     | none => simp only; rw [zg8 (hm.dom n _ hid) e hid]; simp
   · have := k1 n e
     unfold tgt at this
     rwa [hid] at this
 refine { len := hm.len, xs := hm.xs, inj := hm.inj, dom := hm.dom, obs := fun n o ho => ?_, fresh := fun n o ho hno => ?_, unpin := hm.unpin, ng := hm.ng }
 · obtain ⟨x, hx, hx2⟩ := hm.obs n o ho
   refine ⟨x, hx, ?_⟩
   cases x with
   | none => exact hx2
   | some id =>
     have := k2 n id hx
     show c' id = false /\ ∃ o', g' id = some o' /\ _
     rw [hg id this, hc id this]
     exact hx2
 · have : tgt F fr n = fr + n := by
     unfold tgt
     split
     · rename_i id e; exact absurd e (hno id)
     · rfl
   have k := k1 n (by rw [ho]; simp)
   rw [this] at k
   rw [hg _ k]
   exact hm.fresh n o ho hno
section
variable {P : Program} {base : Nat} {M : Two} {W : World} {nt : Nat} {f : Nat -> Option AV} {g : Nat -> Option Ob} {c : Nat -> Bool} {a : Act} {w : World} {D : Nat -> Prop} {μ : Mu} {o : Oper}
theorem zzj (h : Sim base M W nt f g c a w D μ) (hd : ∀ d, o.dst = some d -> d < nt) (hpl : ∀ x ∈ zaz o.op, ∀ v, x = .const v -> zef v = true) {v : AV} {os : List (Nat × Ob)} (hh : ztw P f g c o v os) : Adv P base M W nt f g c o a w v os [] := by
 obtain ⟨fo, xs, ts, k, first, caps, zs, F, fr, T, e, hvals, hM, hm, rfl, rfl⟩ := hh
 have hv : ∀ l : List Operand, (∀ x ∈ l, ∀ v, x = .const v -> zef v = true) -> Ops w.heap D μ a l (zbf (evf f []) l) := by
   intro l
   induction l with
   | nil => intro _; trivial
   | cons x l ih => intro hp; exact ⟨zvd h (fun t b ht => by simp [za1] at ht) x (fun v hv => hp x (by simp) v hv), ih (fun y hy => hp y (by simp [hy]))⟩
 have hv := hv _ hpl
 rw [hvals] at hv
 rw [e] at hv
 simp only [zaz] at hv
 obtain ⟨hf, hv⟩ := hv
 intro K Q hK
 obtain ⟨o1, o2⟩ := zli hv
 obtain ⟨vs, us, hfv, e1, e2, r1, r2⟩ : ∃ vs us, a.eval fo = .func (.func k) vs us /\ first.length = vs.size /\ caps.length = us.size /\ (∀ (i : Nat) x v, first[i]? = some x -> vs[i]? = some v -> R w.heap D μ x v) /\ (∀ (i : Nat) x v, caps[i]? = some x -> us[i]? = some v -> R w.heap D μ x v) := by
   generalize a.eval fo = u at hf
   cases hf with
   | fn _ _ _ vs us e1 e2 h1 h2 => exact ⟨vs, us, rfl, e1, e2, h1, h2⟩
 have hl : zs.length = xs.size := by rw [o1]; simp
 have hsz : (zb0 first (zb0 zs caps)).length = ((vs ++ xs.map a.eval) ++ us).size := by rw [za7, za7]; simp [e1, e2, hl]
 have hraw : ∀ (i : Nat) y v, (zb0 first (zb0 zs caps))[i]? = some y -> ((vs ++ xs.map a.eval) ++ us)[i]? = some v -> R w.heap D μ y v := by
   intro i x v hx hv'
   rw [za7, za7] at hx
   rw [Array.append_assoc] at hv'
   by_cases i1 : i < first.length
   · rw [List.getElem?_append_left i1] at hx
     rw [Array.getElem?_append_left (by omega)] at hv'
     exact r1 i x v hx hv'
   · rw [List.getElem?_append_right (by omega)] at hx
     rw [Array.getElem?_append_right (by omega)] at hv'
     rw [e1] at hx
     by_cases i2 : i - vs.size < zs.length
     · rw [List.getElem?_append_left i2] at hx
       rw [Array.getElem?_append_left (by simp; omega)] at hv'
       have i3 : i - vs.size < xs.size := by omega
       simp [i3] at hv'
       subst hv'
       exact o2 _ x _ hx (by simp [i3])
     · rw [List.getElem?_append_right (by omega)] at hx
       rw [Array.getElem?_append_right (by simp; omega)] at hv'
       simp only [Array.size_map, <- hl] at hv'
       exact r2 _ x v hx hv'
 have hRL : RL w.heap D (zcs μ F) T.xs ((vs ++ xs.map a.eval) ++ us) := hm.xs _ _ _ _ ⟨hsz, hraw⟩
 obtain ⟨a1, a2, a3, a4⟩ := hm.asks h
 have hcall := hM D w _ _ h.dlt hRL a1 a2 a3 (fun n b z hn => ⟨(a4 n b z hn).1, (a4 n b z hn).2.1⟩) h.gok (fun n b z hn => by
   obtain ⟨_, _, id, _, _, hid, _⟩ := a4 n b z hn
   exact h.gown hid)
 have fin : ∀ e v w' D' μ1, zw3 D w (zcs μ F) T.O T.O1 T.r e v w' D' μ1 -> K (a.put o.dst v) w' := by
   intro e v w' D' μ1 he
   obtain ⟨μ', h', hr⟩ := h.mcall hm he
   exact hK _ _ ⟨_, _, h'.put hd hr⟩
 unfold Oper.wp
 have hrun : (execOp a.eval o).run P w = (callFunc k ((vs ++ xs.map a.eval) ++ us)).run P w := by
   unfold execOp
   rw [e]
   simp [resolve, hfv, Deferred.ofValue, invoke]
 rw [hrun]
 unfold ze3 at hcall
 split at hcall
 · rename_i f' args' w' hcf
   rw [hcf, Oper.upon_enter]
   refine hcall.mono fun en w'' hen => ?_
   obtain ⟨v, D', μ1, he⟩ := hen
   obtain rfl := he.ret
   exact fin _ v w'' D' μ1 he
 · rename_i v w' hcf
   rw [hcf, Oper.upon_value]
   obtain ⟨v', D', μ1, he⟩ := hcall
   have := he.ret
   cases this
   exact fin _ _ w' D' μ1 he
 · exact hcall.elim
end
end Sy
end Go.Proofs.Ytlphgephdhadhaa
namespace Go.Proofs.Ytlphgephdhadhaa
namespace Sy
open Go Go.RowKit
set_option linter.unusedSimpArgs false
set_option linter.unusedVariables false
set_option linter.unusedSectionVars false
def zea {β : Type} (L : Nat -> Bool) (hit : Nat -> Option β) (s : Option β) : Nat -> Option β
 | 0 => s
 | n + 1 => if L n = true then (match hit n with | some x => some x | none => zea L hit s n) else zea L hit s n
theorem zg2 {β : Type} (L : Nat -> Bool) (hit : Nat -> Option β) (s : Option β) (n : Nat) : zea L hit s (n + 1) = if L n = true then (match hit n with | some x => some x | none => zea L hit s n) else zea L hit s n := rfl
theorem zbl {β : Type} {L L' : Nat -> Bool} {hit : Nat -> Option β} {s : Option β} : ∀ n, (∀ j, j < n -> hit j ≠ none -> L j = L' j) -> zea L hit s n = zea L' hit s n
 | 0, _ => rfl
 | n + 1, h => by
   unfold zea
   have ih := zbl n (fun j hj => h j (by omega)) (s := s)
   cases e : hit n with
   | none => simp [ih]
   | some x =>
     rw [h n (by omega) (by rw [e]; simp), ih]
theorem zek {β : Type} {L : Nat -> Bool} {hit : Nat -> Option β} {s : Option β} (i : Nat) : ∀ n, (∀ j, i <= j -> j < n -> L j = true -> hit j = none) -> i <= n -> zea L hit s n = zea L hit s i
 | 0, _, hi => by have : i = 0 := by omega
                  rw [this]
 | n + 1, h, hi => by
   by_cases e : i = n + 1
   · rw [e]
   · have ih := zek i n (fun j h1 h2 => h j h1 (by omega)) (by omega) (s := s)
     rw [zg2]
     by_cases hL : L n = true
     · rw [if_pos hL, h n (by omega) (by omega) hL]; exact ih
     · rw [if_neg hL]; exact ih
theorem zg3 {β : Type} {hit : Nat -> Option β} {s : Option β} (i : Nat) : ∀ n, i <= n -> zea (fun j => decide (j < i)) hit s n = zea (fun _ => true) hit s i := fun n hn => by
 rw [zek i n (fun j h1 _ h3 => by simp at h3; omega) hn]
 exact zbl i (fun j hj _ => by simp [hj])
theorem zi0 {β : Type} {L L' : Nat -> Bool} {hit : Nat -> Option β} {s : Option β} {i : Nat} (hi : L' i = true) (hL : L i = false) (hne : ∀ j, j ≠ i -> L' j = L j) : ∀ n, i < n ->
   (hit i ≠ none -> ∀ j, i < j -> j < n -> L j = true -> hit j = none) -> zea L' hit s n = (match hit i with | some x => some x | none => zea L hit s n)
 | 0, h, _ => by omega
 | n + 1, h, hc => by
   by_cases e : n = i
   · subst e
     have : zea L' hit s n = zea L hit s n := zbl n (fun j hj _ => hne j (by omega))
     unfold zea
     rw [if_pos hi, hL, this]
     simp
   · have ih := zi0 hi hL hne n (by omega) (fun h1 j h2 h3 => hc h1 j h2 (by omega)) (s := s)
     unfold zea
     rw [hne n e, ih]
     cases hh : hit i with
     | none => rfl
     | some x =>
       simp only
       by_cases hLn : L n = true
       · rw [if_pos hLn, hc (by rw [hh]; simp) n (by omega) (by omega) hLn]
       · rw [if_neg hLn]
def zgs (L : Nat -> Bool) (p : Nat -> Bool) (s : Bool) : Nat -> Bool
 | 0 => s
 | n + 1 => (L n && p n) || zgs L p s n
theorem zjo (L p : Nat -> Bool) (s : Bool) (n : Nat) : zgs L p s (n + 1) = ((L n && p n) || zgs L p s n) := rfl
theorem zd1 {L L' p : Nat -> Bool} {s : Bool} : ∀ n, (∀ j, j < n -> p j = true -> L j = L' j) -> zgs L p s n = zgs L' p s n
 | 0, _ => rfl
 | n + 1, h => by
   unfold zgs
   rw [zd1 n (fun j hj => h j (by omega))]
   cases e : p n with
   | false => simp
   | true => rw [h n (by omega) e]
theorem zgi {L p : Nat -> Bool} {s : Bool} (i : Nat) : ∀ n, (∀ j, i <= j -> j < n -> L j = false) -> i <= n -> zgs L p s n = zgs L p s i
 | 0, _, hi => by have : i = 0 := by omega
                  rw [this]
 | n + 1, h, hi => by
   by_cases e : i = n + 1
   · rw [e]
   · rw [zjo, h n (by omega) (by omega), zgi i n (fun j h1 h2 => h j h1 (by omega)) (by omega)]
     simp
theorem zrb {p : Nat -> Bool} {s : Bool} (i : Nat) : ∀ n, i <= n -> zgs (fun j => decide (j < i)) p s n = zgs (fun _ => true) p s i := fun n hn => by
 rw [zgi i n (fun j h1 _ => by simp; omega) hn]
 exact zd1 i (fun j hj _ => by simp [hj])
theorem zmd {L L' p : Nat -> Bool} {s : Bool} {i : Nat} (hi : L' i = true) (hL : L i = false) (hne : ∀ j, j ≠ i -> L' j = L j) : ∀ n, i < n -> zgs L' p s n = (p i || zgs L p s n)
 | 0, h => by omega
 | n + 1, h => by
   by_cases e : n = i
   · subst e
     have : zgs L' p s n = zgs L p s n := zd1 n (fun j hj _ => hne j (by omega))
     unfold zgs
     rw [hi, hL, this]; simp
   · unfold zgs
     rw [hne n e, zmd hi hL hne n (by omega)]
     cases L n && p n <;> cases p i <;> simp
theorem zfn {T : TT} {L : zah} {f f' : Nat -> Option AV} {g g' : Nat -> Option Ob} {c c' : Nat -> Bool} {kn kn' : List (Nat × Bool)} {o : Oper} (hv : zbf (evf f kn) (zaz o.op) = zbf (evf f' kn') (zaz o.op))
   (hg : ∀ id, id ∈ zbn (zbf (evf f' kn') (zaz o.op)) -> g id = g' id) (hn : zbj o.op = true -> ∀ d, o.dst = some d -> g d = g' d)
   (hc : zhh o.op = true -> ∀ id, id ∈ zsz (zbf (evf f' kn') (zaz o.op)) -> c id = c' id) : zf9 T L f g c kn o = zf9 T L f' g' c' kn' o := by
 unfold zf9
 rw [hv]
 have e1 : zw8 g (zbn (zbf (evf f' kn') (zaz o.op))) = zw8 g' (zbn (zbf (evf f' kn') (zaz o.op))) := by
   funext id
   unfold zw8
   split
   · rename_i h; exact hg id (zbb.1 h)
   · rfl
 have e2 : znq c o.op (zbf (evf f' kn') (zaz o.op)) = znq c' o.op (zbf (evf f' kn') (zaz o.op)) := by
   funext id
   unfold znq
   split
   · rename_i h
     split
     · rename_i h2; exact hc h id (zbb.1 h2)
     · rfl
   · rfl
 have e3 : zc3 g o.op o.dst = zc3 g' o.op o.dst := by
   unfold zc3
   split
   · rename_i h
     split
     · rename_i d hd; rw [hn h d hd]
     · rfl
   · rfl
 rw [e1, e2, e3]
def zgt (f : Nat -> Option AV) (kn : List (Nat × Bool)) : Prop := ∀ t b, za1 kn t = some b -> f t = some (.bool b)
theorem ztr {f : Nat -> Option AV} {kn : List (Nat × Bool)} (h : zgt f kn) (x : Operand) : evf f kn x = evf f [] x := by
 unfold evf
 cases x with
 | tmp t =>
   simp only [za1]
   cases e : za1 kn t with
   | none => rfl
   | some b => simp [h t b e]
 | _ => rfl
theorem zdx {α β : Type} {k k' : α -> β} : ∀ {l : List α}, (∀ x ∈ l, k x = k' x) -> zbf k l = zbf k' l
 | [], _ => rfl
 | x :: l, h => by simp [zbf, h x (by simp), zdx (l := l) (fun y hy => h y (by simp [hy]))]
inductive Holds (P : Program) : zbp -> AV -> List (Nat × Ob) -> List Nat -> Prop
 | ok (v : AV) (os : List (Nat × Ob)) (ice : List Nat) : Holds P (.ok v os ice) v os ice
 | okIf (b : Bool) (v : AV) (os : List (Nat × Ob)) (ice : List Nat) (h : b = true) : Holds P (.okIf b v os ice) v os ice
 | okP (p : Prop) (v : AV) (os : List (Nat × Ob)) (ice : List Nat) (h : p) : Holds P (.okP p v os ice) v os ice
 | call (k : FuncId) (xs : List AV) (ice : List Nat) (r : AV) (h : zdg P k xs r) : Holds P (.call k xs ice) r [] ice
 | alt1 (b : Bool) (v : AV) (os : List (Nat × Ob)) (q : Bool) (v' : AV) (os' : List (Nat × Ob)) (h : b = true) : Holds P (.alt b v os q v' os') v os []
 | alt2 (b : Bool) (v : AV) (os : List (Nat × Ob)) (q : Bool) (v' : AV) (os' : List (Nat × Ob)) (h : b = false) (hq : q = true) : Holds P (.alt b v os q v' os') v' os' []
theorem zxp {P : Program} {base : Nat} {M : Two} {W : World} {nt : Nat} {f : Nat -> Option AV} {g : Nat -> Option Ob} {c : Nat -> Bool} {o : Oper} {a : Act} {w : World} {x : zbp} {v : AV} {os : List (Nat × Ob)} {ice : List Nat}
   (h : Holds P x v os ice) (s : zbo P base M W nt f g c o a w x) : Adv P base M W nt f g c o a w v os ice := by
 cases h with
 | ok => exact s
 | okIf _ _ _ _ h => exact s h
 | okP _ _ _ _ h => exact s h
 | call _ _ _ _ h => exact s _ h
 | alt1 _ _ _ _ _ _ h => exact s.1 h
 | alt2 _ _ _ _ _ _ h hq => exact s.2 h hq
inductive Sat (P : Program) (Q : AV -> Prop) : zb9 -> Prop
 | need {b : Bool} {k : zb9} (h : b = true) (hk : Sat P Q k) : Sat P Q (.need b k)
 | must {p : Prop} {k : zb9} (h : p) (hk : Sat P Q k) : Sat P Q (.must p k)
 | ite {b : Bool} {t e : zb9} (ht : b = true -> Sat P Q t) (he : b = false -> Sat P Q e) : Sat P Q (.ite b t e)
 | done {r : AV} (h : Q r) : Sat P Q (.done r)
 | yes : Sat P Q .yes
 | call {f : FuncId} {xs : List AV} {k : AV -> zb9} {r : AV} (h : zdg P f xs r) (hk : Sat P Q (k r)) : Sat P Q (.call f xs k)
 | ex {X : Type} {f : X -> zb9} (x : X) (h : Sat P Q (f x)) : Sat P Q (.ex X f)
 | all {X : Type} {f : X -> zb9} (h : ∀ x, Sat P Q (f x)) : Sat P Q (.all X f)
 | sup {p : Prop} {k : zb9} (h : p -> Sat P Q k) : Sat P Q (.sup p k)
 | and {a b : zb9} (h1 : Sat P Q a) (h2 : Sat P Q b) : Sat P Q (.and a b)
structure zcj (P : Program) (S : zif) : Prop where
 fz : ∀ f xs p r, S.fz f xs = some (p, r) -> p -> zdg P f xs r
 mt : ∀ f m, S.mt f = some m -> ∀ raw ob T, m raw ob = some T -> T.p -> zba P f T.xs T.O T.r T.O1
theorem zed {P : Program} {Q : AV -> Prop} {next : zb9} : ∀ {ps : List Prop}, Sat P Q (zsh ps next) -> (∀ p, p ∈ ps -> p) /\ Sat P Q next
 | [], h => ⟨fun p hp => by simp at hp, h⟩
 | p :: r, h => by
   cases h with
   | must h hk =>
     obtain ⟨h1, h2⟩ := zed hk
     exact ⟨fun q hq => by rcases List.mem_cons.1 hq with rfl | hq; exact h; exact h1 q hq, h2⟩
theorem zss {P : Program} {T : TT} {f : Nat -> Option AV} {g : Nat -> Option Ob} {c : Nat -> Bool} {kn : List (Nat × Bool)} {o : Oper} {b : Bool} (h : zj2 kn o.op = some b) {v : AV} {os : List (Nat × Ob)} {ice : List Nat}
   (hh : Holds P (zf9 T std f g c kn o) v os ice) : v = .bool b := by
 have lit : ∀ x b, litOf kn x = some b -> evf f kn x = .bool b := by
   intro x b hx
   unfold litOf at hx
   split at hx
   · cases hx; rfl
   · rename_i t
     simp [evf, hx]
   · cases hx
 unfold zj2 at h
 unfold zf9 zz8 at hh
 split at h
 · rename_i x e
   rw [e] at hh
   simp only [zaz, zbf, zqv, lit x b h] at hh
   cases hh; rfl
 · rename_i x e
   rw [e] at hh
   simp only [zaz, zbf, zqv, lit x b h] at hh
   cases hh; rfl
 · rename_i x y z e
   rw [e] at hh
   simp only [zaz, zbf] at hh
   split at h
   · rename_i hc
     rw [lit x _ hc, lit y b h] at hh
     simp only [zqu] at hh
     cases hh; rfl
   · rename_i hc
     rw [lit x _ hc, lit z b h] at hh
     simp only [zqu] at hh
     cases hh; rfl
   · cases h
 · cases h
theorem zjr {kn : List (Nat × Bool)} {d t : Nat} : za1 (zv0 kn d) t = if t = d then none else za1 kn t := by
 induction kn with
 | nil => simp [zv0, za1]
 | cons x kn ih =>
   obtain ⟨u, b⟩ := x
   unfold zv0
   cases e : za9 u d with
   | true =>
     simp only [ih]
     have := za2 e; subst this
     by_cases ht : t = u
     · simp [ht]
     · have : za9 u t = false := za6 fun h => ht h.symm
       simp [ht, za1, this]
   | false =>
     simp only [za1]
     cases e' : za9 u t with
     | true =>
       have := za2 e'; subst this
       have : u ≠ d := by rintro rfl; rw [za3] at e; cases e
       simp [this]
     | false => simpa using ih
theorem zfk (s : St) (dst : Option Nat) (v : AV) : za1 (s.put dst v) = zgq (za1 s.slots) dst v := by
 funext t
 unfold St.put zgq
 cases dst with
 | none => rfl
 | some d =>
   simp only [za1]
   by_cases e : t = d
   · subst e; simp [za3]
   · have : za9 d t = false := za6 fun h => e h.symm
     simp [this, e]
theorem zt9 {α : Type} (os l : List (Nat × α)) (id : Nat) : za1 (zb0 os l) id = match za1 os id with | some o => some o | none => za1 l id := zci os l id
theorem zjs (os l : List (Nat × Ob)) : za1 (zb0 os l) = zaf (za1 l) os := by
 funext id; rw [zt9]; unfold zaf; cases za1 os id <;> rfl
theorem zsp (os l : List Nat) : ∀ id, zb2 (zb0 os l) id = (zb2 os id || zb2 l id) := by
 intro id
 induction os with
 | nil => simp [zb0, zb2]
 | cons x os ih =>
   simp only [zb0, zb2]
   cases za9 x id <;> simp [ih]
theorem zj1 (os l : List Nat) : zb2 (zb0 os l) = zfj (zb2 l) os := by
 funext id; rw [zsp]; rfl
theorem zm0 {f : Nat -> Option AV} {kn : List (Nat × Bool)} (h : zgt f kn) {dst : Option Nat} {v : AV} {x : Option Bool} (hx : ∀ b, x = some b -> v = .bool b) : zgt (zgq f dst v) (zx5 kn dst x) := by
 intro t b ht
 unfold zx5 at ht
 cases dst with
 | none => exact h t b ht
 | some d =>
   simp only [zgq]
   cases x with
   | none =>
     simp only at ht
     rw [zjr] at ht
     split at ht
     · cases ht
     · rename_i e; rw [if_neg e]; exact h t b ht
   | some y =>
     simp only [za1] at ht
     cases e : za9 d t with
     | true =>
       rw [e] at ht
       have := za2 e; subst this
       cases ht
       rw [if_pos rfl, hx _ rfl]
     | false =>
       rw [e] at ht
       simp only at ht
       rw [zjr] at ht
       split at ht
       · cases ht
       · rename_i e; rw [if_neg e]; exact h t b ht
theorem zch {f : Nat -> Option AV} {kn : List (Nat × Bool)} (h : zgt f kn) {t : Nat} {b : Bool} (hx : f t = some (.bool b)) : zgt f ((t, b) :: kn) := by
 intro u y hu
 simp only [za1] at hu
 cases e : za9 t u with
 | true =>
   rw [e] at hu
   have := za2 e; subst this
   cases hu; exact hx
 | false => rw [e] at hu; exact h u y hu
def zgk (base : Nat) (M : Two) (W : World) (nt : Nat) (s : St) (a : Act) (w : World) : Prop :=
 ze9 base M W nt (za1 s.slots) (za1 s.objs) (zb2 s.ice) a w /\ zgt (za1 s.slots) s.kn
structure Ev where
 want : Bool
 v : AV
 os : List (Nat × Ob)
 ice : List Nat
 ent : Ent
def nothing : Ev := ⟨false, .tup [], [], [], ⟨[], []⟩⟩
def zjt (P : Program) (T : TT) (f : Nat -> Option AV) (g : Nat -> Option Ob) (c : Nat -> Bool) (o : Oper) (e : Ev) : Prop :=
 Holds P (zf9 T std f g c [] o) e.v e.os e.ice \/ (ztw P f g c o e.v e.os /\ e.ice = [])
structure zy1 (P : Program) (T : TT) (ops : List Oper) (f : Nat -> Option AV) (g : Nat -> Option Ob) (c : Nat -> Bool) (o : Oper) (e : Ev) : Prop where
 guard : match ze8 ops o with
   | none => e.want = true
   | some (some t, w) => (∃ b, f t = some (.bool b) /\ e.want = (b == w)) \/ (f t = some (.tup []) /\ e.want = false)
   | some (none, _) => False
 no : e.want = false -> e.v = .tup [] /\ e.os = [] /\ e.ice = [] /\ e.ent = ⟨[], []⟩
 yes : e.want = true -> zjt P T f g c o e
def ztd (f : Nat -> Option AV) (o : Oper) (e : Ev) : Prop := e.want = true ->
 (∀ id, id ∈ zbn (zbf (evf f []) (zaz o.op)) -> id ∈ e.ent.ids) /\ (zbj o.op = true -> ∀ d, o.dst = some d -> d ∈ e.ent.ids) /\ (∀ id, id ∈ e.ice -> id ∈ e.ent.ids) /\
 (∀ id, id ∈ zm1 e.os -> id ∈ e.ent.wr) /\ (zhh o.op = true -> ∀ id, id ∈ zsz (zbf (evf f []) (zaz o.op)) -> id ∈ e.ent.wr)
def zta (ops : List Oper) (o : Oper) (e : Ev) (acc : List (Nat × Ent)) : Prop := e.want = true -> zey ops o.after.toList e.ent acc = true
def zng (acc : List (Nat × Ent)) (i : Nat) (e : Ev) : List (Nat × Ent) := if e.want = true then zlk acc i e.ent else acc
def zwd (P : Program) (T : TT) (draw : Bool) (ops : List Oper) : List Oper -> Nat -> (Nat -> Option AV) -> (Nat -> Option Ob) -> (Nat -> Bool) -> List (Nat × Ent) -> List Ev -> (Nat -> Option AV) -> (Nat -> Option Ob) -> (Nat -> Bool) -> Prop
 | [], _, f, g, c, _, [], f', g', c' => f' = f /\ g' = g /\ c' = c
 | o :: r, i, f, g, c, acc, e :: es, f', g', c' => zy1 P T ops f g c o e /\ (draw = true -> ztd f o e /\ zta ops o e acc) /\
     zwd P T draw ops r (i + 1) (zgq f o.dst e.v) (zaf g e.os) (zfj c e.ice) (if draw = true then zng acc i e else acc) es f' g' c'
 | _, _, _, _, _, _, _, _, _, _ => False
section
variable {P : Program} {T : TT} {S : zif} {Q : AV -> Prop} {draw : Bool} {ops : List Oper}
theorem zu6 {f : Nat -> Option AV} {g : Nat -> Option Ob} {c : Nat -> Bool} {kn : List (Nat × Bool)} (h : zgt f kn) (L : zah) (o : Oper) : zf9 T L f g c kn o = zf9 T L f g c [] o :=
 zfn (zdx fun x _ => ztr h x) (fun _ _ => rfl) (fun _ _ _ => rfl) (fun _ _ _ => rfl)
theorem znx (hS : zcj P S) {o : Oper} {i : Nat} {s : St} {acc : List (Nat × Ent)} {next : St -> List (Nat × Ent) -> zb9} (hk : zgt (za1 s.slots) s.kn)
   (h : Sat P Q (zjh T std S draw ops o i s acc next)) : ∃ e : Ev, e.want = true /\ zjt P T (za1 s.slots) (za1 s.objs) (zb2 s.ice) o e /\ (draw = true -> ztd (za1 s.slots) o e /\ zta ops o e acc) /\
     ∃ s', za1 s'.slots = zgq (za1 s.slots) o.dst e.v /\ za1 s'.objs = zaf (za1 s.objs) e.os /\ zb2 s'.ice = zfj (zb2 s.ice) e.ice /\ zgt (za1 s'.slots) s'.kn /\ Sat P Q (next s' (if draw = true then zng acc i e else acc)) := by
 have hval : zbf (evf (za1 s.slots) s.kn) (zaz o.op) = zbf (evf (za1 s.slots) []) (zaz o.op) := zdx fun x _ => ztr hk x
 have key : ∀ v os ice, (∀ ent, zjt P T (za1 s.slots) (za1 s.objs) (zb2 s.ice) o ⟨true, v, os, ice, ent⟩) -> (∀ b, zj2 s.kn o.op = some b -> v = .bool b) ->
     Sat P Q (zds draw ops o i s acc (znp draw s o) (zwf draw s o) v os ice next) -> ∃ e : Ev, e.want = true /\ zjt P T (za1 s.slots) (za1 s.objs) (zb2 s.ice) o e /\ (draw = true -> ztd (za1 s.slots) o e /\ zta ops o e acc) /\
     ∃ s', za1 s'.slots = zgq (za1 s.slots) o.dst e.v /\ za1 s'.objs = zaf (za1 s.objs) e.os /\ zb2 s'.ice = zfj (zb2 s.ice) e.ice /\ zgt (za1 s'.slots) s'.kn /\ Sat P Q (next s' (if draw = true then zng acc i e else acc)) := by
   intro v os ice hh hl h
   refine ⟨⟨true, v, os, ice, ⟨zb0 ice (znp draw s o), zb0 (zwf draw s o) (zm1 os)⟩⟩, rfl, hh _, fun hd => ?_, s.eff o.dst v os ice (zj2 s.kn o.op), zfk .., zjs .., zj1 .., ?_, ?_⟩
   · subst hd
     refine ⟨fun _ => ⟨fun id hid => ?_, fun hc d hd => ?_, fun id hid => ?_, fun id hid => ?_, fun hw id hid => ?_⟩, fun _ => ?_⟩
     · simp only [za7, List.mem_append, znp]; rw [hval]; exact .inr (.inr hid)
     · simp [za7, znp, hc, hd]
     · simp only [za7, List.mem_append]; exact .inl hid
     · simp only [za7, List.mem_append]; exact .inr hid
     · simp only [za7, List.mem_append, zwf, hw]; rw [hval]; exact .inl hid
     · simp only [zds] at h
       split at h
       · rename_i e; exact e
       · cases h
   · show zgt (za1 (s.put o.dst v)) (zx5 s.kn o.dst (zj2 s.kn o.op))
     rw [zfk]
     exact zm0 hk hl
   · unfold zds at h
     cases draw with
     | false => exact h
     | true =>
       simp only at h
       split at h
       · exact h
       · cases h
 have key1 : ∀ v os ice, Holds P (zf9 T std (za1 s.slots) (za1 s.objs) (zb2 s.ice) s.kn o) v os ice -> (∀ ent, zjt P T (za1 s.slots) (za1 s.objs) (zb2 s.ice) o ⟨true, v, os, ice, ent⟩) /\ ∀ b, zj2 s.kn o.op = some b -> v = .bool b := by
   intro v os ice hh
   have hh' := hh
   rw [zu6 hk] at hh'
   exact ⟨fun _ => .inl hh', fun b hb => zss hb hh⟩
 unfold zjh at h
 split at h
 · rename_i m raw hsel
   obtain ⟨f, first, caps, zs, c1, c2, hm, rfl⟩ : ∃ f first caps zs, zki o.op = true /\ zbf (evf (za1 s.slots) s.kn) (zaz o.op) = .fn f first caps :: zs /\ S.mt f = some m /\ raw = zb0 first (zb0 zs caps) := by
     split at hsel
     · rename_i c1
       split at hsel
       · rename_i f first caps zs c2
         split at hsel
         · rename_i m' hm; cases hsel; exact ⟨f, first, caps, zs, c1, c2, hm, rfl⟩
         · cases hsel
       · cases hsel
     · cases hsel
   obtain ⟨fo, ys, ts, e1⟩ : ∃ fo ys ts, o.op = .call { callee := .value fo, args := ys, argTypes := ts } := by
     unfold zki at c1
     split at c1
     · rename_i fo ys ts e1; exact ⟨_, _, _, e1⟩
     · cases c1
   unfold zx9 at h
   split at h
   · rename_i T' hT'
     split at h
     · rename_i mt hmt
       split at h
       · rename_i hfr
         obtain ⟨hps, h⟩ := zed h
         cases h with
         | must hp h =>
           refine key _ _ [] (fun ent => .inr ⟨⟨fo, ys, ts, f, first, caps, zs, mt.ids, _, T', e1, by rw [<- hval]; exact c2, hS.mt f m hm _ _ T' hT' hp, zsl hmt hfr hps, rfl, rfl⟩, rfl⟩) (fun b hb => ?_) h
           rw [e1] at hb; cases hb
       · cases h
     · cases h
   · cases h
 unfold zxa at h
 split at h
 · rename_i v os ice e; obtain ⟨k1, k2⟩ := key1 v os ice (by rw [e]; exact .ok ..); exact key v os ice k1 k2 h
 · rename_i b v os ice e; cases h with | need h hk => obtain ⟨k1, k2⟩ := key1 v os ice (by rw [e]; exact .okIf _ _ _ _ h); exact key v os ice k1 k2 hk
 · rename_i b v os ice e; cases h with | must h hk => obtain ⟨k1, k2⟩ := key1 v os ice (by rw [e]; exact .okP _ _ _ _ h); exact key v os ice k1 k2 hk
 · rename_i b v os q v' os' e
   cases hb : b with
   | true =>
     cases h with | ite ht he => obtain ⟨k1, k2⟩ := key1 v os [] (by rw [e]; exact .alt1 _ _ _ _ _ _ hb); exact key v os [] k1 k2 (ht hb)
   | false =>
     cases h with
     | ite ht he =>
       have h := he hb
       cases h with | need h hk => obtain ⟨k1, k2⟩ := key1 v' os' [] (by rw [e]; exact .alt2 _ _ _ _ _ _ hb h); exact key v' os' [] k1 k2 hk
 · rename_i f xs ice e
   split at h
   · rename_i p r hs
     cases h with | must h hk => obtain ⟨k1, k2⟩ := key1 r [] ice (by rw [e]; exact .call _ _ _ _ (hS.fz f _ p r hs h)); exact key r [] ice k1 k2 hk
   · rename_i hs
     cases h with | call h hk => obtain ⟨k1, k2⟩ := key1 _ [] ice (by rw [e]; exact .call _ _ _ _ h); exact key _ [] ice k1 k2 hk
 · cases h
theorem zcu (hS : zcj P S) {k : St -> zb9} : ∀ (r : List Oper) (i : Nat) (s : St) (acc : List (Nat × Ent)), zgt (za1 s.slots) s.kn -> Sat P Q (zbw T std S draw ops r i s acc k) ->
   ∃ es s', zwd P T draw ops r i (za1 s.slots) (za1 s.objs) (zb2 s.ice) acc es (za1 s'.slots) (za1 s'.objs) (zb2 s'.ice) /\ zgt (za1 s'.slots) s'.kn /\ Sat P Q (k s')
 | [], i, s, acc, hk, h => ⟨[], s, ⟨rfl, rfl, rfl⟩, hk, h⟩
 | o :: r, i, s, acc, hk, h => by
   have yes : ∀ s1 : St, s1.slots = s.slots -> s1.objs = s.objs -> s1.ice = s.ice -> zgt (za1 s1.slots) s1.kn ->
       (match ze8 ops o with
         | none => true = true
         | some (some t, w) => (∃ b, za1 s.slots t = some (.bool b) /\ true = (b == w)) \/ (za1 s.slots t = some (.tup []) /\ true = false)
         | some (none, _) => False) -> Sat P Q (zjh T std S draw ops o i s1 acc (fun s acc => zbw T std S draw ops r (i + 1) s acc k)) ->
       ∃ es s', zwd P T draw ops (o :: r) i (za1 s.slots) (za1 s.objs) (zb2 s.ice) acc es (za1 s'.slots) (za1 s'.objs) (zb2 s'.ice) /\ zgt (za1 s'.slots) s'.kn /\ Sat P Q (k s') := by
     intro s1 e1 e2 e3 hk1 hg h
     obtain ⟨e, hw, hh, he, s2, h1, h2, h3, h4, h5⟩ := znx hS hk1 h
     obtain ⟨es, s', hW, hk', h'⟩ := zcu hS r (i + 1) s2 _ h4 h5
     rw [h1, h2, h3, e1, e2, e3] at hW
     rw [e1, e2, e3] at hh
     rw [e1] at he
     refine ⟨e :: es, s', ⟨⟨?_, fun h => (by rw [hw] at h; cases h), fun _ => hh⟩, he, hW⟩, hk', h'⟩
     rw [hw]; exact hg
   have no : ∀ s1 : St, s1.slots = s.slots -> s1.objs = s.objs -> s1.ice = s.ice -> zgt (za1 s1.slots) s1.kn ->
       (match ze8 ops o with
         | none => false = true
         | some (some t, w) => (∃ b, za1 s.slots t = some (.bool b) /\ false = (b == w)) \/ (za1 s.slots t = some (.tup []) /\ false = false)
         | some (none, _) => False) -> Sat P Q (zbw T std S draw ops r (i + 1) (s1.eff o.dst (.tup []) [] [] none) acc k) ->
       ∃ es s', zwd P T draw ops (o :: r) i (za1 s.slots) (za1 s.objs) (zb2 s.ice) acc es (za1 s'.slots) (za1 s'.objs) (zb2 s'.ice) /\ zgt (za1 s'.slots) s'.kn /\ Sat P Q (k s') := by
     intro s1 e1 e2 e3 hk1 hg h
     have h4 : zgt (za1 (s1.eff o.dst (.tup []) [] [] none).slots) (s1.eff o.dst (.tup []) [] [] none).kn := by
       show zgt (za1 (s1.put o.dst (.tup []))) (zx5 s1.kn o.dst none)
       rw [zfk]
       exact zm0 hk1 fun b hb => by cases hb
     obtain ⟨es, s', hW, hk', h'⟩ := zcu hS r (i + 1) _ _ h4 h
     have q1 : za1 (s1.eff o.dst (.tup []) [] [] none).slots = zgq (za1 s.slots) o.dst (.tup []) := by rw [<- e1]; exact zfk ..
     have q2 : za1 (s1.eff o.dst (.tup []) [] [] none).objs = zaf (za1 s.objs) [] := by rw [<- e2]; exact zjs ..
     have q3 : zb2 (s1.eff o.dst (.tup []) [] [] none).ice = zfj (zb2 s.ice) [] := by rw [<- e3]; exact zj1 ..
     rw [q1, q2, q3] at hW
     refine ⟨nothing :: es, s', ⟨⟨hg, fun _ => ⟨rfl, rfl, rfl, rfl⟩, fun h => by cases h⟩, fun _ => ⟨fun h => by simp [nothing] at h, fun h => by simp [nothing] at h⟩, ?_⟩, hk', h'⟩
     simpa [zng, nothing] using hW
   unfold zbw at h
   split at h
   · rename_i e; exact yes s rfl rfl rfl hk (by rw [e]) h
   · cases h
   · rename_i t w e
     rw [e] at yes no
     split at h
     · rename_i b hb
       have hf := hk t b hb
       split at h
       · exact yes s rfl rfl rfl hk (.inl ⟨true, hf, rfl⟩) h
       · exact yes s rfl rfl rfl hk (.inl ⟨false, hf, rfl⟩) h
       · rename_i h1 h2
         refine no s rfl rfl rfl hk (.inl ⟨b, hf, ?_⟩) h
         cases b <;> cases w <;> simp_all
     · split at h
       · rename_i hb
         exact no s rfl rfl rfl hk (.inr ⟨hb, rfl⟩) h
       · rename_i b hb
         split at h
         · cases h with | ite h1 h2 =>
           cases b with
           | true => exact yes (s.know t true) rfl rfl rfl (zch hk hb) (.inl ⟨true, hb, rfl⟩) (h1 rfl)
           | false => exact no (s.know t false) rfl rfl rfl (zch hk hb) (.inl ⟨false, hb, rfl⟩) (h2 rfl)
         · cases h with | ite h1 h2 =>
           cases b with
           | true => exact no (s.know t true) rfl rfl rfl (zch hk hb) (.inl ⟨true, hb, rfl⟩) (h1 rfl)
           | false => exact yes (s.know t false) rfl rfl rfl (zch hk hb) (.inl ⟨false, hb, rfl⟩) (h2 rfl)
       · cases h
end
end Sy
end Go.Proofs.Ytlphgephdhadhaa
namespace Go.Proofs.Ytlphgephdhadhaa
namespace Sy
open Go Go.RowKit
set_option linter.unusedSimpArgs false
set_option linter.unusedVariables false
set_option linter.unusedSectionVars false
def zjz : List Operand -> List Nat
 | [] => []
 | .tmp t :: r => t :: zjz r
 | _ :: r => zjz r
def zyo (nt : Nat) (o : Oper) : Bool :=
 (match o.dst with | some d => zb6 d nt | none => true) && (zaz o.op).all fun x => match x with | .const v => zef v | _ => true
def ziu (i : Nat) (o : Oper) (ts : List Nat) : Nat -> List Oper -> Bool
 | _, [] => true
 | j, o' :: r => (match o'.dst with
   | none => true
   | some d => (za9 j i || (match o.dst with | some d' => !za9 d' d | none => true)) &&
     (!zb2 ts d || (zb6 j i && zaa o.after.toList j) || (zb6 i j && zaa o'.after.toList i))) && ziu i o ts (j + 1) r
def zge (ops : List Oper) : Nat -> List Oper -> Bool
 | _, [] => true
 | i, o :: r => (o.after.toList.all fun e => !Region.binds .any e || zb6 e.on i) && (match o.guard with | none => true | some (g, _) => zaa o.after.toList g) &&
   ziu i o (zjz (zaz o.op)) 0 ops && zge ops (i + 1) r
structure ztv (nt : Nat) (o : Oper) : Prop where
 dst : ∀ d, o.dst = some d -> d < nt
 pl : ∀ x ∈ zaz o.op, ∀ v, x = .const v -> zef v = true
theorem zpg {nt : Nat} {o : Oper} (h : zyo nt o = true) : ztv nt o := by
 unfold zyo at h
 simp only [Bool.and_eq_true] at h
 refine ⟨fun d hd => ?_, fun x hx v hv => ?_⟩
 · have h1 := h.1
   rw [hd] at h1
   exact zbv h1
 · have h2 := List.all_eq_true.1 h.2 x hx
   rw [hv] at h2
   exact h2
theorem zpo {l : List Operand} {t : Nat} (h : Operand.tmp t ∈ l) : t ∈ zjz l := by
 induction l with
 | nil => cases h
 | cons x l ih =>
   rcases List.mem_cons.1 h with rfl | h'
   · simp [zjz]
   · cases x <;> simp [zjz, ih h']
structure zgm (ops : List Oper) : Prop where
 back : ∀ (i : Nat) (o : Oper) (e : Edge), ops[i]? = some o -> e ∈ o.after -> Region.binds .any e = true -> e.on < i
 guard : ∀ (i : Nat) (o : Oper) g b, ops[i]? = some o -> o.guard = some (g, b) -> zaa o.after.toList g = true
 once : ∀ (i j : Nat) (o o' : Oper) d, ops[i]? = some o -> ops[j]? = some o' -> o.dst = some d -> o'.dst = some d -> i = j
 reads : ∀ (i j : Nat) (o o' : Oper) d, ops[i]? = some o -> ops[j]? = some o' -> o'.dst = some d -> Operand.tmp d ∈ zaz o.op ->
   (j < i /\ zaa o.after.toList j = true) \/ (i < j /\ zaa o'.after.toList i = true)
theorem zfv {i : Nat} {o : Oper} {ts : List Nat} : ∀ (l : List Oper) (j : Nat), ziu i o ts j l = true -> ∀ (k : Nat) (o' : Oper), l[k]? = some o' -> ∀ d, o'.dst = some d ->
   (za9 (j + k) i || (match o.dst with | some d' => !za9 d' d | none => true)) = true /\ (!zb2 ts d || (zb6 (j + k) i && zaa o.after.toList (j + k)) || (zb6 i (j + k) && zaa o'.after.toList i)) = true
 | [], _, _, k, o', hk, _, _ => by simp at hk
 | x :: l, j, h, k, o', hk, d, hd => by
   unfold ziu at h
   rw [Bool.and_eq_true] at h
   cases k with
   | zero =>
     simp only [List.getElem?_cons_zero, Option.some.injEq] at hk
     subst hk
     have h1 := h.1
     rw [hd] at h1
     simp only [Bool.and_eq_true] at h1
     exact h1
   | succ k =>
     have := zfv l (j + 1) h.2 k o' (by simpa using hk) d hd
     rw [show j + 1 + k = j + (k + 1) by omega] at this
     exact this
theorem zjj {ops : List Oper} : ∀ (l : List Oper) (i : Nat), zge ops i l = true -> ∀ (k : Nat) (o : Oper), l[k]? = some o ->
   ((o.after.toList.all fun e => !Region.binds .any e || zb6 e.on (i + k)) && (match o.guard with | none => true | some (g, _) => zaa o.after.toList g)) = true /\ ziu (i + k) o (zjz (zaz o.op)) 0 ops = true
 | [], _, _, k, o, hk => by simp at hk
 | x :: l, i, h, k, o, hk => by
   unfold zge at h
   rw [Bool.and_eq_true, Bool.and_eq_true] at h
   cases k with
   | zero =>
     simp only [List.getElem?_cons_zero, Option.some.injEq] at hk
     subst hk
     exact ⟨h.1.1, h.1.2⟩
   | succ k =>
     have := zjj l (i + 1) h.2 k o (by simpa using hk)
     rw [show i + 1 + k = i + (k + 1) by omega] at this
     exact this
theorem zji {ops : List Oper} (h : zge ops 0 ops = true) : zgm ops := by
 have H := zjj ops 0 h
 simp only [Nat.zero_add] at H
 refine ⟨fun i o e ho he hb => ?_, fun i o g b ho hg => ?_, fun i j o o' d ho ho' hd hd' => ?_, fun i j o o' d ho ho' hd hr => ?_⟩
 · have h1 := (H i o ho).1
   rw [Bool.and_eq_true, List.all_eq_true] at h1
   have h2 := h1.1 e (Array.mem_toList_iff.2 he)
   rw [hb] at h2
   exact zbv (by simpa using h2)
 · have h1 := (H i o ho).1
   rw [Bool.and_eq_true] at h1
   have h2 := h1.2
   rw [hg] at h2
   exact h2
 · have h1 := (zfv ops 0 (H i o ho).2 j o' ho' d hd').1
   rw [hd, Nat.zero_add] at h1
   simp only [za3, Bool.not_true, Bool.or_false] at h1
   exact (za2 h1).symm
 · have h1 := (zfv ops 0 (H i o ho).2 j o' ho' d hd).2
   rw [Nat.zero_add, zbb.2 (zpo hr)] at h1
   simp only [Bool.not_true, Bool.false_or, Bool.or_eq_true, Bool.and_eq_true] at h1
   rcases h1 with h1 | h1
   · exact .inl ⟨zbv h1.1, h1.2⟩
   · exact .inr ⟨zbv h1.1, h1.2⟩
section
variable {P : Program} {T : TT} {base : Nat} {M : Two} {W : World} {nt : Nat} {ops : List Oper}
theorem zoa {f : Nat -> Option AV} {g : Nat -> Option Ob} {c : Nat -> Bool} {a : Act} {w : World} {o : Oper} {e : Ev} (hs : ze9 base M W nt f g c a w) (hops : ∀ o ∈ ops, ztv nt o)
   (hg : match ze8 ops o with
     | none => e.want = true
     | some (some t, w) => (∃ b, f t = some (.bool b) /\ e.want = (b == w)) \/ (f t = some (.tup []) /\ e.want = false)
     | some (none, _) => False) : Region.wanted o (yielded ops.toArray a.tmps) = e.want := by
 obtain ⟨D, μ, h⟩ := hs
 unfold Region.wanted
 unfold ze8 at hg
 cases e1 : o.guard with
 | none => rw [e1] at hg; simp only at hg |-; exact hg.symm
 | some x =>
   obtain ⟨j, wt⟩ := x
   rw [e1] at hg
   simp only at hg |-
   cases e2 : ops[j]? with
   | none => rw [e2] at hg; exact hg.elim
   | some o' =>
     rw [e2] at hg
     simp only at hg
     cases e3 : o'.dst with
     | none => rw [e3] at hg; exact hg.elim
     | some t =>
       rw [e3] at hg
       simp only at hg
       rcases hg with ⟨b, hb, hw⟩ | ⟨hb, hw⟩
       rotate_left
       · have ht : t < a.tmps.size := by rw [h.tmps]; exact (hops o' (List.mem_of_getElem? e2)).dst t e3
         obtain ⟨us, hu, l1, _⟩ := (h.slots t _ hb).inv_tup
         have hus : us = #[] := Array.eq_empty_of_size_eq_zero (by simpa using l1.symm)
         have hx : a.tmps[t]? = some (.tuple #[]) := by
           rw [hus] at hu
           rw [<- hu]; simp [ht]
         unfold yielded
         simp only [List.getElem?_toArray, e2, Option.bind_some, e3, hx]
         rw [hw]; cases wt <;> rfl
       have ht : t < a.tmps.size := by rw [h.tmps]; exact (hops o' (List.mem_of_getElem? e2)).dst t e3
       have hr := (h.slots t _ hb).inv_bool
       have hx : a.tmps[t]? = some (.bool b) := by rw [<- hr]; simp [ht]
       unfold yielded
       simp only [List.getElem?_toArray, e2, Option.bind_some, e3, hx]
       rw [hw]
       cases b <;> cases wt <;> rfl
theorem zhs {f : Nat -> Option AV} {g : Nat -> Option Ob} {c : Nat -> Bool} {a : Act} {w : World} {o : Oper} {e : Ev} {i : Nat} {Q : Exit -> Act -> World -> Prop} {K : Act -> World -> Prop} (hT : zb3 P T)
   (hs : ze9 base M W nt f g c a w) (hops : ∀ o ∈ ops, ztv nt o) (ho : ops[i]? = some o) (he : zy1 P T ops f g c o e)
   (hK : ∀ a' w', ze9 base M W nt (zgq f o.dst e.v) (zaf g e.os) (zfj c e.ice) a' w' -> K a' w') : wpOp P ops.toArray Q i K a w := by
 have hw := zoa hs hops he.guard
 have hok := hops o (List.mem_of_getElem? ho)
 obtain ⟨D, μ, h⟩ := hs
 unfold wpOp
 rw [List.getElem?_toArray, ho]
 simp only
 rw [hw]
 cases e1 : e.want with
 | true =>
   rw [if_pos rfl]
   rcases he.yes e1 with h1 | ⟨h1, h2⟩
   · exact .inl (zxp h1 (says h hok.dst hT hok.pl (fun t b ht => by simp [za1] at ht)) K Q hK)
   · rw [h2] at hK
     exact .inl (zzj h hok.dst hok.pl h1 K Q hK)
 | false =>
   rw [if_neg (by simp)]
   obtain ⟨h1, h2, h3, _⟩ := he.no e1
   rw [h1, h2, h3] at hK
   exact hK _ _ ⟨D, μ, h.put hok.dst (.tup [] #[] rfl (fun i x v hx => by simp at hx))⟩
theorem zof (hT : zb3 P T) (hops : ∀ o ∈ ops, ztv nt o) {Q : Exit -> Act -> World -> Prop} {draw : Bool} : ∀ (r : List Oper) (i : Nat) (f : Nat -> Option AV) (g : Nat -> Option Ob) (c : Nat -> Bool) (acc : List (Nat × Ent)) (es : List Ev) (f' : Nat -> Option AV) (g' : Nat -> Option Ob) (c' : Nat -> Bool) (a : Act) (w : World),
   (∀ k, r[k]? = ops[i + k]?) -> zwd P T draw ops r i f g c acc es f' g' c' -> ze9 base M W nt f g c a w -> (∀ a' w', ze9 base M W nt f' g' c' a' w' -> Q .normal a' w') ->
   wpOps P ops.toArray Q (List.range' i r.length) a w
 | [], i, f, g, c, acc, es, f', g', c', a, w, hr, hW, hs, hQ => by
   cases es with
   | nil => obtain ⟨rfl, rfl, rfl⟩ := hW; exact hQ a w hs
   | cons _ _ => exact hW.elim
 | o :: r, i, f, g, c, acc, [], f', g', c', a, w, hr, hW, hs, hQ => hW.elim
 | o :: r, i, f, g, c, acc, e :: es, f', g', c', a, w, hr, hW, hs, hQ => by
   have ho : ops[i]? = some o := by have := hr 0; simpa using this.symm
   rw [List.length_cons, List.range'_succ, wpOps_cons]
   exact zhs hT hs hops ho hW.1 fun a' w' hs' => zof hT hops r (i + 1) _ _ _ _ es f' g' c' a' w' (fun k => by have := hr (k + 1); rw [List.getElem?_cons_succ] at this; rw [this]; congr 1; omega) hW.2.2 hs' hQ
def zo6 (ops : List Oper) (E : Nat -> Ev) (t : Nat) (j : Nat) : Option AV := match ops[j]? with
 | some o => if o.dst = some t then some (E j).v else none
 | none => none
theorem zm7 (f : Nat -> Option AV) (o : Oper) (v : AV) (t : Nat) : zgq f o.dst v t = match (if o.dst = some t then some v else none) with | some x => some x | none => f t := by
 unfold zgq
 cases e : o.dst with
 | none => simp
 | some d =>
   by_cases h : t = d
   · subst h; simp
   · simp [h]; rw [if_neg (fun h' => h h'.symm)]
section
variable (ops : List Oper) (E : Nat -> Ev) (f0 : Nat -> Option AV) (g0 : Nat -> Option Ob) (c0 : Nat -> Bool)
def fL (L : Nat -> Bool) (n : Nat) : Nat -> Option AV := fun t => zea L (zo6 ops E t) (f0 t) n
def gL (L : Nat -> Bool) (n : Nat) : Nat -> Option Ob := fun id => zea L (fun j => za1 (E j).os id) (g0 id) n
def cL (L : Nat -> Bool) (n : Nat) : Nat -> Bool := fun id => zgs L (fun j => zb2 (E j).ice id) (c0 id) n
end
abbrev zdf : Nat -> Bool := fun _ => true
variable {E : Nat -> Ev} {f0 : Nat -> Option AV} {g0 : Nat -> Option Ob} {c0 : Nat -> Bool}
theorem zvc {i : Nat} {o : Oper} (ho : ops[i]? = some o) : fL ops E f0 zdf (i + 1) = zgq (fL ops E f0 zdf i) o.dst (E i).v := by
 funext t
 rw [zm7]
 show zea zdf (zo6 ops E t) (f0 t) (i + 1) = _
 rw [zg2, if_pos rfl]
 have : zo6 ops E t i = if o.dst = some t then some (E i).v else none := by unfold zo6; rw [ho]
 rw [this]
 cases (if o.dst = some t then some (E i).v else none) <;> rfl
theorem zva {i : Nat} : gL E g0 zdf (i + 1) = zaf (gL E g0 zdf i) (E i).os := by
 funext id
 show zea zdf _ (g0 id) (i + 1) = _
 rw [zg2, if_pos rfl]
 unfold zaf
 cases za1 (E i).os id <;> rfl
theorem zvt {i : Nat} : cL E c0 zdf (i + 1) = zfj (cL E c0 zdf i) (E i).ice := by
 funext id
 show zgs zdf _ (c0 id) (i + 1) = _
 rw [zjo]
 rfl
def zsd (E : Nat -> Ev) (acc : List (Nat × Ent)) (i : Nat) : Prop := ∀ k, k < i -> (E k).ent = ⟨[], []⟩ \/ (k, (E k).ent) ∈ acc
theorem znf {acc : List (Nat × Ent)} {i : Nat} (h : zsd E acc i) (hno : (E i).want = false -> (E i).ent = ⟨[], []⟩) : zsd E (zng acc i (E i)) (i + 1) := by
 intro k hk
 unfold zng
 by_cases hi : k = i
 · subst hi
   cases hw : (E k).want with
   | false => exact .inl (hno hw)
   | true =>
     rw [if_pos rfl]
     unfold zlk
     generalize (E k).ent = x
     obtain ⟨a, b⟩ := x
     cases a with
     | nil => cases b with
       | nil => exact .inl rfl
       | cons _ _ => exact .inr (by simp)
     | cons _ _ => exact .inr (by simp)
 · rcases h k (by omega) with h | h
   · exact .inl h
   · refine .inr ?_
     split
     · unfold zlk
       split
       · split
         · exact h
         · exact List.mem_cons_of_mem _ h
       · exact List.mem_cons_of_mem _ h
     · exact h
structure At (P : Program) (T : TT) (ops : List Oper) (E : Nat -> Ev) (f0 : Nat -> Option AV) (g0 : Nat -> Option Ob) (c0 : Nat -> Bool) (j : Nat) (o : Oper) : Prop where
 ev : zy1 P T ops (fL ops E f0 zdf j) (gL E g0 zdf j) (cL E c0 zdf j) o (E j)
 ent : ztd (fL ops E f0 zdf j) o (E j)
 ord : ∃ acc, zsd E acc j /\ zta ops o (E j) acc
theorem zob : ∀ (r : List Oper) (i : Nat) (f : Nat -> Option AV) (g : Nat -> Option Ob) (c : Nat -> Bool) (acc : List (Nat × Ent)) (es : List Ev) (f' : Nat -> Option AV) (g' : Nat -> Option Ob) (c' : Nat -> Bool),
   (∀ k, r[k]? = ops[i + k]?) -> (∀ k e, es[k]? = some e -> E (i + k) = e) -> f = fL ops E f0 zdf i -> g = gL E g0 zdf i -> c = cL E c0 zdf i -> zsd E acc i -> zwd P T true ops r i f g c acc es f' g' c' ->
   (∀ j o, i <= j -> ops[j]? = some o -> At P T ops E f0 g0 c0 j o) /\ f' = fL ops E f0 zdf (i + r.length) /\ g' = gL E g0 zdf (i + r.length) /\ c' = cL E c0 zdf (i + r.length)
 | [], i, f, g, c, acc, es, f', g', c', hr, hE, ef, eg, ec, hn, hW => by
   cases es with
   | nil =>
     obtain ⟨rfl, rfl, rfl⟩ := hW
     refine ⟨fun j o hj ho => ?_, ef, eg, ec⟩
     have := hr (j - i)
     rw [show i + (j - i) = j by omega, ho] at this
     simp at this
   | cons _ _ => exact hW.elim
 | o :: r, i, f, g, c, acc, [], f', g', c', hr, hE, ef, eg, ec, hn, hW => hW.elim
 | o :: r, i, f, g, c, acc, e :: es, f', g', c', hr, hE, ef, eg, ec, hn, hW => by
   have ho : ops[i]? = some o := by have := hr 0; simpa using this.symm
   obtain ⟨h1, h2, h3⟩ := hW
   obtain ⟨h2, h2'⟩ := h2 rfl
   have hEi : E i = e := hE 0 e rfl
   rw [if_pos rfl] at h3
   have ih := zob r (i + 1) _ _ _ _ es f' g' c' (fun k => by have := hr (k + 1); rw [List.getElem?_cons_succ] at this; rw [this]; congr 1; omega) (fun k x hx => by rw [show i + 1 + k = i + (k + 1) by omega]; exact hE (k + 1) x (by simpa using hx))
     (by rw [zvc ho, hEi, ef]) (by rw [zva, hEi, eg]) (by rw [zvt, hEi, ec]) (by rw [<- hEi]; exact znf hn (by rw [hEi]; exact fun hw => (h1.no hw).2.2.2)) h3
   obtain ⟨i1, i2, i3, i4⟩ := ih
   rw [show i + 1 + r.length = i + (o :: r).length by simp; omega] at i2 i3 i4
   refine ⟨fun j o' hj ho' => ?_, i2, i3, i4⟩
   by_cases e1 : j = i
   · subst e1
     rw [ho] at ho'
     cases ho'
     subst hEi; subst ef; subst eg; subst ec
     exact ⟨h1, h2, acc, hn, h2'⟩
   · exact i1 j o' (by omega) ho'
theorem ziz {xs ys : List Nat} {id : Nat} (h1 : id ∈ xs) (h2 : id ∈ ys) : zpq xs ys = true := by
 induction xs with
 | nil => cases h1
 | cons x xs ih =>
   unfold zpq
   rcases List.mem_cons.1 h1 with rfl | h1
   · rw [zbb.2 h2]
   · split
     · rfl
     · exact ih h1
theorem zvj {a b : Ent} {id : Nat} (h1 : id ∈ a.wr) (h2 : id ∈ b.ids \/ id ∈ b.wr) : zkx a b = true := by
 unfold zkx
 rw [ziz h1 (by rw [za7, List.mem_append]; exact h2)]
theorem zvi {a b : Ent} {id : Nat} (h1 : id ∈ b.wr) (h2 : id ∈ a.ids) : zkx a b = true := by
 unfold zkx
 split
 · rfl
 · exact ziz h1 h2
theorem zk9 {es : List Edge} {x : Ent} {acc : List (Nat × Ent)} (h : zey ops es x acc = true) {k : Nat} {y : Ent} (hm : (k, y) ∈ acc) (hc : zkx x y = true) : ahead ops 4 es k = true := by
 induction acc with
 | nil => cases hm
 | cons z acc ih =>
   obtain ⟨j, z⟩ := z
   unfold zey at h
   rcases List.mem_cons.1 hm with e | hm
   · cases e
     rw [hc] at h
     simp only at h
     split at h
     · assumption
     · cases h
   · refine ih ?_ hm
     split at h
     · split at h
       · exact h
       · cases h
     · exact h
def zhg (ops : List Oper) (L : Nat -> Bool) : Prop := ∀ (k : Nat) (o : Oper) (e : Edge), ops[k]? = some o -> L k = true -> e ∈ o.after -> Region.binds .any e = true -> L e.on = true
theorem zdr {L : Nat -> Bool} {es : List Edge} {j : Nat} (h : ∀ e ∈ es, Region.binds .any e = true -> L e.on = true) (hd : zaa es j = true) : L j = true := by
 induction es with
 | nil => simp [zaa] at hd
 | cons e es ih =>
   have ih := ih fun x hx => h x (by simp [hx])
   unfold zaa at hd
   split at hd
   · rename_i hb
     split at hd
     · rename_i he
       rw [<- za2 he]; exact h e (by simp) hb
     · exact ih hd
   · exact ih hd
theorem zid {L : Nat -> Bool} (hc : zhg ops L) {j : Nat} : ∀ (n : Nat) (es : List Edge), (∀ e ∈ es, Region.binds .any e = true -> L e.on = true) -> ahead ops n es j = true -> L j = true
 | 0, es, h, hd => zdr h hd
 | n + 1, es, h, hd => by
   unfold ahead at hd
   split at hd
   · rename_i h'; exact zdr h h'
   · rw [List.any_eq_true] at hd
     obtain ⟨e, he, hd⟩ := hd
     split at hd
     · rename_i hb
       split at hd
       · cases hd
       · split at hd
         · rename_i o ho
           exact zid hc n o.after.toList (fun x hx hxb => hc e.on o x ho (h e he hb) (Array.mem_toList_iff.1 hx) hxb) hd
         · cases hd
     · cases hd
structure zrg (ops : List Oper) (L : Nat -> Bool) (i : Nat) (o : Oper) : Prop where
 at_ : ops[i]? = some o
 not : L i = false
 go : ∀ e ∈ o.after.toList, Region.binds .any e = true -> L e.on = true
variable {L : Nat -> Bool} {i : Nat} {o : Oper}
theorem zxf (h : At P T ops E f0 g0 c0 i o) {id : Nat} (hid : id ∈ (E i).ent.ids \/ id ∈ (E i).ent.wr) : (E i).want = true := by
 cases hw : (E i).want with
 | true => rfl
 | false =>
   have := (h.ev.no hw).2.2.2
   rw [this] at hid
   simp at hid
theorem zlg (hA : ∀ j o, ops[j]? = some o -> At P T ops E f0 g0 c0 j o) {j k : Nat} {o : Oper} (ho : ops[k]? = some o) (hjk : j < k) {id : Nat} (h : (id ∈ (E k).ent.wr /\ (id ∈ (E j).ent.ids \/ id ∈ (E j).ent.wr)) \/ (id ∈ (E j).ent.wr /\ id ∈ (E k).ent.ids)) : ahead ops 4 o.after.toList j = true := by
 have A := hA k o ho
 have hw : (E k).want = true := zxf A (id := id) (by rcases h with h | h; exact .inr h.1; exact .inl h.2)
 obtain ⟨acc, hn, ho'⟩ := A.ord
 have hor := ho' hw
 have hcl : zkx (E k).ent (E j).ent = true := by
   rcases h with h | h
   · exact zvj h.1 h.2
   · exact zvi h.1 h.2
 rcases hn j hjk with h0 | h0
 · rw [h0] at h; simp at h
 · exact zk9 hor h0 hcl
theorem zxv (hA : ∀ j o, ops[j]? = some o -> At P T ops E f0 g0 c0 j o) (hC : zhg ops L) (hR : zrg ops L i o) {j : Nat} (hj : j < ops.length) {id : Nat}
   (h : (id ∈ (E j).ent.wr /\ (id ∈ (E i).ent.ids \/ id ∈ (E i).ent.wr)) \/ (id ∈ (E i).ent.wr /\ id ∈ (E j).ent.ids)) : L j = decide (j < i) := by
 obtain ⟨oj, hoj⟩ : ∃ oj, ops[j]? = some oj := ⟨_, List.getElem?_eq_getElem hj⟩
 rcases Nat.lt_trichotomy j i with hlt | heq | hgt
 · have := zlg hA hR.at_ hlt (id := id) (by
     rcases h with ⟨h1, h2 | h2⟩ | ⟨h1, h2⟩
     · exact .inr ⟨h1, h2⟩
     · exact .inl ⟨h2, .inr h1⟩
     · exact .inl ⟨h1, .inl h2⟩)
   rw [zid hC 4 _ hR.go this]; simp [hlt]
 · subst heq
   rw [hR.not]; simp
 · have := zlg hA hoj hgt (id := id) (by
     rcases h with ⟨h1, h2 | h2⟩ | ⟨h1, h2⟩
     · exact .inl ⟨h1, .inl h2⟩
     · exact .inl ⟨h1, .inr h2⟩
     · exact .inr ⟨h1, h2⟩)
   have hn : L j = false := by
     cases hL : L j with
     | false => rfl
     | true =>
       have h2 := zid hC 4 _ (fun e he hb => hC j oj e hoj hL (Array.mem_toList_iff.1 he) hb) this
       rw [hR.not] at h2; cases h2
   rw [hn]; simp; omega
theorem ztq (hD : zgm ops) (hC : zhg ops L) (hR : zrg ops L i o) {t : Nat} (ht : Operand.tmp t ∈ zaz o.op \/ ∃ g b og, o.guard = some (g, b) /\ ops[g]? = some og /\ og.dst = some t) : fL ops E f0 L ops.length t = fL ops E f0 zdf i t := by
 have hi : i < ops.length := (List.getElem?_eq_some_iff.1 hR.at_).1
 show zea L (zo6 ops E t) (f0 t) ops.length = zea zdf (zo6 ops E t) (f0 t) i
 rw [<- zg3 i ops.length (by omega)]
 refine zbl _ fun j hj hh => ?_
 obtain ⟨oj, hoj⟩ : ∃ oj, ops[j]? = some oj := ⟨_, List.getElem?_eq_getElem hj⟩
 have hdj : oj.dst = some t := by
   unfold zo6 at hh
   rw [hoj] at hh
   simp only at hh
   split at hh
   · assumption
   · exact absurd rfl hh
 rcases ht with ht | ⟨g, b, og, h1, h2, h3⟩
 · rcases hD.reads i j o oj t hR.at_ hoj hdj ht with h | h
   · rw [zdr hR.go h.2]; simp [h.1]
   · have hn : L j = false := by
       cases hL : L j with
       | false => rfl
       | true =>
         have h2 := zdr (fun e he hb => hC j oj e hoj hL (Array.mem_toList_iff.1 he) hb) h.2
         rw [hR.not] at h2; cases h2
     rw [hn]; simp; omega
 · have := hD.once j g oj og t hoj h2 hdj h3
   subst this
   have hd := hD.guard i o j b hR.at_ h1
   rw [zdr hR.go hd]
   have : j < i := by
     have key : ∀ es : List Edge, (∀ e ∈ es, Region.binds .any e = true -> e.on < i) -> zaa es j = true -> j < i := by
       intro es
       induction es with
       | nil => intro _ h; simp [zaa] at h
       | cons e es ih =>
         intro h hd
         have ih := ih fun x hx => h x (by simp [hx])
         unfold zaa at hd
         split at hd
         · rename_i hb
           split at hd
           · rename_i he; rw [<- za2 he]; exact h e (by simp) hb
           · exact ih hd
         · exact ih hd
     exact key _ (fun e he hb => hD.back i o e hR.at_ (Array.mem_toList_iff.1 he) hb) hd
   simp [this]
theorem zsw {α : Type} {l : List (Nat × α)} {id : Nat} (h : za1 l id ≠ none) : id ∈ zm1 l := by
 induction l with
 | nil => simp [za1] at h
 | cons x l ih =>
   obtain ⟨k, v⟩ := x
   unfold za1 at h
   unfold zm1
   cases e : za9 k id with
   | true => simp [za2 e]
   | false => rw [e] at h; simp [ih h]
theorem zsc (h : At P T ops E f0 g0 c0 i o) {id : Nat} (hh : za1 (E i).os id ≠ none) : id ∈ (E i).ent.wr := by
 cases hw : (E i).want with
 | true => exact (h.ent hw).2.2.2.1 id (zsw hh)
 | false => rw [(h.ev.no hw).2.1] at hh; simp [za1] at hh
theorem zv7 (h : At P T ops E f0 g0 c0 i o) {id : Nat} (hh : zb2 (E i).ice id = true) : id ∈ (E i).ent.ids := by
 cases hw : (E i).want with
 | true => exact (h.ent hw).2.2.1 id (zbb.1 hh)
 | false => rw [(h.ev.no hw).2.2.1] at hh; simp [zb2] at hh
theorem zxb (hD : zgm ops) (hA : ∀ j o, ops[j]? = some o -> At P T ops E f0 g0 c0 j o) (hC : zhg ops L) (hR : zrg ops L i o) :
   zy1 P T ops (fL ops E f0 L ops.length) (gL E g0 L ops.length) (cL E c0 L ops.length) o (E i) := by
 have A := hA i o hR.at_
 have hi : i < ops.length := (List.getElem?_eq_some_iff.1 hR.at_).1
 refine ⟨?_, A.ev.no, fun hw => ?_⟩
 · have hg := A.ev.guard
   unfold ze8 at hg |-
   cases e1 : o.guard with
   | none => rw [e1] at hg; exact hg
   | some x =>
     obtain ⟨j, b⟩ := x
     rw [e1] at hg
     simp only at hg |-
     cases e2 : ops[j]? with
     | none => rw [e2] at hg; exact hg
     | some o' =>
       rw [e2] at hg
       simp only at hg |-
       cases e3 : o'.dst with
       | none => rw [e3] at hg; exact hg
       | some t =>
         rw [e3] at hg
         simp only at hg |-
         rw [ztq hD hC hR (.inr ⟨j, b, o', e1, e2, e3⟩)]
         exact hg
 · have h1 := A.ev.yes hw
   obtain ⟨n1, n2, n3, n4, n5⟩ := A.ent hw
   have hv : zbf (evf (fL ops E f0 L ops.length) []) (zaz o.op) = zbf (evf (fL ops E f0 zdf i) []) (zaz o.op) := by
     refine zdx fun x hx => ?_
     cases x with
     | tmp t => simp only [evf, za1]; rw [ztq hD hC hR (.inl hx)]
     | _ => rfl
   have hg : ∀ id, id ∈ (E i).ent.ids -> gL E g0 L ops.length id = gL E g0 zdf i id := by
     intro id hid
     show zea L _ (g0 id) ops.length = zea zdf _ (g0 id) i
     rw [<- zg3 i ops.length (by omega)]
     refine zbl _ fun j hj hh => ?_
     obtain ⟨oj, hoj⟩ : ∃ oj, ops[j]? = some oj := ⟨_, List.getElem?_eq_getElem hj⟩
     exact zxv hA hC hR hj (id := id) (.inl ⟨zsc (hA j oj hoj) hh, .inl hid⟩)
   have hgw : ∀ id, id ∈ (E i).ent.wr -> gL E g0 L ops.length id = gL E g0 zdf i id := by
     intro id hid
     show zea L _ (g0 id) ops.length = zea zdf _ (g0 id) i
     rw [<- zg3 i ops.length (by omega)]
     refine zbl _ fun j hj hh => ?_
     obtain ⟨oj, hoj⟩ : ∃ oj, ops[j]? = some oj := ⟨_, List.getElem?_eq_getElem hj⟩
     exact zxv hA hC hR hj (id := id) (.inl ⟨zsc (hA j oj hoj) hh, .inr hid⟩)
   have hc : ∀ id, id ∈ (E i).ent.wr -> cL E c0 L ops.length id = cL E c0 zdf i id := by
     intro id hid
     show zgs L _ (c0 id) ops.length = zgs zdf _ (c0 id) i
     rw [<- zrb i ops.length (by omega)]
     refine zd1 _ fun j hj hh => ?_
     obtain ⟨oj, hoj⟩ : ∃ oj, ops[j]? = some oj := ⟨_, List.getElem?_eq_getElem hj⟩
     exact zxv hA hC hR hj (id := id) (.inr ⟨hid, zv7 (hA j oj hoj) hh⟩)
   rcases h1 with h1 | ⟨h1, h2⟩
   · left
     rw [zfn (f' := fL ops E f0 zdf i) (g' := gL E g0 zdf i) (c' := cL E c0 zdf i) (kn' := []) hv (fun id hid => hg id (n1 id hid)) (fun hcr d hd => hg d (n2 hcr d hd)) (fun hwr id hid => hc id (n5 hwr id hid))]
     exact h1
   · right
     refine ⟨?_, h2⟩
     obtain ⟨fo, xs, ts, k, first, caps, zs, F, fr, T', e, hvals, hM, hm, q1, q2⟩ := h1
     refine ⟨fo, xs, ts, k, first, caps, zs, F, fr, T', e, by rw [hv]; exact hvals, hM, hm.congr (fun id hid => hgw id (n4 id (by rw [q2]; exact hid))) (fun id hid => hc id (n4 id (by rw [q2]; exact hid))), q1, q2⟩
theorem zvy (hD : zgm ops) (hA : ∀ j o, ops[j]? = some o -> At P T ops E f0 g0 c0 j o) (hC : zhg ops L) (hR : zrg ops L i o) {L' : Nat -> Bool} (h1 : L' i = true) (hne : ∀ j, j ≠ i -> L' j = L j) :
   zgq (fL ops E f0 L ops.length) o.dst (E i).v = fL ops E f0 L' ops.length /\ zaf (gL E g0 L ops.length) (E i).os = gL E g0 L' ops.length /\ zfj (cL E c0 L ops.length) (E i).ice = cL E c0 L' ops.length := by
 have A := hA i o hR.at_
 have hi : i < ops.length := (List.getElem?_eq_some_iff.1 hR.at_).1
 refine ⟨?_, ?_, ?_⟩
 · funext t
   rw [zm7]
   have hf : zo6 ops E t i = if o.dst = some t then some (E i).v else none := by unfold zo6; rw [hR.at_]
   have := zi0 (hit := zo6 ops E t) (s := f0 t) h1 hR.not hne ops.length hi (fun hh j hij hj hLj => by
     rw [hf] at hh
     have hd : o.dst = some t := by
       split at hh
       · assumption
       · exact absurd rfl hh
     obtain ⟨oj, hoj⟩ : ∃ oj, ops[j]? = some oj := ⟨_, List.getElem?_eq_getElem hj⟩
     unfold zo6
     rw [hoj]
     simp only
     rw [if_neg]
     intro hdj
     have := hD.once i j o oj t hR.at_ hoj hd hdj
     omega)
   rw [hf] at this
   show _ = zea L' (zo6 ops E t) (f0 t) ops.length
   rw [this]
   cases (if o.dst = some t then some (E i).v else none) <;> rfl
 · funext id
   have := zi0 (hit := fun j => za1 (E j).os id) (s := g0 id) h1 hR.not hne ops.length hi (fun hh j hij hj hLj => by
     refine Decidable.byContradiction fun hjn => ?_
     obtain ⟨oj, hoj⟩ : ∃ oj, ops[j]? = some oj := ⟨_, List.getElem?_eq_getElem hj⟩
     have := zxv hA hC hR hj (id := id) (.inl ⟨zsc (hA j oj hoj) (by intro e; rw [e] at hjn; exact hjn rfl), .inr (zsc A hh)⟩)
     rw [hLj] at this
     simp at this
     omega)
   show _ = zea L' (fun j => za1 (E j).os id) (g0 id) ops.length
   rw [this]
   unfold zaf
   cases za1 (E i).os id <;> rfl
 · funext id
   have := zmd (p := fun j => zb2 (E j).ice id) (s := c0 id) h1 hR.not hne ops.length hi
   show _ = zgs L' _ (c0 id) ops.length
   rw [this]
   rfl
def left (L : Array Bool) : Nat := L.toList.count false
theorem zsr {L : Array Bool} {i : Nat} (h : L.getD i true = false) (hi : i < L.size) : left (L.setIfInBounds i true) + 1 = left L := by
 have hget : L[i] = false := by simpa [hi] using h
 unfold left
 have hc : 0 < List.count false L.toList := List.count_pos_iff.2 (by rw [<- hget]; simp)
 have h2 := List.count_set (a := true) (b := false) (l := L.toList) (i := i) (by simpa using hi)
 rw [Array.toList_setIfInBounds, h2]
 have e1 : (L.toList[i]'(by simpa using hi)) = false := by simpa using hget
 rw [e1]
 have e2 : ((false == false) = true) := rfl
 have e3 : ¬ ((true == false) = true) := by decide
 rw [if_pos e2, if_neg e3]
 omega
theorem zkn {L : Array Bool} {i : Nat} (h : i < L.size) (d d' : Bool) : L.getD i d = L.getD i d' := by simp [h]
theorem zjp (hD : zgm ops) {L : Array Bool} (hs : L.size = ops.length) (hn : Region.ready .any ops.toArray L = []) : ∀ j, j < ops.length -> L.getD j true = true := by
 intro j
 induction j using Nat.strongRecOn with
 | _ j ih =>
   intro hj
   refine Decidable.byContradiction fun h => ?_
   have hm : j ∈ Region.ready .any ops.toArray L := by
     rw [mem_ready]
     refine ⟨by simpa using h, ops[j], by simp [hj], fun e he hb => ?_⟩
     have hlt := hD.back j ops[j] e (List.getElem?_eq_getElem hj) he hb
     rw [zkn (by omega) false true]
     exact ih e.on hlt (by omega)
   rw [hn] at hm; cases hm
structure InvA (base : Nat) (M : Two) (W : World) (nt : Nat) (ops : List Oper) (E : Nat -> Ev) (f0 : Nat -> Option AV) (g0 : Nat -> Option Ob) (c0 : Nat -> Bool) (L : Array Bool) (a : Act) (w : World) : Prop where
 size : L.size = ops.length
 closed : zhg ops (fun i => L.getD i false)
 sim : ze9 base M W nt (fL ops E f0 (fun i => L.getD i false) ops.length) (gL E g0 (fun i => L.getD i false) ops.length) (cL E c0 (fun i => L.getD i false) ops.length) a w
theorem zj9 {L : Array Bool} (hs : L.size = ops.length) (h : ∀ j, j < ops.length -> L.getD j true = true) :
   fL ops E f0 (fun i => L.getD i false) ops.length = fL ops E f0 zdf ops.length /\ gL E g0 (fun i => L.getD i false) ops.length = gL E g0 zdf ops.length /\ cL E c0 (fun i => L.getD i false) ops.length = cL E c0 zdf ops.length := by
 have hj : ∀ j, j < ops.length -> L.getD j false = zdf j := fun j hj => by rw [zkn (by omega) false true]; exact h j hj
 exact ⟨funext fun t => zbl _ fun j h _ => hj j h, funext fun t => zbl _ fun j h _ => hj j h, funext fun t => zd1 _ fun j h _ => hj j h⟩
theorem ztt (hT : zb3 P T) (hops : ∀ o ∈ ops, ztv nt o) (hD : zgm ops) (hA : ∀ j o, ops[j]? = some o -> At P T ops E f0 g0 c0 j o) {Q : Exit -> Act -> World -> Prop}
   (hQ : ∀ a w, ze9 base M W nt (fL ops E f0 zdf ops.length) (gL E g0 zdf ops.length) (cL E c0 zdf ops.length) a w -> Q .normal a w) :
   ∀ (fuel : Nat) (L : Array Bool) (a : Act) (w : World), left L <= fuel -> InvA base M W nt ops E f0 g0 c0 L a w -> wpAny P .any ops.toArray Q fuel L a w
 | 0, L, a, w, hf, I => by
   have hall : ∀ j, j < ops.length -> L.getD j true = true := fun j hj => by
     refine Decidable.byContradiction fun h => ?_
     have hm : false ∈ L.toList := by
       have hjL : j < L.size := by rw [I.size]; exact hj
       have : L[j] = false := by simpa [hjL] using h
       rw [<- this]; simp
     have := List.count_pos_iff.2 hm
     unfold left at hf; omega
   obtain ⟨e1, e2, e3⟩ := zj9 (E := E) (f0 := f0) (g0 := g0) (c0 := c0) I.size hall
   refine ⟨?_, hQ a w (by have := I.sim; rwa [e1, e2, e3] at this)⟩
   refine List.eq_nil_iff_forall_not_mem.2 fun j hj => ?_
   rw [mem_ready] at hj
   obtain ⟨h1, o, ho, _⟩ := hj
   have hj : j < ops.length := by
     rw [List.getElem?_toArray] at ho
     exact (List.getElem?_eq_some_iff.1 ho).1
   rw [hall j hj] at h1; cases h1
 | fuel + 1, L, a, w, hf, I => by
   refine ⟨fun hn => ?_, fun i hi => ?_⟩
   · obtain ⟨e1, e2, e3⟩ := zj9 (E := E) (f0 := f0) (g0 := g0) (c0 := c0) I.size (zjp hD I.size hn)
     exact hQ a w (by have := I.sim; rwa [e1, e2, e3] at this)
   · rw [mem_ready] at hi
     obtain ⟨hun, o, ho, hed⟩ := hi
     rw [List.getElem?_toArray] at ho
     have hil : i < ops.length := (List.getElem?_eq_some_iff.1 ho).1
     have hiL : i < L.size := by rw [I.size]; exact hil
     have hR : zrg ops (fun i => L.getD i false) i o := ⟨ho, by rw [zkn hiL false true]; exact hun, fun e he hb => hed e (Array.mem_toList_iff.1 he) hb⟩
     have hleft := zsr hun hiL
     have h1 : (fun j => (L.setIfInBounds i true).getD j false) i = true := by simp [hiL]
     have hne : ∀ j, j ≠ i -> (fun j => (L.setIfInBounds i true).getD j false) j = (fun j => L.getD j false) j := fun j hj => by
       simp only [Array.getD_eq_getD_getElem?, Array.getElem?_setIfInBounds_ne (fun e => hj e.symm)]
     obtain ⟨q1, q2, q3⟩ := zvy hD hA I.closed hR h1 hne
     refine zhs hT I.sim hops ho (zxb hD hA I.closed hR) fun a' w' hs => ztt hT hops hD hA hQ fuel _ a' w' (by omega) ⟨by simpa using I.size, ?_, ?_⟩
     · intro k ok e hk hL he hb
       by_cases hki : k = i
       · subst hki
         rw [ho] at hk; cases hk
         have := hR.go e (Array.mem_toList_iff.2 he) hb
         by_cases hei : e.on = k
         · rw [hei]; exact h1
         · have := hne e.on hei; simp only at this |-; rw [this]; exact hR.go e (Array.mem_toList_iff.2 he) hb
       · have h2 := hne k hki
         simp only at h2 hL
         rw [h2] at hL
         have := I.closed k ok e hk hL he hb
         by_cases hei : e.on = i
         · rw [hei]; exact h1
         · have h3 := hne e.on hei; simp only at h3 |-; rw [h3]; exact this
     · rw [q1, q2, q3] at hs
       exact hs
theorem zcn {L : Array Bool} {i : Nat} (h : i ∈ Region.ready .any ops.toArray L) : ∃ o, ops[i]? = some o /\ L.getD i true = false /\ ∀ j, zaa o.after.toList j = true -> L.getD j false = true := by
 rw [mem_ready] at h
 obtain ⟨h1, o, ho, h2⟩ := h
 rw [List.getElem?_toArray] at ho
 refine ⟨o, ho, h1, fun j hj => ?_⟩
 have : ∀ es : List Edge, zaa es j = true -> ∃ e, e ∈ es /\ Region.binds .any e = true /\ e.on = j := by
   intro es
   induction es with
   | nil => intro h; cases h
   | cons x es ih =>
     intro h
     unfold zaa at h
     split at h
     · rename_i hb
       split at h
       · rename_i he; exact ⟨x, by simp, hb, za2 he⟩
       · obtain ⟨e, e1, e2, e3⟩ := ih h; exact ⟨e, by simp [e1], e2, e3⟩
     · obtain ⟨e, e1, e2, e3⟩ := ih h; exact ⟨e, by simp [e1], e2, e3⟩
 obtain ⟨e, e1, e2, e3⟩ := this _ hj
 rw [<- e3]
 exact h2 e (Array.mem_toList_iff.1 e1) e2
theorem zqq {o0 o1 o2 o3 : Oper} (hT : zb3 P T) (hops : ∀ o ∈ [o0, o1, o2, o3], ztv nt o) (hD : zgm [o0, o1, o2, o3])
   (d1 : zaa o1.after.toList 0 = true) (d2 : zaa o2.after.toList 0 = true) (d3 : zaa o3.after.toList 1 = true) (d4 : zaa o3.after.toList 2 = true) {Q : Exit -> Act -> World -> Prop}
   {f f1 f2 f3 f4 f2' f3' f4' : Nat -> Option AV} {g g1 g2 g3 g4 g2' g3' g4' : Nat -> Option Ob} {c c1 c2 c3 c4 c2' c3' c4' : Nat -> Bool}
   (h0 : ∀ a w K, ze9 base M W nt f g c a w -> (∀ a w, ze9 base M W nt f1 g1 c1 a w -> K a w) -> wpOp P [o0, o1, o2, o3].toArray Q 0 K a w)
   (h1 : ∀ a w K, ze9 base M W nt f1 g1 c1 a w -> (∀ a w, ze9 base M W nt f2 g2 c2 a w -> K a w) -> wpOp P [o0, o1, o2, o3].toArray Q 1 K a w)
   (h2 : ∀ a w K, ze9 base M W nt f2 g2 c2 a w -> (∀ a w, ze9 base M W nt f3 g3 c3 a w -> K a w) -> wpOp P [o0, o1, o2, o3].toArray Q 2 K a w)
   (h3 : ∀ a w K, ze9 base M W nt f3 g3 c3 a w -> (∀ a w, ze9 base M W nt f4 g4 c4 a w -> K a w) -> wpOp P [o0, o1, o2, o3].toArray Q 3 K a w)
   (h1' : ∀ a w K, ze9 base M W nt f1 g1 c1 a w -> (∀ a w, ze9 base M W nt f2' g2' c2' a w -> K a w) -> wpOp P [o0, o1, o2, o3].toArray Q 2 K a w)
   (h2' : ∀ a w K, ze9 base M W nt f2' g2' c2' a w -> (∀ a w, ze9 base M W nt f3' g3' c3' a w -> K a w) -> wpOp P [o0, o1, o2, o3].toArray Q 1 K a w)
   (h3' : ∀ a w K, ze9 base M W nt f3' g3' c3' a w -> (∀ a w, ze9 base M W nt f4' g4' c4' a w -> K a w) -> wpOp P [o0, o1, o2, o3].toArray Q 3 K a w)
   (hQ : ∀ a w, ze9 base M W nt f4 g4 c4 a w -> Q .normal a w) (hQ' : ∀ a w, ze9 base M W nt f4' g4' c4' a w -> Q .normal a w)
   {a : Act} {w : World} (hs : ze9 base M W nt f g c a w) : wpAny P .any [o0, o1, o2, o3].toArray Q 4 #[false, false, false, false] a w := by
 have nd : ∀ (L : Array Bool), L.size = 4 -> (∃ j, j < 4 /\ L.getD j true = false) -> Region.ready .any [o0, o1, o2, o3].toArray L = [] -> False := by
   intro L hL hj hn
   obtain ⟨j, hj1, hj2⟩ := hj
   have := zjp hD (L := L) hL hn j hj1
   rw [this] at hj2; cases hj2
 have four : ∀ {i : Nat} {o : Oper}, [o0, o1, o2, o3][i]? = some o -> (i = 0 /\ o = o0) \/ (i = 1 /\ o = o1) \/ (i = 2 /\ o = o2) \/ (i = 3 /\ o = o3) := by
   intro i o h
   match i, h with
   | 0, h => cases h; simp
   | 1, h => cases h; simp
   | 2, h => cases h; simp
   | 3, h => cases h; simp
   | i + 4, h => simp at h
 refine ⟨fun hn => (nd _ rfl ⟨0, by omega, rfl⟩ hn).elim, fun i hi => ?_⟩
 obtain ⟨o, ho, hL, hd⟩ := zcn hi
 rcases four ho with ⟨rfl, rfl⟩ | ⟨rfl, rfl⟩ | ⟨rfl, rfl⟩ | ⟨rfl, rfl⟩
 rotate_left
 · cases hd 0 d1
 · cases hd 0 d2
 · cases hd 1 d3
 refine h0 a w _ hs fun a w hs => ?_
 refine ⟨fun hn => (nd _ rfl ⟨1, by omega, rfl⟩ hn).elim, fun i hi => ?_⟩
 obtain ⟨o, ho, hL, hd⟩ := zcn hi
 rcases four ho with ⟨rfl, rfl⟩ | ⟨rfl, rfl⟩ | ⟨rfl, rfl⟩ | ⟨rfl, rfl⟩
 · cases hL
 · refine h1 a w _ hs fun a w hs => ?_
   refine ⟨fun hn => (nd _ rfl ⟨2, by omega, rfl⟩ hn).elim, fun i hi => ?_⟩
   obtain ⟨o, ho, hL, hd⟩ := zcn hi
   rcases four ho with ⟨rfl, rfl⟩ | ⟨rfl, rfl⟩ | ⟨rfl, rfl⟩ | ⟨rfl, rfl⟩
   · cases hL
   · cases hL
   · refine h2 a w _ hs fun a w hs => ?_
     refine ⟨fun hn => (nd _ rfl ⟨3, by omega, rfl⟩ hn).elim, fun i hi => ?_⟩
     obtain ⟨o, ho, hL, hd⟩ := zcn hi
     rcases four ho with ⟨rfl, rfl⟩ | ⟨rfl, rfl⟩ | ⟨rfl, rfl⟩ | ⟨rfl, rfl⟩
     · cases hL
     · cases hL
     · cases hL
     · refine h3 a w _ hs fun a w hs => ?_
       refine ⟨?_, hQ a w hs⟩
       refine List.eq_nil_iff_forall_not_mem.2 fun i hi => ?_
       obtain ⟨o, ho, hL, hd⟩ := zcn hi
       rcases four ho with ⟨rfl, rfl⟩ | ⟨rfl, rfl⟩ | ⟨rfl, rfl⟩ | ⟨rfl, rfl⟩ <;> cases hL
   · cases hd 2 d4
 · refine h1' a w _ hs fun a w hs => ?_
   refine ⟨fun hn => (nd _ rfl ⟨1, by omega, rfl⟩ hn).elim, fun i hi => ?_⟩
   obtain ⟨o, ho, hL, hd⟩ := zcn hi
   rcases four ho with ⟨rfl, rfl⟩ | ⟨rfl, rfl⟩ | ⟨rfl, rfl⟩ | ⟨rfl, rfl⟩
   · cases hL
   · refine h2' a w _ hs fun a w hs => ?_
     refine ⟨fun hn => (nd _ rfl ⟨3, by omega, rfl⟩ hn).elim, fun i hi => ?_⟩
     obtain ⟨o, ho, hL, hd⟩ := zcn hi
     rcases four ho with ⟨rfl, rfl⟩ | ⟨rfl, rfl⟩ | ⟨rfl, rfl⟩ | ⟨rfl, rfl⟩
     · cases hL
     · cases hL
     · cases hL
     · refine h3' a w _ hs fun a w hs => ?_
       refine ⟨?_, hQ' a w hs⟩
       refine List.eq_nil_iff_forall_not_mem.2 fun i hi => ?_
       obtain ⟨o, ho, hL, hd⟩ := zcn hi
       rcases four ho with ⟨rfl, rfl⟩ | ⟨rfl, rfl⟩ | ⟨rfl, rfl⟩ | ⟨rfl, rfl⟩ <;> cases hL
   · cases hL
   · cases hd 1 d3
 · cases hd 1 d3
def zpc (nt : Nat) (draw : Bool) (ops : List Oper) : Bool := ops.all (zyo nt) && (!draw || zge ops 0 ops)
theorem zh2 {Q1 : AV -> Prop} {v : Nat} {k : St -> zb9} {s : St} (hk : zgt (za1 s.slots) s.kn) (h : Sat P Q1 (zsu v k s)) : ∃ s' : St, s'.slots = s.slots /\ s'.objs = s.objs /\ s'.ice = s.ice /\ zgt (za1 s'.slots) s'.kn /\ Sat P Q1 (k s') := by
 unfold zsu at h
 split at h
 · rename_i b hb
   exact ⟨s.know v b, rfl, rfl, rfl, zch hk hb, h⟩
 · cases h
theorem znc {S : zif} {Q1 : AV -> Prop} (hT : zb3 P T) (hS : zcj P S) (hm : P.follows .mixedOrders = true) {draw : Bool} (hB : zpc nt draw ops = true) {id : Nat} {s : St} {a : Act} {w : World} (hs : zgk base M W nt s a w)
   {k : St -> zb9} (h : Sat P Q1 (zbw T std S draw ops ops 0 s [] k)) {Q : Exit -> Act -> World -> Prop} (hQ : ∀ s' a' w', zgk base M W nt s' a' w' -> Sat P Q1 (k s') -> Q .normal a' w') :
   (Code.region id ops.toArray draw).wp P Q a w := by
 unfold zpc at hB
 rw [Bool.and_eq_true, List.all_eq_true] at hB
 have hops : ∀ o ∈ ops, ztv nt o := fun o ho => zpg (hB.1 o ho)
 obtain ⟨es, s', hW, hk', h'⟩ := zcu hS ops 0 s [] hs.2 h
 cases draw with
 | false =>
   refine wp_region ?_
   have := zof (base := base) (M := M) (W := W) hT hops (Q := Q) ops 0 _ _ _ _ es _ _ _ a w (fun k => by simp) hW hs.1 fun a' w' hs' => hQ s' a' w' ⟨hs', hk'⟩ h'
   rw [List.range_eq_range']
   simpa using this
 | true =>
   refine wp_region_any hm ?_
   have hD := zji (by simpa using hB.2 : zge ops 0 ops = true)
   obtain ⟨hA, e1, e2, e3⟩ := zob (ops := ops) (E := fun j => es.getD j nothing) (f0 := za1 s.slots) (g0 := za1 s.objs) (c0 := zb2 s.ice) ops 0 _ _ _ _ es _ _ _ (fun k => by simp) (fun k e he => by simp [he]) rfl rfl rfl (fun k hk => by omega) hW
   rw [Nat.zero_add] at e1 e2 e3
   have hl : left (Array.replicate ops.length false) <= ops.toArray.size := by
     unfold left; simp
   have hsz : ops.toArray.size = ops.length := by simp
   rw [hsz] at hl |-
   refine ztt (E := fun j => es.getD j nothing) hT hops hD (fun j o ho => hA j o (by omega) ho) (fun a' w' hs' => hQ s' a' w' ⟨by rw [e1, e2, e3]; exact hs', hk'⟩ h') ops.length _ a _ hl ⟨by simp, ?_, ?_⟩
   · intro k o e hk hL _ _
     have hk : k < ops.length := (List.getElem?_eq_some_iff.1 hk).1
     simp [hk] at hL
   · have z : ∀ j, j < ops.length -> (fun i => (Array.replicate ops.length false).getD i false) j = false := fun j hj => by simp [hj]
     have h1 : fL ops (fun j => es.getD j nothing) (za1 s.slots) (fun i => (Array.replicate ops.length false).getD i false) ops.length = za1 s.slots := by
       funext t
       exact zek 0 ops.length (fun j _ hj hL => by have := z j hj; simp only at this; rw [this] at hL; cases hL) (by omega)
     have h2 : gL (fun j => es.getD j nothing) (za1 s.objs) (fun i => (Array.replicate ops.length false).getD i false) ops.length = za1 s.objs := by
       funext t
       exact zek 0 ops.length (fun j _ hj hL => by have := z j hj; simp only at this; rw [this] at hL; cases hL) (by omega)
     have h3 : cL (fun j => es.getD j nothing) (zb2 s.ice) (fun i => (Array.replicate ops.length false).getD i false) ops.length = zb2 s.ice := by
       funext t
       exact zgi 0 ops.length (fun j _ hj => z j hj) (by omega)
     rw [h1, h2, h3]
     obtain ⟨D, μ, hs⟩ := hs.1
     exact ⟨D, μ, hs.drew⟩
theorem zpb {S : zif} {Q1 : AV -> Prop} (hT : zb3 P T) (hS : zcj P S) (hm : P.follows .mixedOrders = true) {draw : Bool} (hB : zpc nt draw ops = true) {id : Nat} {s : St} {a : Act} {w : World} (hs : zgk base M W nt s a w)
   {k : St -> zb9} (h : Sat P Q1 (zk7 T std S draw ops s k)) {Q : Exit -> Act -> World -> Prop} (hQ : ∀ s' a' w', zgk base M W nt s' a' w' -> Sat P Q1 (k s') -> Q .normal a' w') :
   (Code.region id ops.toArray draw).wp P Q a w := by
 unfold zk7 at h
 split at h
 rotate_left
 · exact znc hT hS hm hB hs h hQ
 rename_i v hch
 cases draw with
 | false => cases hch
 | true =>
   simp only [cond_true] at hch
   unfold zqr at hch
   split at hch
   rotate_left
   · cases hch
   rename_i o0 o1 o2 o3
   split at hch
   rotate_left
   · cases hch
   split at hch
   rotate_left
   · cases hch
   rename_i d1 d2 d3 d4 hng
   unfold zpc at hB
   rw [Bool.and_eq_true, List.all_eq_true] at hB
   have hops : ∀ o ∈ [o0, o1, o2, o3], ztv nt o := fun o ho => zpg (hB.1 o ho)
   have hD := zji (by simpa using hB.2 : zge [o0, o1, o2, o3] 0 [o0, o1, o2, o3] = true)
   obtain ⟨n0, n1, n2, n3⟩ : o0.guard = none /\ o1.guard = none /\ o2.guard = none /\ o3.guard = none := by
     simp only [zkc] at hng
     cases e0 : o0.guard <;> cases e1 : o1.guard <;> cases e2 : o2.guard <;> cases e3 : o3.guard <;> simp_all
   obtain ⟨es, s1, hW, hk1, h⟩ := zcu hS [o0] 0 s [] hs.2 h
   cases h with
   | and hA hB2 =>
     obtain ⟨esA, sA, hWA, hkA, hA⟩ := zcu hS [o1, o2, o3] 1 s1 [] hk1 hA
     obtain ⟨esB, sB, hWB, hkB, hB2⟩ := zcu hS [o2, o1, o3] 1 s1 [] hk1 hB2
     obtain ⟨sA', q1, q2, q3, hkA', hA⟩ := zh2 hkA hA
     obtain ⟨sB', p1, p2, p3, hkB', hB2⟩ := zh2 hkB hB2
     match es, hW with
     | [e0], ⟨x0, _, w0, w0', w0''⟩ =>
       match esA, hWA with
       | [a1, a2, a3], ⟨xa1, _, xa2, _, xa3, _, wa, wa', wa''⟩ =>
         match esB, hWB with
         | [b1, b2, b3], ⟨xb1, _, xb2, _, xb3, _, wb, wb', wb''⟩ =>
           refine wp_region_any hm ?_
           obtain ⟨D, μ, hs0⟩ := hs.1
           rw [w0, w0', w0''] at xa1 xa2 xa3 xb1 xb2 xb3
           rw [w0] at wa wb
           rw [w0'] at wa' wb'
           rw [w0''] at wa'' wb''
           refine zqq hT hops hD d1 d2 d3 d4
             (h0 := fun a w K hs hK => zhs hT hs hops rfl x0 hK)
             (h1 := fun a w K hs hK => zhs hT hs hops rfl xa1 hK)
             (h2 := fun a w K hs hK => zhs hT hs hops rfl xa2 hK)
             (h3 := fun a w K hs hK => zhs hT hs hops rfl xa3 hK)
             (h1' := fun a w K hs hK => zhs hT hs hops rfl xb1 hK)
             (h2' := fun a w K hs hK => zhs hT hs hops rfl xb2 hK)
             (h3' := fun a w K hs hK => zhs hT hs hops rfl xb3 hK)
             (hQ := fun a w hs => hQ sA' a w ⟨?_, hkA'⟩ hA) (hQ' := fun a w hs => hQ sB' a w ⟨?_, hkB'⟩ hB2) ⟨D, μ, hs0.drew⟩
           · rw [q1, q2, q3, wa, wa', wa'']; exact hs
           · rw [p1, p2, p3, wb, wb', wb'']; exact hs
end
end Sy
end Go.Proofs.Ytlphgephdhadhaa
namespace Go.Proofs.Ytlphgephdhadhaa
namespace Sy
open Go Go.RowKit
set_option linter.unusedSimpArgs false
set_option linter.unusedVariables false
set_option linter.unusedSectionVars false
section
variable {P : Program} {Q : AV -> Prop} {base : Nat} {M : Two} {W : World} {nt : Nat} {s tm : St} {a : Act} {w : World} {hold : List Nat} {next : zb9}
def frz (ice : List Nat) (objs : List (Nat × Ob)) (F : List (Nat × Option Nat)) : List Nat := match objs with
 | [] => []
 | (t, _) :: r => match za1 F t with
   | some (some id) => if zb2 ice t = true then id :: frz ice r F else frz ice r F
   | _ => frz ice r F
theorem zg9 {ice : List Nat} {F : List (Nat × Option Nat)} : ∀ {objs : List (Nat × Ob)} {id : Nat}, id ∈ frz ice objs F -> ∃ t, za1 F t = some (some id) /\ zb2 ice t = true /\ za1 objs t ≠ none
 | [], id, h => by cases h
 | (t, o) :: r, id, h => by
   unfold frz at h
   have up : ∀ {t'}, za1 r t' ≠ none -> za1 ((t, o) :: r) t' ≠ none := by
     intro t' h
     unfold za1
     split
     · simp
     · exact h
   split at h
   · rename_i k hk
     split at h
     · rename_i e
       rcases List.mem_cons.1 h with rfl | h
       · exact ⟨t, hk, e, by simp [za1, za3]⟩
       · obtain ⟨t', h1, h2, h3⟩ := zg9 h; exact ⟨t', h1, h2, up h3⟩
     · obtain ⟨t', h1, h2, h3⟩ := zg9 h; exact ⟨t', h1, h2, up h3⟩
   · obtain ⟨t', h1, h2, h3⟩ := zg9 h; exact ⟨t', h1, h2, up h3⟩
theorem zpp {ice : List Nat} {F : List (Nat × Option Nat)} : ∀ {objs : List (Nat × Ob)} {id t : Nat}, za1 F t = some (some id) -> zb2 ice t = true -> za1 objs t ≠ none -> id ∈ frz ice objs F
 | [], id, t, _, _, h => by simp [za1] at h
 | (k, o) :: r, id, t, h1, h2, h3 => by
   unfold frz
   unfold za1 at h3
   cases e : za9 k t with
   | true =>
     have := za2 e; subst this
     rw [h1]
     simp only
     rw [if_pos h2]
     simp
   | false =>
     rw [e] at h3
     have ih := zpp (objs := r) h1 h2 h3
     split
     · split
       · exact List.mem_cons_of_mem _ ih
       · exact ih
     · exact ih
theorem zfu : ∀ {F : List (Nat × Option Nat)}, zk8 F = true -> ∀ t x, za1 F t = some x -> zdc t = true -> x = some t
 | [], _, t, x, h, _ => by cases h
 | (k, y) :: r, e, t, x, h, hp => by
   unfold zk8 at e
   unfold za1 at h
   split at h
   · rename_i hb
     have hk := za2 hb; subst hk
     cases h
     rw [hp] at e
     simp only at e
     split at e
     · rename_i hi; exact zq2 hi
     · cases e
   · have e' : zk8 r = true := by
       split at e
       · split at e
         · exact e
         · cases e
       · exact e
     exact zfu e' t x h hp
theorem zww {pin : Nat -> Option (Nat × Nat × Nat)} {μ : Mu} {F : List (Nat × Option Nat)} (h : ∀ id y, zdc id = true -> μ id = some y -> y = pin id) (hF : zk8 F = true) {id : Nat} {y : Option (Nat × Nat × Nat)} (hp : zdc id = true) (hy : zcs μ F id = some y) : y = pin id := by
 unfold zcs at hy
 split at hy
 · rename_i k hk
   have := zfu hF id _ hk hp
   cases this
   exact h id y hp hy
 · rename_i hk
   have := zfu hF id _ hk hp
   cases this
 · cases hy
theorem zpr (hs : zgk base M W nt s a w) (h : Sat P Q (zni s tm hold next)) (hkn : tm.kn = []) : zgk base M W nt tm a w /\ Sat P Q next := by
 unfold zni at h
 split at h
 · rename_i m1 e1
   split at h
   · rename_i m2 e2
     split at h
     · rename_i hin hice hpin
       obtain ⟨hps, hnext⟩ := zed h
       refine ⟨?_, hnext⟩
       obtain ⟨⟨D, μ, S⟩, _⟩ := hs
       let F := m2.ids
       obtain ⟨x2, -⟩ := zc1 (h := w.heap) (D := D) (μ := μ) e2
       obtain ⟨x1, -⟩ := zco (h := w.heap) (D := D) (μ := μ) (a := a) e1
       have hF2 : Fin m2 F := ⟨fun _ _ h => h, hps⟩
       have hF1 : Fin m1 F := hF2.of x2
       have hInj : Inj F := x2.inj (x1.inj fun t t' id h1 h2 => by
         have q1 := zin h1; have q2 := zin h2
         simp only [Option.some.injEq] at q1 q2
         rw [<- q1, <- q2])
       have hal : ∀ id, id ∈ frz tm.ice tm.objs F -> ∃ o, za1 s.objs id = some o /\ o ≠ .gone := by
         intro id hid
         obtain ⟨t, h1, h2, h3⟩ := zg9 hid
         obtain ⟨o, ho⟩ := Option.ne_none_iff_exists'.1 h3
         obtain ⟨x2', r2⟩ := zc1 (h := w.heap) (D := D) (μ := μ) e2
         obtain ⟨x, hx, hp⟩ := (r2 F hF2 t o ho).pair
         rw [h1] at hx
         cases hx
         obtain ⟨_, o', ho', hne, _⟩ := hp
         exact ⟨o', ho', hne⟩
       have S' := S.freeze (frz tm.ice tm.objs F) hal
       obtain ⟨_, r1⟩ := zco (h := w.heap) (D := fun b => D b \/ ∃ id z m, id ∈ frz tm.ice tm.objs F /\ μ id = some (some (b, z, m))) (μ := μ) (a := a) e1
       obtain ⟨_, r2⟩ := zc1 (h := w.heap) (D := fun b => D b \/ ∃ id z m, id ∈ frz tm.ice tm.objs F /\ μ id = some (some (b, z, m))) (μ := μ) e2
       generalize hDD : (fun b => D b \/ ∃ id z m, id ∈ frz tm.ice tm.objs F /\ μ id = some (some (b, z, m))) = D' at S' r1 r2
       have r1 := r1 F hF1 S'.slots
       have r2 := r2 F hF2
       have pl : ∀ tid b z, zcs μ F tid = some (some (b, z)) -> ∃ id, za1 F tid = some (some id) /\ μ id = some (some (b, z)) := by
         intro tid b z hm
         unfold zcs at hm
         split at hm
         · rename_i id hid; exact ⟨id, hid, hm⟩
         · cases hm
         · cases hm
       have obj : ∀ tid id, za1 F tid = some (some id) -> ∃ o', za1 s.objs id = some o' /\ o' ≠ .gone /\ (zb2 s.ice id = true -> zb2 tm.ice tid = true) := by
         intro tid id hid
         obtain ⟨o, ho⟩ := Option.ne_none_iff_exists'.1 (zem hin tid _ hid)
         obtain ⟨x, hx, hp⟩ := (r2 tid o ho).pair
         rw [show za1 F tid = za1 m2.ids tid from rfl, hx] at hid
         cases hid
         obtain ⟨h1, o', ho', hne, _⟩ := hp
         exact ⟨o', ho', hne, h1⟩
       refine ⟨⟨D', zcs μ F, { S' with slots := r1, dom := fun id => ?_, obs := fun id o x h1 h2 => ?_, inj := ?_, own := fun id b z hm => ?_, kd := ?_, icy := fun id hc => zj8 hice id hc, pin := fun id y hp hy => zww S.pin hpin hp hy }⟩, fun t b ht => by rw [hkn] at ht; cases ht⟩
       · constructor
         · intro hm
           refine Decidable.byContradiction fun ho => ?_
           obtain ⟨o, ho⟩ := Option.ne_none_iff_exists'.1 ho
           obtain ⟨x, hx, hp⟩ := (r2 id o ho).pair
           unfold zcs at hm
           rw [hx] at hm
           cases x with
           | none => cases hm
           | some k =>
             simp only at hm hp
             obtain ⟨_, o', ho', _, _⟩ := hp
             have := (S.dom k).1 hm
             rw [ho'] at this; cases this
         · intro ho
           unfold zcs
           cases hf : za1 F id with
           | none => rfl
           | some x => exact absurd ho (zem hin id x hf)
       · obtain ⟨y, hy, hp⟩ := (r2 id o h1).pair
         unfold zcs at h2
         rw [hy] at h2
         cases y with
         | none => cases h2; exact hp
         | some k =>
           simp only at h2 hp
           obtain ⟨_, o', ho', _, hr⟩ := hp
           exact hr x (S'.obs k o' x ho' h2)
       · intro id id' b z z' o o' h1 h2 _ _ _ _
         obtain ⟨k, hk, hm⟩ := pl id b z h1
         obtain ⟨k', hk', hm'⟩ := pl id' b z' h2
         obtain ⟨q, hq, hqn, _⟩ := obj id k hk
         obtain ⟨q', hq', hqn', _⟩ := obj id' k' hk'
         have := S.inj k k' b z z' q q' hm hm' hq hq' hqn hqn'
         subst this
         exact hInj _ _ _ hk hk'
       · obtain ⟨k, hk, hm⟩ := pl id b z hm
         exact S.own k b z hm
       · intro id b z o h1 h2 h3
         obtain ⟨k, hk, hm⟩ := pl id b z h1
         obtain ⟨q, hq, hqn, hic⟩ := obj id k hk
         have K := S'.kd k b z q hm hq hqn
         refine ⟨fun hc => K.1 ?_, fun hc => K.2 ?_⟩
         · unfold zfj
           rw [zbb.2 (zpp hk hc (by rw [h2]; simp))]; rfl
         · unfold zfj
           rw [Bool.or_eq_false_iff]
           refine ⟨?_, ?_⟩
           · cases hl : zb2 (frz tm.ice tm.objs F) k with
             | false => rfl
             | true =>
               obtain ⟨t, t1, t2, _⟩ := zg9 (zbb.1 hl)
               have := hInj _ _ _ t1 hk
               subst this
               rw [hc] at t2; cases t2
           · cases hl : zb2 s.ice k with
             | false => rfl
             | true => have := hic hl; rw [hc] at this; cases this
     · cases h
   · cases h
 · cases h
theorem zg0 (hs : zgk base M W nt s a w) (h : Sat P Q (zni s tm hold next)) : ∀ n o, za1 tm.objs n = some o -> o ≠ .gone := by
 unfold zni at h
 split at h
 · rename_i m1 e1
   split at h
   · rename_i m2 e2
     split at h
     · obtain ⟨hps, hnext⟩ := zed h
       intro n o ho
       obtain ⟨x2, r2⟩ := zc1 (h := #[]) (D := fun _ => False) (μ := zat) e2
       exact (r2 m2.ids ⟨fun _ _ h => h, hps⟩ n o ho).live
     · cases h
   · cases h
 · cases h
end
end Sy
end Go.Proofs.Ytlphgephdhadhaa
namespace Go.Proofs.Ytlphgephdhadhaa
namespace Sy
open Go Go.RowKit
set_option linter.unusedSimpArgs false
set_option linter.unusedVariables false
set_option linter.unusedSectionVars false
def zwh : Ex -> Exit
 | .normal => .normal
 | .exit id => .exit id
 | .goto l => .goto l
 | .ret => .ret
def zdq : Code -> List Code
 | .seq a b => zdq a ++ zdq b
 | .skip => []
 | .label _ => []
 | c => [c]
def WPl (P : Program) : List Code -> (Exit -> Act -> World -> Prop) -> Act -> World -> Prop
 | [], Q, a, w => Q .normal a w
 | c :: cs, Q, a, w => c.wp P (Exit.then (WPl P cs Q) Q) a w
theorem zd5 {P : Program} {Q : Exit -> Act -> World -> Prop} : Exit.then (WPl P [] Q) Q = Q := by
 funext e a w; cases e <;> rfl
theorem zo8 {P : Program} {ys : List Code} {Q : Exit -> Act -> World -> Prop} : ∀ {xs : List Code}, WPl P (xs ++ ys) Q = WPl P xs (Exit.then (WPl P ys Q) Q)
 | [] => rfl
 | c :: xs => by
   funext a w
   show c.wp P (Exit.then (WPl P (xs ++ ys) Q) Q) a w = c.wp P (Exit.then (WPl P xs (Exit.then (WPl P ys Q) Q)) (Exit.then (WPl P ys Q) Q)) a w
   rw [zo8 (xs := xs)]
   congr 1
   funext e a w
   cases e <;> rfl
theorem zo9 {P : Program} {c : Code} {Q : Exit -> Act -> World -> Prop} {a : Act} {w : World} (h : WPl P [c] Q a w) : c.wp P Q a w := by
 have : c.wp P (Exit.then (WPl P [] Q) Q) a w := h
 rwa [zd5] at this
theorem zcb {P : Program} : ∀ {c : Code} {Q : Exit -> Act -> World -> Prop} {a : Act} {w : World}, WPl P (zdq c) Q a w -> c.wp P Q a w := by
 intro c
 induction c with
 | seq x y ih1 ih2 =>
   intro Q a w h
   unfold zdq at h
   rw [zo8] at h
   refine wp_seq (wp_mono (ih1 h) fun e a w hq => ?_)
   cases e with
   | normal => exact ih2 hq
   | _ => exact hq
 | skip => intro Q a w h; exact wp_skip h
 | label l => intro Q a w h; exact wp_label h
 | _ => intro Q a w h; exact zo9 h
def zf7 : List Nat -> Bool
 | [] => true
 | x :: xs => !zb2 xs x && zf7 xs
def zb8 (nt : Nat) : Code -> Bool
 | .region _ ops d => zpc nt d ops.toList
 | .seq a b => zb8 nt a && zb8 nt b
 | .cond _ a b => zb8 nt a && zb8 nt b
 | .block _ b => zb8 nt b
 | .loop b => zb8 nt b
 | .scope b => zf7 (zc2 b) && zb8 nt b
 | _ => true
theorem zi7 : ∀ {c : Code} {l : Nat} {r : Code}, findLabel c l = some r -> l ∈ zc2 c := by
 intro c
 induction c with
 | seq a b ih1 ih2 =>
   intro l r h
   unfold findLabel at h
   simp only [zc2, za7, List.mem_append]
   cases e : findLabel a l with
   | some x => exact .inl (ih1 e)
   | none => rw [e] at h; exact .inr (ih2 h)
 | label l' =>
   intro l r h
   unfold findLabel at h
   split at h
   · rename_i e; simp [zc2, beq_iff_eq.1 e]
   · cases h
 | _ => intro l r h; simp [findLabel] at h
theorem zqj {nt : Nat} : ∀ {c : Code} {l : Nat} {r : Code}, findLabel c l = some r -> zb8 nt c = true -> zb8 nt r = true := by
 intro c
 induction c with
 | seq a b ih1 ih2 =>
   intro l r h hc
   unfold zb8 at hc
   rw [Bool.and_eq_true] at hc
   unfold findLabel at h
   cases e : findLabel a l with
   | some x =>
     rw [e] at h
     cases h
     unfold zb8
     rw [Bool.and_eq_true]
     exact ⟨ih1 e hc.1, hc.2⟩
   | none => rw [e] at h; exact ih2 h hc.2
 | label l' =>
   intro l r h _
   unfold findLabel at h
   split at h
   · cases h; rfl
   · cases h
 | _ => intro l r h; simp [findLabel] at h
theorem zpj {xs ys : List Nat} (h : zf7 (xs ++ ys) = true) : zf7 xs = true /\ zf7 ys = true /\ ∀ l, l ∈ xs -> l ∉ ys := by
 induction xs with
 | nil => exact ⟨rfl, h, fun l hl => by cases hl⟩
 | cons x xs ih =>
   simp only [List.cons_append, zf7, Bool.and_eq_true, Bool.not_eq_true'] at h |-
   obtain ⟨h1, h2⟩ := h
   obtain ⟨i1, i2, i3⟩ := ih h2
   have hx : x ∉ xs ++ ys := fun hm => by rw [zbb.2 hm] at h1; cases h1
   simp only [List.mem_append, not_or] at hx
   refine ⟨⟨?_, i1⟩, i2, fun l hl => ?_⟩
   · cases e : zb2 xs x with
     | false => rfl
     | true => exact absurd (zbb.1 e) hx.1
   · rcases List.mem_cons.1 hl with rfl | hl
     · exact hx.2
     · exact i3 l hl
theorem zqk : ∀ {c : Code} {l0 l : Nat} {r c' : Code}, zf7 (zc2 c) = true -> findLabel c l0 = some r -> findLabel r l = some c' -> ∃ c'', findLabel c l = some c'' /\ zdq c'' = zdq c' := by
 intro c
 induction c with
 | seq a b ih1 ih2 =>
   intro l0 l r c' hn h h'
   simp only [zc2, za7] at hn
   obtain ⟨n1, n2, n3⟩ := zpj hn
   have none_of : ∀ {x}, findLabel b l = some x -> findLabel a l = none := by
     intro x hx
     cases e : findLabel a l with
     | none => rfl
     | some y => exact absurd (zi7 hx) (n3 l (zi7 e))
   unfold findLabel at h
   cases e : findLabel a l0 with
   | some x =>
     rw [e] at h
     cases h
     unfold findLabel at h'
     cases e' : findLabel x l with
     | some y =>
       rw [e'] at h'
       cases h'
       obtain ⟨c'', h1, h2⟩ := ih1 n1 e e'
       exact ⟨.seq c'' b, by simp [findLabel, h1], by simp [zdq, h2]⟩
     | none =>
       rw [e'] at h'
       exact ⟨c', by simp only [findLabel]; rw [none_of h']; exact h', rfl⟩
   | none =>
     rw [e] at h
     obtain ⟨c'', h1, h2⟩ := ih2 n2 h h'
     exact ⟨c'', by simp only [findLabel]; rw [none_of h1]; exact h1, h2⟩
 | label l' =>
   intro l0 l r c' _ h h'
   unfold findLabel at h
   split at h
   · cases h; simp [findLabel] at h'
   · cases h
 | _ => intro l0 l r c' _ h; simp [findLabel] at h
inductive zwe (P : Program) (Q : Exit -> Act -> World -> Prop) (body : Code) : Code -> Act -> World -> Prop
 | mk {c : Code} {a : Act} {w : World} (R : Exit -> Act -> World -> Prop) (h : c.wp P R a w)
     (hn : ∀ e a' w', R e a' w' -> (∀ l rest, e = .goto l -> findLabel body l = some rest -> False) -> Q e a' w')
     (hg : ∀ l rest a' w', R (.goto l) a' w' -> findLabel body l = some rest -> zwe P Q body rest a' w') : zwe P Q body c a w
def Qg (P : Program) (Q : Exit -> Act -> World -> Prop) (body : Code) : Exit -> Act -> World -> Prop
 | .goto l, a, w => match findLabel body l with
   | some rest => zwe P Q body rest a w
   | none => Q (.goto l) a w
 | e, a, w => Q e a w
theorem zq8 {P : Program} {Q : Exit -> Act -> World -> Prop} {body c : Code} {a : Act} {w : World} (h : c.wp P (Qg P Q body) a w) : zwe P Q body c a w := by
 refine .mk _ h (fun e a' w' hq hno => ?_) (fun l rest a' w' hq hf => ?_)
 · cases e with
   | goto l =>
     simp only [Qg] at hq
     split at hq
     · rename_i rest hf; exact (hno l rest rfl hf).elim
     · exact hq
   | _ => exact hq
 · simp only [Qg] at hq
   rw [hf] at hq
   exact hq
theorem zv9 {P : Program} {Q : Exit -> Act -> World -> Prop} {body : Code} {c : Code} {a : Act} {w : World} (g : zwe P Q body c a w) :
   ∀ (b : Frame) (k : List Item) (cs : List Frame), ∃ e a' w', Q e a' w' /\ Arrives P (lone (b.at a (.code c :: .inScope body :: k)) cs w) b k cs e a' w' := by
 induction g with
 | mk R h hn hg ih =>
   intro b k cs
   obtain ⟨e, a₁, w₁, hq, harr⟩ := h b (.inScope body :: k) cs
   cases e with
   | normal => exact ⟨.normal, a₁, w₁, hn _ _ _ hq (fun _ _ h => by cases h), Steps.trans harr (.one step_inScope)⟩
   | exit id => exact ⟨.exit id, a₁, w₁, hn _ _ _ hq (fun _ _ h => by cases h), fun k' hk => harr k' (by simp [exitTo, hk])⟩
   | goto l =>
     cases hf : findLabel body l with
     | some rest =>
       obtain ⟨e₂, a₂, w₂, hq₂, harr₂⟩ := ih l rest a₁ w₁ hq hf b k cs
       exact ⟨e₂, a₂, w₂, hq₂, .of_steps (harr _ (by simp [gotoIn, hf])) harr₂⟩
     | none =>
       refine ⟨.goto l, a₁, w₁, hn _ _ _ hq (fun l' r h hf' => by cases h; rw [hf] at hf'; cases hf'), fun k' hk => harr k' (by simp [gotoIn, hf, hk])⟩
   | ret => exact ⟨_, a₁, w₁, hn _ _ _ hq (fun _ _ h => by cases h), harr⟩
   | panic ch => exact ⟨_, a₁, w₁, hn _ _ _ hq (fun _ _ h => by cases h), harr⟩
   | outgrown => exact ⟨_, a₁, w₁, hn _ _ _ hq (fun _ _ h => by cases h), harr⟩
theorem zhj {P : Program} {Q : Exit -> Act -> World -> Prop} {body : Code} {a : Act} {w : World} (g : zwe P Q body body a w) : (Code.scope body).wp P Q a w := by
 intro b k cs
 obtain ⟨e, a₁, w₁, hq, harr⟩ := zv9 g b k cs
 exact ⟨e, a₁, w₁, hq, .of_steps (.one step_scope) harr⟩
section
variable {P : Program} {T : TT} {S : zif} {lo lb : Nat -> St -> Option Ann} {base : Nat} {M : Two} {W : World} {nt : Nat} {Q1 : AV -> Prop}
def Kon (P : Program) (base : Nat) (M : Two) (W : World) (nt : Nat) (Q1 : AV -> Prop) (k : K) (Q : Exit -> Act -> World -> Prop) : Prop := ∀ e s a w, zgk base M W nt s a w -> Sat P Q1 (k e s) -> Q (zwh e) a w
def zzk (P : Program) (base : Nat) (M : Two) (W : World) (nt : Nat) (Q1 : AV -> Prop) (sc : Code -> St -> K -> zb9) : Prop :=
 ∀ body s k Q a w, zb8 nt (.scope body) = true -> zgk base M W nt s a w -> Sat P Q1 (sc body s k) -> Kon P base M W nt Q1 k Q -> (Code.scope body).wp P Q a w
theorem zcz {an : Ann} {ks : List (Nat × AV)} {ko : List (Nat × Ob)} {ice : List Nat} {m : Option Nat} {s : St} {a : Act} {w : World} (hs : zgk base M W nt s a w) (h : Sat P Q1 (zda an ks ko ice m s)) :
   ∃ x, an.inv x /\ (∀ m0, m = some m0 -> an.mu x < m0) /\ zgk base M W nt (an.st ks ko ice x) a w := by
 unfold zda at h
 cases h with
 | ex x h =>
   obtain ⟨h1, h2⟩ := zpr hs h rfl
   cases h2 with
   | must h3 h4 =>
     refine ⟨x, h3, fun m0 hm => ?_, h1⟩
     subst hm
     cases h4 with | must h5 _ => exact h5
theorem zp8 {sc : Code -> St -> K -> zb9} {A : Nat -> Bool} {id : Nat} {b : Code} (hb : ∀ body, b ≠ .loop body) {s : St} {k : K} :
   run T std S lo sc A (.block id b) s k = run T std S lo sc noL b s (fun e s' => match e with
   | .exit j => match za9 j id with
     | true => k .normal s'
     | false => k (.exit j) s'
   | e => k e s') := by
 cases b <;> first | rfl | exact absurd rfl (hb _)
def zvz (P : Program) (T : TT) (S : zif) (lo : Nat -> St -> Option Ann) (base : Nat) (M : Two) (W : World) (nt : Nat) (Q1 : AV -> Prop) (sc : Code -> St -> K -> zb9) (c : Code) : Prop := zb8 nt c = true ->
   ∀ (A : Nat -> Bool) (s : St) (k : K) (Q : Exit -> Act -> World -> Prop) (ys : List Code) (a : Act) (w : World), zgk base M W nt s a w -> Sat P Q1 (run T std S lo sc A c s k) ->
   Kon P base M W nt Q1 k (Exit.then (WPl P ys Q) Q) ->
   (∀ l c' s' a' w', A l = true -> findLabel c l = some c' -> zgk base M W nt s' a' w' -> Sat P Q1 (k (.goto l) s') -> WPl P (zdq c' ++ ys) Q a' w') -> WPl P (zdq c ++ ys) Q a w
theorem zun (hT : zb3 P T) (hS : zcj P S) (hm : P.follows .mixedOrders = true) {sc : Code -> St -> K -> zb9} (hsc : zzk P base M W nt Q1 sc) : ∀ (c : Code),
   zvz P T S lo base M W nt Q1 sc c /\ (∀ body, c = .loop body -> zvz P T S lo base M W nt Q1 sc body) := by
 intro c
 induction c with
 | skip => refine ⟨?_, fun body e => by cases e⟩; intro _ A s k Q ys a w hs h hk _; exact hk .normal s a w hs h
 | region id ops d =>
   refine ⟨?_, fun body e => by cases e⟩
   intro hc A s k Q ys a w hs h hk _
   show (Code.region id ops d).wp P (Exit.then (WPl P ys Q) Q) a w
   have := zpb (id := id) (Q := Exit.then (WPl P ys Q) Q) hT hS hm hc hs h (fun s' a' w' hs' h' => hk .normal s' a' w' hs' h')
   simpa using this
 | seq x y ih1 ih2 =>
   refine ⟨?_, fun body e => by cases e⟩
   intro hc A s k Q ys a w hs h hk hl
   unfold zb8 at hc
   rw [Bool.and_eq_true] at hc
   show WPl P ((zdq x ++ zdq y) ++ ys) Q a w
   rw [List.append_assoc]
   refine ih1.1 hc.1 A s _ Q (zdq y ++ ys) a w hs h (fun e s' a' w' hs' h' => ?_) (fun l c' s' a' w' hA hf hs' h' => ?_)
   · cases e with
     | normal =>
       refine ih2.1 hc.2 _ s' k Q ys a' w' hs' h' hk (fun l c' s2 a2 w2 hA hf hs2 h2 => hl l c' s2 a2 w2 ?_ ?_ hs2 h2)
       · split at hA
         · cases hA
         · exact hA
       · split at hA
         · cases hA
         · rename_i e; simp only [findLabel]; rw [e]; exact hf
     | exit id => exact hk (.exit id) s' a' w' hs' h'
     | goto l => exact hk (.goto l) s' a' w' hs' h'
     | ret => exact hk .ret s' a' w' hs' h'
   · have := hl l (.seq c' y) s' a' w' hA (by simp [findLabel, hf]) hs' h'
     simpa [zdq] using this
 | cond x p q ih1 ih2 =>
   refine ⟨?_, fun body e => by cases e⟩
   intro hc A s k Q ys a w hs h hk _
   unfold zb8 at hc
   rw [Bool.and_eq_true] at hc
   show (Code.cond x p q).wp P (Exit.then (WPl P ys Q) Q) a w
   have yes : ∀ (k1 : K) (s1 : St), zgk base M W nt s1 a w -> Sat P Q1 (run T std S lo sc noL p s1 k1) -> Kon P base M W nt Q1 k1 (Exit.then (WPl P ys Q) Q) -> p.wp P (Exit.then (WPl P ys Q) Q) a w := fun k1 s1 h1 h2 hk1 => zcb (by
     have := ih1.1 hc.1 noL s1 k1 (Exit.then (WPl P ys Q) Q) [] a w h1 h2 (by rw [zd5]; exact hk1) (fun l c' s' a' w' hA => by cases hA)
     simpa using this)
   have no : ∀ (k1 : K) (s1 : St), zgk base M W nt s1 a w -> Sat P Q1 (run T std S lo sc noL q s1 k1) -> Kon P base M W nt Q1 k1 (Exit.then (WPl P ys Q) Q) -> q.wp P (Exit.then (WPl P ys Q) Q) a w := fun k1 s1 h1 h2 hk1 => zcb (by
     have := ih2.1 hc.2 noL s1 k1 (Exit.then (WPl P ys Q) Q) [] a w h1 h2 (by rw [zd5]; exact hk1) (fun l c' s' a' w' hA => by cases hA)
     simpa using this)
   have lit : ∀ b, litOf s.kn x = some b -> a.eval x = .bool b := by
     intro b hb
     cases x with
     | tmp t =>
       obtain ⟨⟨D, μ, S⟩, hkn⟩ := hs
       exact (S.slots t _ (hkn t b hb)).inv_bool
     | const v => cases v <;> simp [litOf] at hb; subst hb; rfl
     | _ => simp [litOf] at hb
   have one : ∀ v : Bool, litOf s.kn x = some v -> ∀ k1 : K, Kon P base M W nt Q1 k1 (Exit.then (WPl P ys Q) Q) -> Sat P Q1 (match v with | true => run T std S lo sc noL p s k1 | false => run T std S lo sc noL q s k1) -> (Code.cond x p q).wp P (Exit.then (WPl P ys Q) Q) a w := by
     intro v e k1 hk1 h2
     cases v with
     | true => exact wp_cond_true (lit true e) (yes k1 s hs h2 hk1)
     | false => exact wp_cond_false (lit false e) (no k1 s hs h2 hk1)
   unfold run at h
   split at h
   · rename_i v e
     replace one := one v e
     clear e
     split at h
     · exact one k hk h
     · rename_i an _
       split at h
       · rename_i ks _
         split at h
         · rename_i ko _
           cases h with
           | and h1 h2 =>
             refine one _ (fun e s' a' w' hs' h' => ?_) h1
             cases e with
             | normal =>
               obtain ⟨y, hy, _, hsy⟩ := zcz hs' (show Sat P Q1 (zda an ks ko s.ice none s') from h')
               cases h2 with
               | all h2 => cases h2 y with
                 | sup h3 => exact hk .normal _ a' w' hsy (h3 hy)
             | exit j => exact hk (.exit j) s' a' w' hs' h'
             | goto l => exact hk (.goto l) s' a' w' hs' h'
             | ret => exact hk .ret s' a' w' hs' h'
         · cases h
       · cases h
   · split at h
     · rename_i t _ _
       split at h
       · rename_i b hb
         have he : a.eval (.tmp t) = .bool b := by
           obtain ⟨⟨D, μ, S⟩, hkn⟩ := hs
           exact (S.slots t _ hb).inv_bool
         have both : ∀ k1 : K, Kon P base M W nt Q1 k1 (Exit.then (WPl P ys Q) Q) -> Sat P Q1 (.ite b (run T std S lo sc noL p (s.know t true) k1) (run T std S lo sc noL q (s.know t false) k1)) -> (Code.cond (.tmp t) p q).wp P (Exit.then (WPl P ys Q) Q) a w := by
           intro k1 hk1 h
           cases h with
           | ite h1 h2 =>
             refine wp_cond_split he (fun ht => ?_) (fun hf => ?_)
             · subst ht
               exact yes k1 (s.know t true) ⟨hs.1, zch hs.2 hb⟩ (h1 rfl) hk1
             · subst hf
               exact no k1 (s.know t false) ⟨hs.1, zch hs.2 hb⟩ (h2 rfl) hk1
         split at h
         · exact both k hk h
         · rename_i an _
           split at h
           · rename_i ks _
             split at h
             · rename_i ko _
               cases h with
               | and h1 h2 =>
                 refine both _ (fun e s' a' w' hs' h' => ?_) h1
                 cases e with
                 | normal =>
                   obtain ⟨y, hy, _, hsy⟩ := zcz hs' h'
                   cases h2 with
                   | all h2 => cases h2 y with
                     | sup h3 => exact hk .normal _ a' w' hsy (h3 hy)
                 | exit j => exact hk (.exit j) s' a' w' hs' h'
                 | goto l => exact hk (.goto l) s' a' w' hs' h'
                 | ret => exact hk .ret s' a' w' hs' h'
             · cases h
           · cases h
       · cases h
     · cases h
 | block id b ih =>
   refine ⟨?_, fun body e => by cases e⟩
   intro hc A s k Q ys a w hs h hk _
   show (Code.block id b).wp P (Exit.then (WPl P ys Q) Q) a w
   generalize Exit.then (WPl P ys Q) Q = Q' at hk
   by_cases hb : ∃ body, b = .loop body
   · obtain ⟨body, rfl⟩ := hb
     have hbody := ih.2 body rfl hc
     unfold run at h
     split at h
     · rename_i an hlo
       split at h
       · rename_i ks hks
         split at h
         · rename_i ko hko
           cases h with
           | and h1 h2 =>
             obtain ⟨x0, i0, _, s0⟩ := zcz hs h1
             cases h2 with
             | all h2 =>
               refine wp_block (wp_loop_ghost (fun n a w => ∃ x, an.inv x /\ an.mu x = n /\ zgk base M W nt (an.st ks ko s.ice x) a w) (an.mu x0) ⟨x0, i0, rfl, s0⟩ ?_)
               rintro n a1 w1 ⟨x, hx, rfl, hsx⟩
               refine zcb ?_
               cases h2 x with
               | sup h3 =>
                 have := hbody noL _ _ (Exit.then (fun a' w' => ∃ n', n' < an.mu x /\ ∃ x, an.inv x /\ an.mu x = n' /\ zgk base M W nt (an.st ks ko s.ice x) a' w') (Exit.inBlock id Q')) [] a1 w1 hsx (h3 hx) (fun e s' a' w' hs' h' => ?_) (fun l c' s' a' w' hA => by cases hA)
                 · simpa using this
                 · rw [zd5]
                   cases e with
                   | exit j =>
                     simp only at h'
                     show (if j = id then Q' .normal a' w' else Q' (.exit j) a' w')
                     cases e : za9 j id with
                     | true => rw [e] at h'; rw [if_pos (za2 e)]; exact hk .normal s' a' w' hs' h'
                     | false =>
                       rw [e] at h'
                       rw [if_neg (by rintro rfl; rw [za3] at e; cases e)]
                       exact hk (.exit j) s' a' w' hs' h'
                   | normal =>
                     obtain ⟨x', i', m', s2⟩ := zcz hs' h'
                     exact ⟨an.mu x', m' _ rfl, x', i', rfl, s2⟩
                   | goto l => exact hk (.goto l) s' a' w' hs' h'
                   | ret => exact hk .ret s' a' w' hs' h'
         · cases h
       · cases h
     · cases h
   · rw [zp8 (fun body e => hb ⟨body, e⟩)] at h
     refine wp_block (zcb ?_)
     have := ih.1 hc noL s _ (Exit.inBlock id Q') [] a w hs h (fun e s' a' w' hs' h' => ?_) (fun l c' s' a' w' hA => by cases hA)
     · simpa using this
     · rw [zd5]
       cases e with
       | exit j =>
         simp only at h'
         show (if j = id then Q' .normal a' w' else Q' (.exit j) a' w')
         cases e : za9 j id with
         | true => rw [e] at h'; rw [if_pos (za2 e)]; exact hk .normal s' a' w' hs' h'
         | false =>
           rw [e] at h'
           rw [if_neg (by rintro rfl; rw [za3] at e; cases e)]
           exact hk (.exit j) s' a' w' hs' h'
       | normal => exact hk .normal s' a' w' hs' h'
       | goto l => exact hk (.goto l) s' a' w' hs' h'
       | ret => exact hk .ret s' a' w' hs' h'
 | exit id => refine ⟨?_, fun body e => by cases e⟩; intro _ A s k Q ys a w hs h hk _; exact wp_exit (hk (.exit id) s a w hs h)
 | goto l => refine ⟨?_, fun body e => by cases e⟩; intro _ A s k Q ys a w hs h hk _; exact wp_goto (hk (.goto l) s a w hs h)
 | ret => refine ⟨?_, fun body e => by cases e⟩; intro _ A s k Q ys a w hs h hk _; exact wp_ret (hk .ret s a w hs h)
 | label l =>
   refine ⟨?_, fun body e => by cases e⟩
   intro _ A s k Q ys a w hs h hk hl
   unfold run at h
   split at h
   · rename_i hA
     exact hl l .skip s a w hA (by simp [findLabel]) hs h
   · exact hk .normal s a w hs h
 | scope b ih =>
   refine ⟨?_, fun body e => by cases e⟩
   intro hc A s k Q ys a w hs h hk _
   exact hsc b s k _ a w hc hs h hk
 | loop b ih => exact ⟨fun _ A s k Q ys a w hs h hk _ => (by cases h), fun body e => by cases e; exact ih.1⟩
 | _ => refine ⟨?_, fun body e => by cases e⟩; intro _ A s k Q ys a w hs h hk _; cases h
theorem zth (hT : zb3 P T) (hS : zcj P S) (hm : P.follows .mixedOrders = true) {sc : Code -> St -> K -> zb9} (hsc : zzk P base M W nt Q1 sc) (c : Code) : zvz P T S lo base M W nt Q1 sc c := (zun hT hS hm hsc c).1
def zzn (P : Program) (base : Nat) (M : Two) (W : World) (nt : Nat) (lb : Nat -> St -> Option Ann) (body : Code) (bs : St) (Q : Exit -> Act -> World -> Prop) (m : Option Nat) : Prop :=
 ∀ l an rest ks ko x a w, lb l bs = some an -> findLabel body l = some rest -> zgp bs.slots an.keep = some ks -> zi2 bs.objs an.hold = some ko -> an.inv x -> (∀ m0, m = some m0 -> an.mu x < m0) ->
   zgk base M W nt (an.st ks ko bs.ice x) a w -> WPl P (zdq rest) (Qg P Q body) a w
def ztu (P : Program) (T : TT) (S : zif) (lo lb : Nat -> St -> Option Ann) (base : Nat) (M : Two) (W : World) (nt : Nat) (Q1 : AV -> Prop) (n : Nat) : Prop :=
 ∀ body rest bs s k m Q a w, zf7 (zc2 body) = true -> zb8 nt rest = true -> zb8 nt body = true -> (rest = body \/ ∃ l, findLabel body l = some rest) -> zgk base M W nt s a w -> Sat P Q1 (pass T std S lo lb n body rest s k m bs) ->
   Kon P base M W nt Q1 k Q -> zzn P base M W nt lb body bs Q m -> WPl P (zdq rest) (Qg P Q body) a w
theorem zi8 {body : Code} {bs : St} {ps : Code -> St -> Nat -> zb9} {t : zb9} : ∀ {ls : List Nat}, Sat P Q1 (zd0 lb body bs ps ls t) -> Sat P Q1 t /\
   ∀ l, l ∈ ls -> ∀ an rest ks ko, lb l bs = some an -> findLabel body l = some rest -> zgp bs.slots an.keep = some ks -> zi2 bs.objs an.hold = some ko -> ∀ x, an.inv x -> Sat P Q1 (ps rest (an.st ks ko bs.ice x) (an.mu x))
 | [], h => ⟨h, fun l hl => by cases hl⟩
 | l0 :: ls, h => by
   unfold zd0 at h
   split at h
   · rename_i an hlb
     split at h
     · rename_i rest hf
       split at h
       · rename_i ks hks
         split at h
         · rename_i ko hko
           cases h with
           | and h1 h2 =>
             obtain ⟨i1, i2⟩ := zi8 h2
             refine ⟨i1, fun l hl an' rest' ks' ko' q1 q2 q3 q4 x hx => ?_⟩
             rcases List.mem_cons.1 hl with rfl | hl
             · rw [hlb] at q1; cases q1
               rw [hf] at q2; cases q2
               rw [hks] at q3; cases q3
               rw [hko] at q4; cases q4
               cases h1 with
               | all h1 => cases h1 x with | sup h1 => exact h1 hx
             · exact i2 l hl an' rest' ks' ko' q1 q2 q3 q4 x hx
         · cases h
       · cases h
     · rename_i hf
       obtain ⟨i1, i2⟩ := zi8 h
       refine ⟨i1, fun l hl an' rest' ks' ko' q1 q2 => ?_⟩
       rcases List.mem_cons.1 hl with rfl | hl
       · rw [hf] at q2; cases q2
       · exact i2 l hl an' rest' ks' ko' q1 q2
   · rename_i hlb
     obtain ⟨i1, i2⟩ := zi8 h
     refine ⟨i1, fun l hl an' rest' ks' ko' q1 => ?_⟩
     rcases List.mem_cons.1 hl with rfl | hl
     · rw [hlb] at q1; cases q1
     · exact i2 l hl an' rest' ks' ko' q1
theorem zlb (n : Nat) (hp : ztu P T S lo lb base M W nt Q1 n) : zzk P base M W nt Q1 (zgw lb (pass T std S lo lb n)) := by
 intro body s k Q a w hc hs h hk
 unfold zb8 at hc
 rw [Bool.and_eq_true] at hc
 unfold zgw at h
 obtain ⟨h1, h2⟩ := zi8 h
 have lab : ∀ m, ∀ l an rest ks ko x a w, lb l s = some an -> findLabel body l = some rest -> zgp s.slots an.keep = some ks -> zi2 s.objs an.hold = some ko -> an.inv x -> an.mu x = m ->
     zgk base M W nt (an.st ks ko s.ice x) a w -> WPl P (zdq rest) (Qg P Q body) a w := by
   intro m
   induction m using Nat.strongRecOn with
   | _ m ih =>
     intro l an rest ks ko x a w q1 q2 q3 q4 hx hm hsx
     subst hm
     refine hp body rest s _ k (some (an.mu x)) Q a w hc.1 (zqj q2 hc.2) hc.2 (.inr ⟨l, q2⟩) hsx (h2 l (zi7 q2) an rest ks ko q1 q2 q3 q4 x hx) hk ?_
     intro l' an' rest' ks' ko' x' a' w' p1 p2 p3 p4 hx' hlt hs'
     exact ih (an'.mu x') (hlt _ rfl) l' an' rest' ks' ko' x' a' w' p1 p2 p3 p4 hx' rfl hs'
 have := hp body body s s k none Q a w hc.1 hc.2 hc.2 (.inl rfl) hs h1 hk (fun l an rest ks ko x a w q1 q2 q3 q4 hx _ hsx => lab _ l an rest ks ko x a w q1 q2 q3 q4 hx rfl hsx)
 exact zhj (zq8 (zcb this))
theorem zpf (hT : zb3 P T) (hS : zcj P S) (hm : P.follows .mixedOrders = true) : ∀ n, ztu P T S lo lb base M W nt Q1 n
 | 0 => by intro body rest bs s k m Q a w _ _ _ _ _ h; cases h
 | n + 1 => by
   intro body rest bs s k m Q a w hn hr hb hsuf hs h hk hl
   have ih := zpf hT hS hm n
   unfold pass at h
   have go : ∀ l rest' s' a' w', findLabel body l = some rest' -> zgk base M W nt s' a' w' -> Sat P Q1 (jump lb (fun rest' s' => pass T std S lo lb n body rest' s' k m bs) body bs m k (.goto l) s') -> WPl P (zdq rest') (Qg P Q body) a' w' := by
     intro l rest' s' a' w' hf hs' h'
     simp only [jump, hf] at h'
     split at h'
     · rename_i an hlb
       split at h'
       · rename_i ks hks
         split at h'
         · rename_i ko hko
           obtain ⟨x, i1, i2, i3⟩ := zcz hs' h'
           exact hl l an rest' ks ko x a' w' hlb hf hks hko i1 i2 i3
         · cases h'
       · cases h'
     · exact ih body rest' bs s' k m Q a' w' hn (zqj hf hb) hb (.inr ⟨l, hf⟩) hs' h' hk hl
   have := zth hT hS hm (zlb n ih) rest hr _ s _ (Qg P Q body) [] a w hs h (fun e s' a' w' hs' h' => ?_) (fun l c' s' a' w' hA hf hs' h' => ?_)
   · simpa using this
   · rw [zd5]
     cases e with
     | goto l =>
       show Qg P Q body (.goto l) a' w'
       simp only [Qg]
       cases hf : findLabel body l with
       | some rest' => exact zq8 (zcb (go l rest' s' a' w' hf hs' h'))
       | none =>
         simp only [jump, hf] at h'
         exact hk (.goto l) s' a' w' hs' h'
     | normal => exact hk .normal s' a' w' hs' h'
     | exit id => exact hk (.exit id) s' a' w' hs' h'
     | ret => exact hk .ret s' a' w' hs' h'
   · rw [List.append_nil]
     rcases hsuf with rfl | ⟨l0, h0⟩
     · exact go l c' s' a' w' hf hs' h'
     · obtain ⟨c'', e1, e2⟩ := zqk hn h0 hf
       rw [<- e2]
       exact go l c'' s' a' w' e1 hs' h'
theorem zqp (hT : zb3 P T) (hS : zcj P S) (hm : P.follows .mixedOrders = true) {n : Nat} {c : Code} (hc : zb8 nt c = true) {s : St} {k : K} {Q : Exit -> Act -> World -> Prop} {a : Act} {w : World} (hs : zgk base M W nt s a w)
   (h : Sat P Q1 (run T std S lo (zgw lb (pass T std S lo lb n)) noL c s k)) (hk : Kon P base M W nt Q1 k Q) : c.wp P Q a w := by
 refine zcb ?_
 have := zth hT hS hm (zlb n (zpf hT hS hm n)) c hc noL s k Q [] a w hs h (by rw [zd5]; exact hk) (fun l c' s' a' w' hA => by cases hA)
 simpa using this
end
end Sy
end Go.Proofs.Ytlphgephdhadhaa
namespace Go.Proofs.Ytlphgephdhadhaa
namespace Sy
open Go Go.RowKit
set_option linter.unusedSimpArgs false
set_option linter.unusedVariables false
set_option linter.unusedSectionVars false
def zcm : List Prop -> Prop
 | [] => True
 | p :: r => p /\ zcm r
def za8 (r v : AV) : Prop := match zax ⟨[], []⟩ r v with
 | some ⟨ps, []⟩ => zcm ps
 | _ => False
def zkr : List AV -> List AV -> Prop
 | [], [] => True
 | x :: xs, y :: ys => za8 x y /\ zkr xs ys
 | _, _ => False
def ze1 (r v : AV) : Prop := match r, v with
 | .tup rs, .tup vs => zkr rs vs
 | r, v => za8 r v
theorem zme : ∀ {l : List Prop}, zcm l -> ∀ p, p ∈ l -> p
 | [], _, p, h => by cases h
 | q :: l, ⟨h1, h2⟩, p, h => by
   rcases List.mem_cons.1 h with rfl | h
   · exact h1
   · exact zme h2 p h
theorem zut (μ : Mu) : zcs μ [] = zat := rfl
theorem zqi {h : Array Obj} {D : Nat -> Prop} {r v : AV} {x : Value} (f : za8 r v) (hr : R h D zat v x) : R h D zat r x := by
 unfold za8 at f
 split at f
 · rename_i ps e
   have := (zlt (h := h) (D := D) (μ := zat) e).2 [] x ⟨fun _ _ h => h, zme f⟩ hr
   rwa [zut] at this
 · exact f.elim
theorem zqf {h : Array Obj} {D : Nat -> Prop} : ∀ {rs vs : List AV}, zkr rs vs -> rs.length = vs.length /\ ∀ (i : Nat) r v x, rs[i]? = some r -> vs[i]? = some v -> R h D zat v x -> R h D zat r x
 | [], [], _ => ⟨rfl, fun i r v x h => by simp at h⟩
 | r :: rs, v :: vs, ⟨f1, f2⟩ => by
   obtain ⟨l1, h1⟩ := zqf (h := h) (D := D) f2
   refine ⟨by simp [l1], fun i r' v' x hr hv hx => ?_⟩
   cases i with
   | zero => simp at hr hv; subst hr; subst hv; exact zqi f1 hx
   | succ i => exact h1 i r' v' x (by simpa using hr) (by simpa using hv) hx
 | [], _ :: _, f => f.elim
 | _ :: _, [], f => f.elim
theorem ztp {h : Array Obj} {D : Nat -> Prop} {r v : AV} {x : Value} (f : ze1 r v) (hr : R h D zat v x) : R h D zat r x := by
 unfold ze1 at f
 split at f
 · rename_i rs vs
   obtain ⟨us, rfl, l1, h1⟩ := hr.inv_tup
   obtain ⟨l2, h2⟩ := zqf (h := h) (D := D) f
   refine .tup _ _ (by rw [l2, l1]) fun i r x hr hx => ?_
   obtain ⟨v, hv⟩ : ∃ v, vs[i]? = some v := ⟨_, List.getElem?_eq_getElem (by rw [<- l2]; exact (List.getElem?_eq_some_iff.1 hr).1)⟩
   exact h2 i r v x hr hv (h1 i v x hv hx)
 · exact zqi f hr
theorem zo1 {α : Type} (x : Sem α) : x.bind .pure = x := by
 induction x <;> simp only [Sem.bind] <;> (try (congr 1; try funext _)) <;> (first | rfl | (rename_i ih; exact ih _) | (rename_i ih; exact ih) | (rename_i ih _; exact ih _))
theorem zl4 {α β γ : Type} (x : Sem α) (f : α -> Sem β) (g : β -> Sem γ) : (x.bind f).bind g = x.bind fun a => (f a).bind g := by
 induction x <;> simp only [Sem.bind] <;> (try (congr 1; try funext _)) <;> (first | rfl | (rename_i ih; exact ih _) | (rename_i ih; exact ih) | (rename_i ih _; exact ih _))
instance : LawfulMonad Sem := LawfulMonad.mk' Sem (fun x => zo1 x) (fun _ _ => rfl) (fun x f g => zl4 x f g)
theorem zlv {α : Type} {P : Program} {w : World} {k : α -> Sem Value} : ∀ {zs : List α} {us : Nat -> Value}, (∀ (i : Nat) x, zs[i]? = some x -> (k x).run P w = .ok (us i) w) ->
   (zs.mapM k).run P w = .ok ((List.range zs.length).map us) w
 | [], us, h => by simp
 | z :: zs, us, h => by
   have ih := zlv (zs := zs) (us := fun i => us (i + 1)) (fun i x hx => h (i + 1) x (by simpa using hx))
   rw [List.mapM_cons, Sem.run_bind, h 0 z rfl]
   simp only [Result.andThen_ok, Sem.run_bind, ih, Sem.run_pure]
   rw [List.length_cons, List.range_succ_eq_map]
   simp [Function.comp_def]
section
variable {P : Program} {T : TT} {base : Nat} {M : Two} {W : World} {nt : Nat} {s : St} {a : Act} {w : World} {D : Nat -> Prop} {μ : Mu}
def zn9 (tmps : Array Value) : ResultVar -> Sem Value
 | .tmp t => pure (tmps.getD t undef)
 | .cell a t => do loadVar t (<- asAddr (tmps.getD a undef))
theorem zwq (h : Sim base M W nt (za1 s.slots) (za1 s.objs) (zb2 s.ice) a w D μ) (hT : zb3 P T) {x : ResultVar} {v : AV} (e : zxw T s x = some v) : ∃ u, (zn9 a.tmps x).run P w = .ok u w /\ R w.heap D μ v u := by
 have ev : ∀ t, R w.heap D μ (evf (za1 s.slots) [] (.tmp t)) (a.tmps.getD t undef) := fun t => zvd h (fun t b ht => by simp [za1] at ht) (.tmp t) (fun v hv => by cases hv)
 cases x with
 | tmp t =>
   simp only [zxw, Option.some.injEq] at e
   subst e
   exact ⟨_, rfl, ev t⟩
 | cell p t =>
   simp only [zxw] at e
   have hl := zlw h hT (t := t) (ev p) (ob := za1 s.objs) (fun _ _ h => h)
   split at e
   · rename_i v' os ice hc
     rw [hc] at hl
     cases e
     obtain ⟨_, _, y, hy, r⟩ := hl
     refine ⟨y, ?_, r⟩
     simp only [zn9]
     generalize a.tmps.getD p undef = u at *
     unfold Instr.loadAt Instr.sureAddr at hy
     unfold asAddr
     split at hy
     · rename_i q; simpa using hy
     · simp [stuck] at hy
   · cases e
theorem zk4 (h : Sim base M W nt (za1 s.slots) (za1 s.objs) (zb2 s.ice) a w D μ) (hT : zb3 P T) : ∀ {rs : List ResultVar} {vs : List AV}, zp9 T s rs = some vs ->
   vs.length = rs.length /\ ∃ us : Nat -> Value, (∀ (i : Nat) x, rs[i]? = some x -> (zn9 a.tmps x).run P w = .ok (us i) w) /\ ∀ (i : Nat) v, vs[i]? = some v -> R w.heap D μ v (us i)
 | [], vs, e => by cases e; exact ⟨rfl, fun _ => undef, fun i x hx => by simp at hx, fun i x hx => by simp at hx⟩
 | x :: rs, vs, e => by
   unfold zp9 at e
   split at e
   · rename_i v hv
     split at e
     · rename_i l hl
       cases e
       obtain ⟨u, hu, r⟩ := zwq h hT hv
       obtain ⟨l1, us, h1, h2⟩ := zk4 h hT hl
       refine ⟨by simp [l1], fun i => match i with | 0 => u | i + 1 => us i, fun i x' hx => ?_, fun i v' hv' => ?_⟩
       · cases i with
         | zero => simp at hx; subst hx; exact hu
         | succ i => exact h1 i x' (by simpa using hx)
       · cases i with
         | zero => simp at hv'; subst hv'; exact r
         | succ i => exact h2 i v' (by simpa using hv')
     · cases e
   · cases e
theorem zft {fn : Func} {tmps : Array Value} {us : Nat -> Value} (h : ∀ (i : Nat) x, fn.results.toList[i]? = some x -> (zn9 tmps x).run P w = .ok (us i) w) :
   (results fn tmps).run P w = .ok (if fn.results.size = 1 then us 0 else .tuple ((List.range fn.results.size).map us).toArray) w := by
 have h1 : (fn.results.mapM (zn9 tmps)).run P w = .ok ((List.range fn.results.size).map us).toArray w := by
   have e : fn.results = fn.results.toList.toArray := by simp
   rw [e, List.mapM_toArray, map_eq_pure_bind, Sem.run_bind, zlv h]
   simp
 have h2 : results fn tmps = (do
     let vs <- fn.results.mapM (zn9 tmps)
     pure (if h : vs.size = 1 then vs[0] else .tuple vs)) := by
   unfold results
   congr 1
 rw [h2, Sem.run_bind, h1]
 simp only [Result.andThen_ok, Sem.run_pure]
 congr 1
 by_cases e : fn.results.size = 1
 · rw [if_pos e, dif_pos (by simp [e])]
   try simp
 · rw [if_neg e, dif_neg (by simp [e])]
end
theorem zgj {α : Type} : ∀ (xs : List α) (i t : Nat), za1 (ziw i xs) t = if i <= t then xs[t - i]? else none
 | [], i, t => by simp [ziw, za1]
 | x :: xs, i, t => by
   unfold ziw za1
   cases e : za9 i t with
   | true => have := za2 e; subst this; simp
   | false =>
     have hne : i ≠ t := by rintro rfl; rw [za3] at e; cases e
     simp only
     rw [zgj xs (i + 1) t]
     by_cases h : i <= t
     · rw [if_pos (by omega), if_pos h]
       obtain ⟨k, hk⟩ : ∃ k, t - i = k + 1 := ⟨t - i - 1, by omega⟩
       rw [hk, show t - (i + 1) = k by omega]
       simp
     · rw [if_neg (by omega), if_neg h]
theorem zc4 {P : Program} {f : FuncId} {fn : Func} {args : Array Value} {w : World} (hf : P.funcs[f]? = some fn) (hn : (fn.name == "runtime.NumGoroutine") = false) {c : Code} (hb : fn.body = some c) :
   (callFunc f args).run P w = .ok (.enter f args) w := by
 have hn' : ¬ fn.name = "runtime.NumGoroutine" := by simpa using hn
 unfold callFunc
 simp [program, Sem.run, hf, hn', hb]
theorem zrf {P : Program} {T : TT} {S : zif} {lo lb : Nat -> St -> Option Ann} {n : Nat} {f : FuncId} {fn : Func} {c : Code} {xs : List AV} {r : AV} (hf : P.funcs[f]? = some fn) (hb : fn.body = some c) (hn : (fn.name == "runtime.NumGoroutine") = false)
   (hc : zb8 fn.ntmps c = true) (hx : (zb5 xs.length fn.ntmps && zb5 fn.ntmps 500000) = true) (hT : zb3 P T) (hS : zcj P S) (hm : P.follows .mixedOrders = true) (h : Sat P (ze1 r) (zyl T std S lo lb n fn xs)) : zdg P f xs r := by
 intro D w vs hD hxs hg
 rw [Bool.and_eq_true] at hx
 have hnb := zaw hx.2
 have hx := zaw hx.1
 unfold ze3
 rw [zc4 hf hn hb]
 simp only
 refine calls_of_wp hf hb ?_
 unfold zyl at h
 rw [hb] at h
 refine zqp (base := w.heap.size) (M := ⟨fun _ => False, D, fun _ => none⟩) (W := w) hT hS hm hc ⟨⟨D, zat, ?_⟩, fun t b ht => by simp [za1] at ht⟩ h (fun e s a w' hs h' => ?_)
 · refine { os := rfl, tape := rfl, output := rfl, size := Nat.le_refl _, bs := Nat.le_refl _, old := fun _ _ _ => rfl, defers := rfl, tmps := ?_, slots := fun t v hv => ?_, dlt := hD, low := fun b hb _ => .inl hb, dom := fun id => by simp [za1], obs := fun id o x ho => (by simp [za1] at ho), inj := fun id id' b z z' o o' h => (by cases h), own := fun id b z h => (by cases h), kd := fun id b z o h => (by cases h), icy := fun id h => by (simp [zb2] at h), ntb := hnb, pin := fun id y _ h => (by cases h), gl := ⟨hg, zmh hg, fun _ h => h.elim⟩ }
   · rw [hxs.1] at hx
     simp; omega
   · rw [zgj, if_pos (by omega), Nat.sub_zero] at hv
     have hlt : t < vs.size := by rw [<- hxs.1]; exact (List.getElem?_eq_some_iff.1 hv).1
     have h1 : vs[t]? = some vs[t] := by simp [hlt]
     have h2 : (vs ++ Array.replicate (fn.ntmps - vs.size) undef).getD t undef = vs[t] := by
       rw [Array.getD_eq_getD_getElem?, Array.getElem?_append_left hlt, h1]; rfl
     rw [h2]
     exact hxs.2 t v vs[t] hv h1
 · obtain ⟨⟨D1, μ, S1⟩, _⟩ := hs
   have key : Sat P (ze1 r) (zy0 T std fn.results.toList s) -> a.defers = [] /\ ∃ v, (results fn a.tmps).run P w' = .ok v w' /\ ∃ v' D', Ending.returned v = .returned v' /\ Below w.heap.size w w' /\ (∀ b, D b -> D' b) /\ (∀ b, D' b -> D b \/ (w.heap.size <= b /\ b < w'.heap.size)) /\ R w'.heap D' zat r v' := by
     intro h'
     unfold zy0 at h'
     split at h'
     · rename_i vs1 hvs
       obtain ⟨l1, us, h1, h2⟩ := zk4 S1 hT hvs
       have hres := zft (P := P) (w := w') (fn := fn) (tmps := a.tmps) h1
       have hB : Below w.heap.size w w' := ⟨S1.os, S1.tape, S1.output, S1.size, fun b hb => S1.old b hb (fun h => h)⟩
       have hD' : ∀ b, (D b \/ DF D1 μ (zbn vs1) b) -> D b \/ (w.heap.size <= b /\ b < w'.heap.size) := by
         rintro b (hb | hb | ⟨id, z, m, _, hm⟩)
         · exact .inl hb
         · by_cases hlt : b < w.heap.size
           · rcases S1.low b hb hlt with h | h
             · exact .inl h
             · exact h.elim
           · exact .inr ⟨by omega, S1.dlt b hb⟩
         · rcases S1.own id b _ hm with ⟨q1, q2 | q2⟩
           · exact .inr ⟨q2, q1⟩
           · exact q2.elim
       have imm : ∀ vs2, immVs std (za1 s.objs) vs1 = some vs2 -> vs2.length = vs1.length /\ ∀ (i : Nat) v, vs2[i]? = some v -> R w'.heap (fun b => D b \/ DF D1 μ (zbn vs1) b) zat v (us i) := by
         intro vs2 e2
         obtain ⟨i1, _, i3⟩ := zfg S1 (ob := za1 s.objs) (fun _ _ h => h) e2 (ids := zbn vs1) (fun _ h => h)
         refine ⟨i1, fun i v hv => ?_⟩
         obtain ⟨v1, hv1⟩ : ∃ v1, vs1[i]? = some v1 := ⟨_, List.getElem?_eq_getElem (by rw [<- i1]; exact (List.getElem?_eq_some_iff.1 hv).1)⟩
         exact (i3 i v1 v (us i) hv1 hv (h2 i v1 hv1)).mono (fun _ _ => rfl) (fun b hb => .inr hb) (fun _ _ h => by cases h)
       refine ⟨S1.defers, _, hres, _, fun b => D b \/ DF D1 μ (zbn vs1) b, rfl, hB, fun b hb => .inl hb, hD', ?_⟩
       split at h'
       · rename_i v1 e2
         cases h' with
         | done h' =>
           obtain ⟨i1, i2⟩ := imm _ e2
           have hsz : fn.results.size = 1 := by rw [<- Array.length_toList, <- l1, <- i1]; rfl
           rw [if_pos hsz]
           exact ztp h' (i2 0 v1 rfl)
       · rename_i vs2 hne e2
         cases h' with
         | done h' =>
           obtain ⟨i1, i2⟩ := imm _ e2
           have hl : vs2.length = fn.results.size := by rw [i1, l1, Array.length_toList]
           have hsz : ¬ fn.results.size = 1 := by
             rw [<- hl]
             intro h1
             obtain ⟨v, hv⟩ := List.length_eq_one_iff.1 h1
             exact hne v hv
           rw [if_neg hsz]
           refine ztp h' (.tup _ _ (by simp [hl]) fun i v x hv hx => ?_)
           have hlt : i < fn.results.size := by rw [<- hl]; exact (List.getElem?_eq_some_iff.1 hv).1
           simp [hlt] at hx
           subst hx
           exact i2 i v hv
       · cases h'
     · cases h'
   cases e with
   | normal => exact key h'
   | ret => exact key h'
   | exit id => cases h'
   | goto l => cases h'
end Sy
end Go.Proofs.Ytlphgephdhadhaa
namespace Go.Proofs.Ytlphgephdhadhaa
namespace Sy
open Go Go.RowKit
section
variable (a b c : Int) (l m : List UInt8) (n : Nat)
theorem zfb : (ilt a b = true) = (a < b) := by simp [ilt]
theorem zq7 : (ilt a b = false) = (b <= a) := by simp [ilt]
theorem zz0 : (ile a b = true) = (a <= b) := by simp [ile]
theorem zz1 : (ile a b = false) = (b < a) := by simp [ile]
theorem zz2 : (ieq a b = true) = (a = b) := by simp [ieq]
theorem zz3 : (ieq a b = false) = (a ≠ b) := by simp [ieq]
theorem zyw : (ine a b = true) = (a ≠ b) := by simp [ine]
theorem zyx : (ine a b = false) = (a = b) := by simp [ine]
theorem zyh : (seq l m = true) = (l = m) := by simp [seq]
theorem zyi : (seq l m = false) = (l ≠ m) := by simp [seq]
theorem zq4 : (inR a b = true) = (0 <= a /\ a < b) := by simp [inR]
theorem zyy : (inS a b c = true) = (0 <= a /\ a <= b /\ b <= c) := by simp [inS, and_assoc]
theorem zyz : (inC a b = true) = (0 <= a /\ a <= b) := by simp [inC]
theorem ztn (eb : Nat) : (zx1 eb a b = true) = (0 <= a /\ a <= b /\ (eb : Int) * b <= 140737488355328 /\ b <= 9223372036854775807) := by simp [zx1, and_assoc]
theorem zs9 (eb p q : Nat) : (zbr eb p q = true) = ((p + q) * eb <= 140737488355328 /\ p + q <= 9223372036854775807) := by simp [zbr]
theorem zvk : (zvl l m = true) = (l.length + m.length <= 9223372036854775807) := by simp [zvl]
theorem zjc (x y : Bool) : ze1 (.bool x) (.bool y) = (y = x) := by simp [ze1, za8, zax, zak, zay.add, zcm]
theorem zt5 (k : IntKind) : ze1 (.int k a) (.int k b) = (b = a) := by simp [ze1, za8, zax, zak, zay.add, zcm]
theorem zt3 : ze1 (.str l) (.str m) = (m = l) := by simp [ze1, za8, zax, zak, zay.add, zcm]
theorem znt (x y : Bool) : za8 (.bool x) (.bool y) = (y = x) := by simp [za8, zax, zak, zay.add, zcm]
theorem zqh (k : IntKind) : za8 (.int k a) (.int k b) = (b = a) := by simp [za8, zax, zak, zay.add, zcm]
theorem zqg : za8 (.str l) (.str m) = (m = l) := by simp [za8, zax, zak, zay.add, zcm]
theorem zt2 (x y : List AV) : ze1 (.tup x) (.tup y) = zkr x y := rfl
theorem zns (x y : AV) (r q : List AV) : zkr (x :: r) (y :: q) = (za8 x y /\ zkr r q) := rfl
theorem zqe : zkr [] [] = True := rfl
theorem zud : slen l = l.length := rfl
theorem zug : zyj l m = l ++ m := rfl
theorem zu8 : zye l a b = (l.take b.toNat).drop a.toNat := rfl
theorem zue : zmn l a = (l.getD a.toNat 0).toNat := rfl
theorem zux : zxx l = l.length := rfl
theorem zt7 (p q r : Nat) : zx8 p q r = (p + q <= r) := rfl
theorem zys (p : Nat) : Nat.add 0 p = p := Nat.zero_add p
theorem zv5 : imin a b = min a b := rfl
theorem zv6 : zxy a b = max a b := rfl
theorem zur : zan n = n := rfl
end
theorem zig (n : Int) : IntKind.i64.wrap n = (n + 9223372036854775808) % 18446744073709551616 - 9223372036854775808 := by simp [IntKind.wrap, IntKind.bits, IntKind.signed]; omega
theorem zy9 (n : Int) : IntKind.i32.wrap n = (n + 2147483648) % 4294967296 - 2147483648 := by simp [IntKind.wrap, IntKind.bits, IntKind.signed]; omega
theorem zy6 (n : Int) : IntKind.u64.wrap n = n % 18446744073709551616 := by simp [IntKind.wrap, IntKind.bits, IntKind.signed]
theorem zy7 (n : Int) : IntKind.u32.wrap n = n % 4294967296 := by simp [IntKind.wrap, IntKind.bits, IntKind.signed]
theorem zy8 (n : Int) : IntKind.u16.wrap n = n % 65536 := by simp [IntKind.wrap, IntKind.bits, IntKind.signed]
theorem w_u8 (n : Int) : IntKind.u8.wrap n = n % 256 := by simp [IntKind.wrap, IntKind.bits, IntKind.signed]
theorem zit (ps q : List Prop) (ids : List (Nat × Option Nat)) (x y : Nat) : zdk ⟨ps ++ q, ids⟩ x y = (zdk ⟨ps, ids⟩ x y).map fun m => ⟨m.ps ++ q, m.ids⟩ := by
 unfold zdk
 dsimp only
 repeat' split
 all_goals rfl
theorem zgz (ps q : List Prop) (ids : List (Nat × Option Nat)) (x : Nat) : ze4 ⟨ps ++ q, ids⟩ x = (ze4 ⟨ps, ids⟩ x).map fun m => ⟨m.ps ++ q, m.ids⟩ := by
 unfold ze4
 dsimp only
 split <;> rfl
theorem zsj (ps q : List Prop) (ids : List (Nat × Option Nat)) (x y : AV) : zak ⟨ps ++ q, ids⟩ x y = (zak ⟨ps, ids⟩ x y).map fun m => ⟨m.ps ++ q, m.ids⟩ := by
 cases x <;> cases y <;> first
   | rfl
   | (simp only [zak, zay.add, zit, zgz]; done)
   | (simp only [zak, zay.add, zit, zgz]
      (repeat' split) <;> (try simp_all) <;> (try (rename_i hh _; subst hh; simp)) <;> (try (rename_i hh _ _; subst hh; simp)))
theorem zlr : ∀ (xs ys : List AV) (ps q : List Prop) (ids : List (Nat × Option Nat)), zei ⟨ps ++ q, ids⟩ xs ys = (zei ⟨ps, ids⟩ xs ys).map fun m => ⟨m.ps ++ q, m.ids⟩
 | [], [], ps, q, ids => rfl
 | [], _ :: _, ps, q, ids => rfl
 | _ :: _, [], ps, q, ids => rfl
 | x :: xs, y :: ys, ps, q, ids => by
   unfold zei
   rw [zsj]
   cases e : zak ⟨ps, ids⟩ x y with
   | none => rfl
   | some m => exact zlr xs ys m.ps q m.ids
theorem zmf : ∀ (p : List Prop) (q : Prop), zcm (p ++ [q]) = (q /\ zcm p)
 | [], q => by simp [zcm]
 | a :: p, q => by
   show (a /\ zcm (p ++ [q])) = (q /\ a /\ zcm p)
   rw [zmf p q]
   exact propext ⟨fun ⟨h1, h2, h3⟩ => ⟨h2, h1, h3⟩, fun ⟨h1, h2, h3⟩ => ⟨h2, h1, h3⟩⟩
theorem zbe {x y : AV} {q : Prop} (e : zak ⟨[], []⟩ x y = some ⟨[q], []⟩) (xs ys : List AV) : za8 (.agg (x :: xs)) (.agg (y :: ys)) = (q /\ za8 (.agg xs) (.agg ys)) := by
 unfold za8 zax
 simp only [zei, e]
 have := zlr xs ys [] [q] []
 rw [List.nil_append] at this
 rw [this]
 cases zei ⟨[], []⟩ xs ys with
 | none => simp
 | some m =>
   obtain ⟨ps, ids⟩ := m
   cases ids with
   | nil => exact zmf ps q
   | cons a b => simp
theorem znw : za8 (.agg []) (.agg []) = True := rfl
theorem zha (k : IntKind) (a b : Int) (xs ys : List AV) : za8 (.agg (.int k a :: xs)) (.agg (.int k b :: ys)) = (b = a /\ za8 (.agg xs) (.agg ys)) := zbe (by simp [zak, zay.add]) _ _
theorem zh9 (a b : List UInt8) (xs ys : List AV) : za8 (.agg (.str a :: xs)) (.agg (.str b :: ys)) = (b = a /\ za8 (.agg xs) (.agg ys)) := zbe rfl _ _
theorem zhb (a b : Bool) (xs ys : List AV) : za8 (.agg (.bool a :: xs)) (.agg (.bool b :: ys)) = (b = a /\ za8 (.agg xs) (.agg ys)) := zbe rfl _ _
theorem zjd (sz n n' : Nat) (g g' : Nat -> Nat -> AV) : za8 (.lst sz n g) (.lst sz n' g') = (n' = n /\ ∀ i j, i < n -> j < sz -> g' i j = g i j) := by simp [za8, zax, zak, zay.add, za3, zcm]
theorem zt4 (sz n n' : Nat) (g g' : Nat -> Nat -> AV) : ze1 (.lst sz n g) (.lst sz n' g') = (n' = n /\ ∀ i j, i < n -> j < sz -> g' i j = g i j) := zjd sz n n' g g'
theorem zh8 (sz n : Nat) (g : Nat -> Nat -> AV) : za8 (.lst sz n g) .nils = (0 = n) := by simp [za8, zax, zak, zay.add, zcm]
theorem zq9 (sz n : Nat) (g : Nat -> Nat -> AV) : ze1 (.lst sz n g) .nils = (0 = n) := zh8 sz n g
theorem znv (sz n n' : Nat) (g g' : Nat -> Nat -> AV) (xs ys : List AV) : za8 (.agg (.lst sz n g :: xs)) (.agg (.lst sz n' g' :: ys)) = ((n' = n /\ ∀ i j, i < n -> j < sz -> g' i j = g i j) /\ za8 (.agg xs) (.agg ys)) := zbe (by simp [zak, zay.add, za3]) _ _
theorem znu (sz n : Nat) (g : Nat -> Nat -> AV) (xs ys : List AV) : za8 (.agg (.lst sz n g :: xs)) (.agg (.nils :: ys)) = (0 = n /\ za8 (.agg xs) (.agg ys)) := zbe rfl _ _
theorem zje (n : Nat) (g g' : Nat -> AV) : za8 (.arr n g) (.arr n g') = (∀ j, j < n -> g' j = g j) := by simp [za8, zax, zak, zay.add, za3, zcm]
theorem zt6 (n : Nat) (g g' : Nat -> AV) : ze1 (.arr n g) (.arr n g') = (∀ j, j < n -> g' j = g j) := zje n g g'
theorem zqd : ze1 (.agg []) (.agg []) = True := rfl
theorem zqb (k : IntKind) (a b : Int) (xs ys : List AV) : ze1 (.agg (.int k a :: xs)) (.agg (.int k b :: ys)) = (b = a /\ za8 (.agg xs) (.agg ys)) := zha _ _ _ _ _
theorem zqa (a b : List UInt8) (xs ys : List AV) : ze1 (.agg (.str a :: xs)) (.agg (.str b :: ys)) = (b = a /\ za8 (.agg xs) (.agg ys)) := zh9 _ _ _ _
theorem zqc (a b : Bool) (xs ys : List AV) : ze1 (.agg (.bool a :: xs)) (.agg (.bool b :: ys)) = (b = a /\ za8 (.agg xs) (.agg ys)) := zhb _ _ _ _
theorem zwk {h : Array Obj} {D : Nat -> Prop} {μ : Mu} {l : List UInt8} {v : Value} (r : R h D μ (.str l) v) : v = .string ⟨l.toArray⟩ := by
 obtain ⟨s, rfl, rfl⟩ := r.inv_str
 simp
theorem zyd (h : Array Obj) (D : Nat -> Prop) (μ : Mu) (l : List UInt8) : R h D μ (.str l) (.string ⟨l.toArray⟩) := .str l _ (by simp)
theorem zl5 {P : Program} {f : FuncId} {fn : Func} {c : Code} {xs : List AV} {args : Array Value} {v : Value} {r : AV} (hf : P.funcs[f]? = some fn) (hb : fn.body = some c) (hn : (fn.name == "runtime.NumGoroutine") = false)
   (ha : ∀ h D vs, RL h D zat xs vs -> vs = args) (hv : ∀ h D, R h D zat r v) (h : ∀ w, Calls P f args w fun e w' => e = .returned v /\ Below w.heap.size w w') : zdg P f xs r := by
 intro D w vs hD hxs hg
 have := ha _ _ _ hxs
 subst this
 unfold ze3
 rw [zc4 hf hn hb]
 refine (h w).mono ?_
 rintro e w' ⟨rfl, hw⟩
 exact ⟨v, D, rfl, hw, fun _ h => h, fun b hb => .inl hb, hv _ _⟩
def zxq (x : AV) (v : Value) : Prop := ∀ h D u, R h D zat x u -> u = v
theorem zog (l : List UInt8) : zxq (.str l) (.string ⟨l.toArray⟩) := fun _ _ _ r => zwk r
theorem zzh {x : AV} {v : Value} (hx : zxq x v) : ∀ h D vs, RL h D zat [x] vs -> vs = #[v] := by
 intro h D vs ⟨hl, hr⟩
 obtain ⟨a, ha⟩ : ∃ a, vs.toList = [a] := List.length_eq_one_iff.1 (by simpa using hl.symm)
 have : vs = #[a] := by rw [<- Array.toArray_toList (xs := vs), ha]
 subst this
 rw [hx _ _ a (hr 0 x a rfl rfl)]
abbrev zeb := Nat × (List AV -> Option (Prop × AV))
abbrev zgn := Nat × zzm
def zxz (l : List zeb) : FuncId -> List AV -> Option (Prop × AV) := fun f xs => match za1 l f with | some g => g xs | none => none
def zdh (l : List zeb) : zif := ⟨zxz l, fun _ => none⟩
def zbq (l : List zeb) (lm : List zgn) : zif := ⟨zxz l, za1 lm⟩
def zgl (P : Program) (e : zeb) : Prop := ∀ xs p r, e.2 xs = some (p, r) -> p -> zdg P e.1 xs r
def ztb (P : Program) : List zeb -> Prop
 | [] => True
 | e :: l => zgl P e /\ ztb P l
def zdi (P : Program) (e : zgn) : Prop := ∀ raw ob T, e.2 raw ob = some T -> T.p -> zba P e.1 T.xs T.O T.r T.O1
def zrj (P : Program) : List zgn -> Prop
 | [] => True
 | e :: l => zdi P e /\ zrj P l
theorem zko {P : Program} : ∀ {l : List zeb}, ztb P l -> ∀ f xs p r, zxz l f xs = some (p, r) -> p -> zdg P f xs r
 | [], _, f, xs, p, r, h => by cases h
 | (n, g) :: l, ⟨hg, hl⟩, f, xs, p, r, h => by
   unfold zxz za1 at h
   by_cases e : n = f
   · subst e
     rw [za3] at h
     exact hg xs p r h
   · rw [za6 e] at h
     exact zko hl f xs p r h
theorem zpm {P : Program} : ∀ {l : List zgn}, zrj P l -> ∀ f m, za1 l f = some m -> ∀ raw ob T, m raw ob = some T -> T.p -> zba P f T.xs T.O T.r T.O1
 | [], _, f, m, h => by cases h
 | (n, g) :: l, ⟨hg, hl⟩, f, m, h => by
   unfold za1 at h
   by_cases e : n = f
   · subst e
     rw [za3] at h
     cases h
     exact hg
   · rw [za6 e] at h
     exact zpm hl f m h
theorem zau {P : Program} {l : List zeb} (h : ztb P l) : zcj P (zdh l) := ⟨zko h, fun f m h => by cases h⟩
theorem zac {P : Program} {l : List zeb} {lm : List zgn} (h : ztb P l) (hm : zrj P lm) : zcj P (zbq l lm) := ⟨zko h, zpm hm⟩
theorem law_of_ac {P : Program} {f : FuncId} {fn : Func} {c : Code} {xs : List AV} {vs : Array Value} (hf : P.funcs[f]? = some fn) (hb : fn.body = some c) (hn : (fn.name == "runtime.NumGoroutine") = false)
   (h : zdg P f xs (.bool true)) (D : Nat -> Prop) (w : World) (hD : ∀ b, D b -> b < w.heap.size) (hr : RL w.heap D zat xs vs) (hg : GOk w := by trivial) : Calls P f vs w fun e w' => e = .returned (.bool true) /\ Below w.heap.size w w' := by
 have h := h D w vs hD hr hg
 unfold ze3 at h
 rw [zc4 hf hn hb] at h
 refine h.mono ?_
 rintro e w' ⟨v, D', rfl, hw, _, _, r⟩
 cases r
 exact ⟨rfl, hw⟩
theorem rl_nil {h : Array Obj} {D : Nat -> Prop} : RL h D zat [] #[] := ⟨rfl, fun i x v h => by simp at h⟩
theorem zyn (q : Nat) (k : IntKind) (v : Int) (f : Nat -> Int) (i j : Nat) (h : j < 1) : over std q 0 1 [.int k v] (fun i _ => .int k (f i)) i j = .int k (if i = q then v else f i) := by
 rw [zlf, if_pos (by omega)]
 have h0 : j = 0 := by omega
 subst h0
 by_cases e : i = q
 · subst e; simp [zfr, zbs, L3, std, za3]
 · simp [za6 e, zfr, zbs, L3, std, e]
set_option linter.defProp false in
def sySet := And.intro @zfb (And.intro @zq7 (And.intro @zz0 (And.intro @zz1 (And.intro @zz2 (And.intro @zz3 (And.intro @zyw (And.intro @zyx (And.intro @zyh (And.intro @zyi (And.intro @zq4 (And.intro @zyy (And.intro @zyz (And.intro @ztn (And.intro @zs9 (And.intro @zvk (And.intro @zjc (And.intro @zt5 (And.intro @zt3 (And.intro @znt (And.intro @zqh (And.intro @zqg (And.intro @zt2 (And.intro @zns (And.intro @zqe (And.intro @zud (And.intro @zug (And.intro @zu8 (And.intro @zue (And.intro @zur (And.intro @zv5 (And.intro @zv6 (And.intro @Bool.not_eq_true' (And.intro @Bool.not_eq_false' (And.intro @Bool.and_eq_true (And.intro @Bool.and_eq_false_imp (And.intro @Bool.or_eq_true (And.intro @Bool.or_eq_false_iff (And.intro @Bool.not_true (And.intro @Bool.not_false (And.intro @zig (And.intro @zy9 (And.intro @zy6 (And.intro @zy7 (And.intro @zy8 (And.intro @w_u8 (And.intro @Int.zero_add (And.intro @zux (And.intro @zt7 (And.intro @zys (And.intro @znw (And.intro @zha (And.intro @zh9 (And.intro @zhb (And.intro @zqd (And.intro @zqb (And.intro @zqa (And.intro @zqc (And.intro @zjd (And.intro @zt4 (And.intro @zh8 (And.intro @zq9 (And.intro @znv (And.intro @znu (And.intro @zje @zt6))))))))))))))))))))))))))))))))))))))))))))))))))))))))))))))))
set_option linter.defProp false in
def syB := And.intro @Decidable.not_not (And.intro @true_and (And.intro @and_true (And.intro @decide_eq_true_eq (And.intro @decide_eq_false_iff_not (And.intro @imp_false (And.intro not_false_eq_true (And.intro not_true_eq_false (And.intro @false_imp_iff (And.intro @true_imp_iff (And.intro @forall_const.{0} (And.intro @forall_const.{1} (And.intro @implies_true.{0} (And.intro @implies_true.{1} (And.intro @ne_eq.{1} (And.intro @Int.cast_ofNat_Int (And.intro @Int.toNat_natCast (And.intro @Nat.succ_eq_add_one (And.intro @Nat.le_eq (And.intro @Nat.sub_eq (And.intro @zl6.eq_1 (And.intro @zy3.eq_1 (@wmul.eq_1))))))))))))))))))))))
set_option linter.defProp false in
def syS := And.intro sySet syB
end Sy
end Go.Proofs.Ytlphgephdhadhaa
namespace Go.Proofs.Ytlphgephdhadhaa
namespace Sy
open Go Go.RowKit
set_option linter.unusedSimpArgs false
set_option linter.unusedVariables false
set_option linter.unusedSectionVars false
def zym : List (Nat × Ob) -> List Nat
 | [] => []
 | (n, _) :: r => match zdc n with | true => n :: zym r | false => zym r
def zhf : List (Nat × Ob) -> Bool
 | [] => true
 | (n, _) :: r => match zdc n with | true => zhf r | false => false
def zkm (L : zah) (ice : List Nat) : Nat -> List AV -> List (Nat × Ob) -> Option (List AV × List (Nat × Ob))
 | _, [], O => some ([], O)
 | d, .slc id sz off n cap :: r, O => match za1 O id, zb2 ice id, za1 O d, zdc d with
   | some (.row ty sz' _ get), false, none, false => match cond (zb6 0 sz) (za9 sz sz') false with
     | true => match zkm L ice (d + 1) r ((d, .row ty sz (L2 L Nat.add off n) get) :: (id, .gone) :: O) with
       | some (vs, O') => some (.sl d sz off n :: vs, O')
       | none => none
     | false => none
   | _, _, _, _ => none
 | d, v :: r, O => match zkm L ice d r O with
   | some (vs, O') => some (v :: vs, O')
   | none => none
section
variable (T : TT) (L : zah) (S : zif) (lo lb : Nat -> St -> Option Ann)
def zxg (rts : List AV) (O1 : List (Nat × Ob)) (rs : List ResultVar) (s : St) : zb9 :=
 match zp9 T s rs with
 | some vs => match za9 (zc6 vs) (zc6 rts) with
   | true => match zkm L s.ice 600010 vs s.objs with
     | some (vs, O) => zni ⟨zne 0 vs, O, s.ice, []⟩ ⟨zne 0 rts, O1, [], []⟩ (zym O1) .yes
     | none => .fail 265
   | false => .fail 263
 | none => .fail 264
def finM (rts : List AV) (O1 : List (Nat × Ob)) (rs : List ResultVar) : K := fun e s => match e with
 | .normal => zxg T L rts O1 rs s
 | .ret => zxg T L rts O1 rs s
 | _ => .fail 262
def zyk (n : Nat) (f : Func) (xs : List AV) (O : List (Nat × Ob)) (rts : List AV) (O1 : List (Nat × Ob)) : zb9 :=
 match f.body with
 | some c => run T L S lo (zgw lb (pass T L S lo lb n)) noL c ⟨zne 0 xs, O, [], []⟩ (finM T L rts O1 f.results.toList)
 | none => .fail 270
end
def zpa : List AV -> AV
 | [r] => r
 | rs => .tup rs
theorem zhe : ∀ {O : List (Nat × Ob)}, zhf O = true -> ∀ n, za1 O n ≠ none -> zdc n = true
 | [], _, n, h => by simp [za1] at h
 | (m, o) :: r, e, n, h => by
   unfold zhf at e
   unfold za1 at h
   split at e
   · rename_i hp
     split at h
     · rename_i hb; rw [<- za2 hb]; exact hp
     · exact zhe e n h
   · cases e
section
variable {P : Program} {T : TT} {base : Nat} {M : Two} {W : World} {nt : Nat} {f : Nat -> Option AV} {g : Nat -> Option Ob} {c : Nat -> Bool} {a : Act} {w : World} {D : Nat -> Prop} {μ : Mu} {o : Oper}
theorem Sim.rename (h : Sim base M W nt f g c a w D μ) {d id b z m k ty sz : Nat} {get get' : Nat -> Nat -> AV} (hp : zdc d = false) (hd : g d = none) (hμ : μ id = some (some (b, z, m))) (hg : g id = some (.row ty sz m get)) (hc : c id = false)
   (hz : k * sz <= z) (hs : 0 < sz) (hget : ∀ i j, i < k -> j < sz -> (i < m /\ get' i j = get i j) \/ get' i j = .dead) :
   Sim base M W nt f (zaf g [(d, .row ty sz k get'), (id, .gone)]) c a w D (fun i => if i = d then some (some (b, z, k)) else μ i) := by
 have hdid : d ≠ id := by rintro rfl; rw [hd] at hg; cases hg
 obtain ⟨_, C, tt, fr, hh, hcs, hf, hle, hrow⟩ := h.obs id _ _ hg hμ
 obtain ⟨hblt, hbb⟩ := h.own id b _ hμ
 have hnD := (h.kd id b _ _ hμ hg (by simp)).2 hc
 have hfree : ∀ i o2 z2, μ i = some (some (b, z2)) -> zaf g [(id, .gone)] i = some o2 -> o2 = .gone := by
   intro i o2 z2 k1 k2
   by_cases k3 : id = i
   · subst k3
     simp [zaf, za1, za3] at k2
     exact k2.symm
   · simp [zaf, za1, za6 k3] at k2
     by_cases k4 : o2 = .gone
     · exact k4
     · exact absurd (h.inj id i b _ z2 _ o2 hμ k1 hg k2 (by simp) k4) k3
 have hgone := h.gone hg
 have hd2 : zaf g [(id, .gone)] d = none := by simp [zaf, za1, za6 (fun x => hdid x.symm : ¬ id = d), hd]
 have had := hgone.adopt (d := d) hp hd2 (b := b) (z := z) (m := k) hblt hbb hnD hfree (ob := .row ty sz k get') (by simp) C (fun hD => by
   rw [setRow_self w b C tt fr hh]
   refine ⟨rfl, C, tt, fr, hh, hcs, hf, hz, fun i j hi hj => ?_⟩
   have hlt : i * sz + j < C.size := by
     have h3 : (i + 1) * sz <= k * sz := Nat.mul_le_mul_right _ hi
     rw [Nat.add_mul] at h3
     omega
   rcases hget i j hi hj with ⟨him, e⟩ | e
   · rw [e]; exact hrow i j him hj
   · rw [e]
     exact ⟨_, getD_some hlt, hf.2.2.1 _ _ (getD_some hlt), .dead _⟩)
 rw [setRow_self w b C tt fr hh] at had
 have e2 : zaf (zaf g [(id, .gone)]) [(d, .row ty sz k get')] = zaf g [(d, .row ty sz k get'), (id, .gone)] := by
   funext q
   simp only [zaf, za1]
   by_cases k1 : d = q
   · subst k1; simp [za3]
   · by_cases k2 : id = q
     · subst k2; simp [za3, za6 hdid]
     · simp [za6 k1, za6 k2]
 rw [e2] at had
 exact had
theorem Sim.renameNil (h : Sim base M W nt f g c a w D μ) {d id m ty sz : Nat} {get get' : Nat -> Nat -> AV} (hp : zdc d = false) (hd : g d = none) (hμ : μ id = some none) (hg : g id = some (.row ty sz m get)) :
   Sim base M W nt f (zaf g [(d, .row ty sz 0 get'), (id, .gone)]) c a w D (fun i => if i = d then some none else μ i) := by
 have hdid : d ≠ id := by rintro rfl; rw [hd] at hg; cases hg
 have hgone := h.gone hg
 have hd2 : zaf g [(id, .gone)] d = none := by simp [zaf, za1, za6 (fun x => hdid x.symm : ¬ id = d), hd]
 have had := hgone.newNil (d := d) hp hd2 ty sz get'
 have e2 : zaf (zaf g [(id, .gone)]) [(d, .row ty sz 0 get')] = zaf g [(d, .row ty sz 0 get'), (id, .gone)] := by
   funext q
   simp only [zaf, za1]
   by_cases k1 : d = q
   · subst k1; simp [za3]
   · by_cases k2 : id = q
     · subst k2; simp [za3, za6 hdid]
     · simp [za6 k1, za6 k2]
 rw [e2] at had
 exact had
theorem zql {d : Nat} {y : Option (Nat × Nat × Nat)} (hd : μ d = none) : ∀ i x, μ i = some x -> (if i = d then some y else μ i) = some x := by
 intro i x hx
 have : i ≠ d := by rintro rfl; rw [hd] at hx; cases hx
 rw [if_neg this, hx]
theorem zzi (O : List (Nat × Ob)) (p : Nat × Ob) (q : Nat × Ob) : za1 (p :: q :: O) = zaf (za1 O) [p, q] := by
 funext i
 obtain ⟨p, x⟩ := p
 obtain ⟨q, y⟩ := q
 simp only [zaf, za1]
 cases za9 p i with
 | true => rfl
 | false => cases za9 q i <;> rfl
theorem zz5 (h : Sim base M W nt f g c a w D μ) {d id ty sz m off n cap : Nat} {get : Nat -> Nat -> AV} {v : Value} (hp : zdc d = false) (hd : g d = none) (hg : g id = some (.row ty sz m get)) (hc : c id = false) (hs : 0 < sz) (r : R w.heap D μ (.slc id sz off n cap) v) :
   ∃ μ', Sim base M W nt f (zaf g [(d, .row ty sz (off + n) get), (id, .gone)]) c a w D μ' /\ (∀ i y, μ i = some y -> μ' i = some y) /\ R w.heap D μ' (.sl d sz off n) v := by
 have hmd : μ d = none := (h.dom d).2 hd
 cases r with
 | slcv _ _ ad hm =>
   exact ⟨_, h.renameNil hp hd hm hg, zql hmd, .slv _ _ _ (by simp)⟩
 | slc0 _ _ _ b z mm o hm ho =>
   have hmm := (h.obs id _ _ hg hm).1
   subst hmm
   obtain ⟨_, C, tt, fr, hh, hcs, hf, hle, hrow⟩ := h.obs id _ _ hg hm
   exact ⟨_, h.rename (k := off + 0) (get' := get) hp hd hm hg hc (Nat.le_trans (Nat.mul_le_mul_right _ ho) hle) hs (fun i j hi hj => .inl ⟨by omega, rfl⟩), zql hmd, .sl0 _ _ _ b z off o (by simp) (by omega)⟩
 | slc _ _ _ _ _ b z mm hm hn hz ho =>
   have hmm := (h.obs id _ _ hg hm).1
   subst hmm
   exact ⟨_, h.rename (k := off + n) (get' := get) hp hd hm hg hc (Nat.le_trans (Nat.mul_le_mul_right _ (by omega)) hz) hs (fun i j hi hj => .inl ⟨by omega, rfl⟩), zql hmd, .sl _ _ _ _ b z (off + n) cap (by simp) hn hz (by omega)⟩
theorem zi6 {ice : List Nat} : ∀ (vs : List AV) (d : Nat) (O : List (Nat × Ob)) (vs' : List AV) (O' : List (Nat × Ob)) (us : Nat -> Value) {μ : Mu}, zkm std ice d vs O = some (vs', O') -> Sim base M W nt f (za1 O) (zb2 ice) a w D μ -> (∀ t v, vs[t]? = some v -> R w.heap D μ v (us t)) ->
   ∃ μ', Sim base M W nt f (za1 O') (zb2 ice) a w D μ' /\ vs'.length = vs.length /\ (∀ i y, μ i = some y -> μ' i = some y) /\ ∀ t v, vs'[t]? = some v -> R w.heap D μ' v (us t)
 | [], d, O, vs', O', us, μ, e, h, hr => by cases e; exact ⟨μ, h, rfl, fun _ _ h => h, hr⟩
 | x :: r, d, O, vs', O', us, μ, e, h, hr => by
   have plain : ∀ vs1, zkm std ice d r O = some (vs1, O') -> vs' = x :: vs1 -> ∃ μ', Sim base M W nt f (za1 O') (zb2 ice) a w D μ' /\ vs'.length = (x :: r).length /\ (∀ i y, μ i = some y -> μ' i = some y) /\ ∀ t v, vs'[t]? = some v -> R w.heap D μ' v (us t) := by
     rintro vs1 e1 rfl
     obtain ⟨μ2, k1, k2, k3, k4⟩ := zi6 r d O vs1 O' (fun t => us (t + 1)) e1 h (fun t v hv => hr (t + 1) v hv)
     refine ⟨μ2, k1, by simp [k2], k3, fun t v hv => ?_⟩
     cases t with
     | zero => cases hv; exact (hr 0 _ rfl).mono (fun _ _ => rfl) (fun _ h => h) k3
     | succ t => exact k4 t v hv
   by_cases hx : ∃ id sz off n cap, x = .slc id sz off n cap
   · obtain ⟨id, sz, off, n, cap, rfl⟩ := hx
     simp only [zkm] at e
     split at e
     · rename_i ty sz' m get hg hc hd hp
       split at e
       · rename_i hsz
         have hs : zb6 0 sz = true := by cases hq : zb6 0 sz <;> simp_all
         rw [hs] at hsz
         obtain rfl := za2 hsz
         split at e
         · rename_i vs1 O1 e1
           cases e
           obtain ⟨μ1, h1, h2, h3⟩ := zz5 h hp hd hg hc (zbv hs) (hr 0 _ rfl)
           rw [<- zzi] at h1
           obtain ⟨μ2, k1, k2, k3, k4⟩ := zi6 r (d + 1) _ vs1 _ (fun t => us (t + 1)) e1 h1 (fun t v hv => (hr (t + 1) v hv).mono (fun _ _ => rfl) (fun _ h => h) h2)
           refine ⟨μ2, k1, by simp [k2], fun i y hy => k3 i y (h2 i y hy), fun t v hv => ?_⟩
           cases t with
           | zero => cases hv; exact h3.mono (fun _ _ => rfl) (fun _ h => h) k3
           | succ t => exact k4 t v hv
         · cases e
       · cases e
     · cases e
   · have e' : (match zkm std ice d r O with | some (vs, O') => some (x :: vs, O') | none => none) = some (vs', O') := by
       cases x <;> first | exact e | exact absurd ⟨_, _, _, _, _, rfl⟩ hx
     split at e'
     · rename_i vs1 O1 e1
       cases e'
       exact plain vs1 e1 rfl
     · cases e'
end
theorem znk {P : Program} {T : TT} {Q : AV -> Prop} {fn : Func} {O O1 : List (Nat × Ob)} {rts : List AV} {D : Nat -> Prop} {w : World} {μ : Mu} (hT : zb3 P T) (hD : ∀ b, D b -> b < w.heap.size) (hdom : ∀ n, μ n = none ↔ za1 O n = none)
   (hown : ∀ n b z, μ n = some (some (b, z)) -> b < w.heap.size /\ ¬ D b) (hrb : fn.results.size <= 500000) (hpin : zhf O = true) {nt : Nat} {s : St} {a : Act} {w' : World} {D1 : Nat -> Prop} {μ1 : Mu}
   (S1 : Sim w.heap.size ⟨fun b => ∃ n z, μ n = some (some (b, z)), D, fun n => (μ n).getD none⟩ w nt (za1 s.slots) (za1 s.objs) (zb2 s.ice) a w' D1 μ1)
   (h' : Sat P Q (zxg T std rts O1 fn.results.toList s)) : a.defers = [] /\ ∃ v, (results fn a.tmps).run P w' = .ok v w' /\ ∃ v' D' μ', zw3 D w μ O O1 (zpa rts) (Ending.returned v) v' w' D' μ' := by
 unfold zxg at h'
 split at h'
 · rename_i vs1 hvs
   split at h'
   · rename_i hlen
     have hlen := za2 hlen
     rw [za4, za4] at hlen
     obtain ⟨l1, us, h1, h2⟩ := zk4 S1 hT hvs
     split at h'
     rotate_left
     · cases h'
     rename_i vs2 O2 hhide
     obtain ⟨μ3, S3, l3, _, h4⟩ := zi6 vs1 600010 s.objs vs2 O2 us hhide S1 h2
     have l1 : vs2.length = fn.results.toList.length := l3.trans l1
     have hlen : vs2.length = rts.length := l3.trans hlen
     clear h2
     have h2 := h4
     have hres := zft (P := P) (w := w') (fn := fn) (tmps := a.tmps) h1
     have hk : vs2.length = fn.results.size := by rw [l1, Array.length_toList]
     have hut : ∀ t, t < fn.results.size -> (((List.range fn.results.size).map us).toArray).getD t undef = us t := by
       intro t ht
       rw [Array.getD_eq_getD_getElem?]
       simp [ht]
     have hs1 : zgk w.heap.size ⟨fun b => ∃ n z, μ n = some (some (b, z)), D, fun n => (μ n).getD none⟩ w fn.results.size ⟨zne 0 vs2, O2, s.ice, []⟩ ⟨((List.range fn.results.size).map us).toArray, []⟩ w' :=
       ⟨⟨D1, μ3, {
         os := S1.os, tape := S1.tape, output := S1.output, size := S1.size, bs := S1.bs, old := S1.old, defers := rfl
         tmps := by simp
         slots := fun t v hv => by
           have hv : za1 (zne 0 vs2) t = some v := hv
           rw [zd2, if_pos (by omega), Nat.sub_zero] at hv
           have ht := (List.getElem?_eq_some_iff.1 hv).1
           rw [hut t (by omega)]
           exact h2 t v hv
         dlt := S3.dlt, low := S3.low, dom := S3.dom, obs := S3.obs, inj := S3.inj, own := S3.own, kd := S3.kd, icy := S3.icy, ntb := hrb, pin := S3.pin, gl := S3.gl }⟩, fun t b ht => by simp [za1] at ht⟩
     obtain ⟨⟨⟨D2, μ2, S2⟩, _⟩, _⟩ := zpr hs1 h' rfl
     refine ⟨S1.defers, _, hres, (if fn.results.size = 1 then us 0 else .tuple ((List.range fn.results.size).map us).toArray), fun b => D b \/ D2 b, μ2, ?_⟩
     exact {
       ret := rfl, os := S2.os, tape := S2.tape, output := S2.output, size := S2.size
       old := fun b h1 h2 => S2.old b h1 fun ⟨n, z, hn⟩ => h2 n z hn
       up := fun b hb => .inl hb
       dn := fun b hb => by
         rcases hb with hb | hb
         · exact .inl hb
         · by_cases hlt : b < w.heap.size
           · rcases S2.low b hb hlt with q | q
             · exact .inl q
             · exact .inr (.inr q)
           · exact .inr (.inl ⟨by omega, S2.dlt b hb⟩)
       dom := S2.dom
       obs := fun n o x ho hx => (S2.obs n o x ho hx).mono (fun _ _ => rfl) (fun _ h => .inr h) (fun _ _ h => h) (fun _ _ _ _ => rfl)
       inj := fun n n' b z z' h1 h2 => by
         have g1 : za1 O1 n ≠ none := fun e => by rw [(S2.dom n).2 e] at h1; cases h1
         have g2 : za1 O1 n' ≠ none := fun e => by rw [(S2.dom n').2 e] at h2; cases h2
         obtain ⟨o1, q1⟩ := Option.ne_none_iff_exists'.1 g1
         obtain ⟨o2, q2⟩ := Option.ne_none_iff_exists'.1 g2
         exact S2.inj n n' b z z' o1 o2 h1 h2 q1 q2 (zg0 hs1 h' n o1 q1) (zg0 hs1 h' n' o2 q2)
       own := fun n b z h1 => by
         have g1 : za1 O1 n ≠ none := fun e => by rw [(S2.dom n).2 e] at h1; cases h1
         obtain ⟨o1, q1⟩ := Option.ne_none_iff_exists'.1 g1
         have k := (S2.kd n b z o1 h1 q1 (zg0 hs1 h' n o1 q1)).2 rfl
         obtain ⟨p1, p2⟩ := S2.own n b z h1
         refine ⟨p1, ?_, ?_⟩
         · rintro (hb | hb)
           · rcases p2 with p2 | ⟨m, z2, p2⟩
             · have := hD b hb; omega
             · exact (hown m b z2 p2).2 hb
           · exact k hb
         · rcases p2 with p2 | ⟨m, z2, p2⟩
           · exact .inl p2
           · exact .inr ⟨m, z2, p2⟩
       keep := fun n hn hn1 => by
         obtain ⟨y, hy⟩ := Option.ne_none_iff_exists'.1 (fun e => hn1 ((S2.dom n).1 e) : μ2 n ≠ none)
         have := S2.pin n y (zhe hpin n hn) hy
         have h3 : μ n ≠ none := fun e => hn ((hdom n).1 e)
         obtain ⟨y0, hy0⟩ := Option.ne_none_iff_exists'.1 h3
         have h4 : y = (μ n).getD none := this
         rw [hy0] at h4
         rw [hy, hy0, h4]; rfl
       val := by
         have each : ∀ (i : Nat) r, rts[i]? = some r -> R w'.heap (fun b => D b \/ D2 b) μ2 r (us i) := by
           intro i r hr
           have hlt : i < fn.results.size := by
             have := (List.getElem?_eq_some_iff.1 hr).1
             omega
           have := S2.slots i r (by show za1 (zne 0 rts) i = some r; rw [zd2, if_pos (by omega), Nat.sub_zero]; exact hr)
           have h3 := hut i hlt
           have this : R w'.heap D2 μ2 r ((((List.range fn.results.size).map us).toArray).getD i undef) := this
           rw [h3] at this
           exact this.mono (fun _ _ => rfl) (fun _ h => .inr h) (fun _ _ h => h)
         unfold zpa
         split
         · rename_i r
           have hsz : fn.results.size = 1 := by rw [<- hk, hlen]; rfl
           rw [if_pos hsz]
           exact each 0 _ rfl
         · rename_i hne
           have hsz : ¬ fn.results.size = 1 := by
             rw [<- hk, hlen]
             intro h1
             obtain ⟨v, hv⟩ := List.length_eq_one_iff.1 h1
             exact hne v hv
           rw [if_neg hsz]
           refine .tup _ _ (by simp; omega) fun i v x hv hx => ?_
           have hlt : i < fn.results.size := by
             have := (List.getElem?_eq_some_iff.1 hv).1
             omega
           simp [hlt] at hx
           subst hx
           exact each i v hv }
   · cases h'
 · cases h'
theorem zpt {P : Program} {T : TT} {S : zif} {lo lb : Nat -> St -> Option Ann} {n : Nat} {f : FuncId} {fn : Func} {c : Code} {xs : List AV} {O : List (Nat × Ob)} {rts : List AV} {O1 : List (Nat × Ob)} (hf : P.funcs[f]? = some fn) (hb : fn.body = some c) (hn : (fn.name == "runtime.NumGoroutine") = false)
   (hc : zb8 fn.ntmps c = true) (hx : (zb5 xs.length fn.ntmps && zb5 fn.ntmps 500000 && zb5 fn.results.size 500000 && zhf O) = true) (hT : zb3 P T) (hS : zcj P S) (hm : P.follows .mixedOrders = true) {Q : AV -> Prop} (h : Sat P Q (zyk T std S lo lb n fn xs O rts O1)) : zba P f xs O (zpa rts) O1 := by
 intro D w μ vs hD hxs hdom hobs hinj hown hg hgb
 rw [Bool.and_eq_true, Bool.and_eq_true, Bool.and_eq_true] at hx
 obtain ⟨⟨⟨hx, hnb⟩, hrb⟩, hpin⟩ := hx
 have hx := zaw hx
 have hnb := zaw hnb
 have hrb := zaw hrb
 unfold ze3
 rw [zc4 hf hn hb]
 simp only
 refine calls_of_wp hf hb ?_
 unfold zyk at h
 rw [hb] at h
 refine zqp (base := w.heap.size) (M := ⟨fun b => ∃ n z, μ n = some (some (b, z)), D, fun n => (μ n).getD none⟩) (W := w) hT hS hm hc ⟨⟨D, μ, ?_⟩, fun t b ht => by simp [za1] at ht⟩ h (fun e s a w' hs h' => ?_)
 · exact {
     os := rfl, tape := rfl, output := rfl, size := Nat.le_refl _, bs := Nat.le_refl _, old := fun _ _ _ => rfl, defers := rfl
     tmps := by
       rw [hxs.1] at hx
       simp; omega
     slots := fun t v hv => by
       have hv : za1 (zne 0 xs) t = some v := hv
       rw [zd2, if_pos (by omega), Nat.sub_zero] at hv
       have hlt : t < vs.size := by rw [<- hxs.1]; exact (List.getElem?_eq_some_iff.1 hv).1
       have h1 : vs[t]? = some vs[t] := by simp [hlt]
       have h2 : (vs ++ Array.replicate (fn.ntmps - vs.size) undef).getD t undef = vs[t] := by
         rw [Array.getD_eq_getD_getElem?, Array.getElem?_append_left hlt, h1]; rfl
       rw [h2]
       exact hxs.2 t v vs[t] hv h1
     dlt := hD, low := fun b hb _ => .inl hb, dom := hdom, obs := hobs
     inj := fun id id' b z z' o o' h1 h2 _ _ _ _ => hinj id id' b z z' h1 h2
     own := fun id b z h1 => ⟨(hown id b z h1).1, .inr ⟨id, z, h1⟩⟩
     kd := fun id b z o h1 _ _ => ⟨fun hx => by simp [zb2] at hx, fun _ => (hown id b z h1).2⟩
     icy := fun id h => by simp [zb2] at h
     ntb := hnb
     pin := fun id y _ hy => by show y = (μ id).getD none; rw [hy]; rfl
     gl := ⟨hg, zmh hg, fun b ⟨n, z, hn⟩ => hgb n b z hn⟩ }
 · obtain ⟨⟨D1, μ1, S1⟩, _⟩ := hs
   have key : Sat P Q (zxg T std rts O1 fn.results.toList s) -> a.defers = [] /\ ∃ v, (results fn a.tmps).run P w' = .ok v w' /\ ∃ v' D' μ', zw3 D w μ O O1 (zpa rts) (Ending.returned v) v' w' D' μ' := fun h' => znk hT hD hdom hown hrb hpin S1 h'
   cases e with
   | normal => exact key h'
   | ret => exact key h'
   | exit id => cases h'
   | goto l => cases h'
end Sy
end Go.Proofs.Ytlphgephdhadhaa
namespace Go.Proofs.Ytlphgephdhadhaa
namespace Sy
open Go Go.RowKit
set_option maxRecDepth 100000
set_option linter.unusedSimpArgs false
section
variable {P : Program} {Q : AV -> Prop}
theorem zs5 {b : Bool} {k : zb9} : Sat P Q (.need b k) ↔ b = true /\ Sat P Q k := ⟨fun h => by cases h with | need h hk => exact ⟨h, hk⟩, fun h => .need h.1 h.2⟩
theorem zs6 {p : Prop} {k : zb9} : Sat P Q (.must p k) ↔ p /\ Sat P Q k := ⟨fun h => by cases h with | must h hk => exact ⟨h, hk⟩, fun h => .must h.1 h.2⟩
theorem zuk {b : Bool} {t e : zb9} : Sat P Q (.ite b t e) ↔ (b = true -> Sat P Q t) /\ (b = false -> Sat P Q e) := ⟨fun h => by cases h with | ite h hk => exact ⟨h, hk⟩, fun h => .ite h.1 h.2⟩
theorem zs8 {r : AV} : Sat P Q (.done r) ↔ Q r := ⟨fun h => by cases h with | done h => exact h, fun h => .done h⟩
theorem zui : Sat P Q .yes ↔ True := ⟨fun _ => trivial, fun _ => .yes⟩
theorem zwo {X : Type} {f : X -> zb9} : Sat P Q (.ex X f) ↔ ∃ x, Sat P Q (f x) := ⟨fun h => by cases h with | ex x h => exact ⟨x, h⟩, fun ⟨x, h⟩ => .ex x h⟩
theorem zum {X : Type} {f : X -> zb9} : Sat P Q (.all X f) ↔ ∀ x, Sat P Q (f x) := ⟨fun h => by cases h with | all h => exact h, fun h => .all h⟩
theorem zuj {p : Prop} {k : zb9} : Sat P Q (.sup p k) ↔ (p -> Sat P Q k) := ⟨fun h => by cases h with | sup h => exact h, fun h => .sup h⟩
theorem zul {a b : zb9} : Sat P Q (.and a b) ↔ Sat P Q a /\ Sat P Q b := ⟨fun h => by cases h with | and h hk => exact ⟨h, hk⟩, fun h => .and h.1 h.2⟩
theorem zs7 {n : Nat} : Sat P Q (.fail n) ↔ False := ⟨fun h => (by cases h), fun h => h.elim⟩
set_option linter.defProp false in
def syT := And.intro @zs5 (And.intro @zs6 (And.intro @zuk (And.intro @zs8 (And.intro @zui (And.intro @zwo (And.intro @zum (And.intro @zuj (And.intro @zul (@zs7)))))))))
end
theorem zal {P : Program} {T : TT} {S : zah -> zif} {lo lb : zah -> Nat -> St -> Option Ann} (n : Nat) {f : FuncId} {fn : Func} {c : Code} {xs : List AV} {r : AV} (hf : P.funcs[f]? = some fn) (hb : fn.body = some c) (hn : (fn.name == "runtime.NumGoroutine") = false)
   (hc : zb8 fn.ntmps c = true) (hx : (zb5 xs.length fn.ntmps && zb5 fn.ntmps 500000) = true) (hT : zb3 P T) (hS : zcj P (S std)) (hm : P.follows .mixedOrders = true)
   (h : ∀ (L : zah) (P' : Program) (Q' : AV -> Prop), @L = @std -> P' = P -> Q' = ze1 r -> Sat P' Q' (zyl T L (S L) (lo L) (lb L) n fn xs)) : zdg P f xs r :=
 zrf (lo := lo std) (lb := lb std) hf hb hn hc hx hT hS hm (h std _ _ rfl rfl rfl)
theorem zav {P : Program} {T : TT} {S : zah -> zif} {lo lb : zah -> Nat -> St -> Option Ann} (n : Nat) {f : FuncId} {fn : Func} {c : Code} {xs rts : zah -> List AV} {O O1 : zah -> List (Nat × Ob)} (hf : P.funcs[f]? = some fn) (hb : fn.body = some c) (hn : (fn.name == "runtime.NumGoroutine") = false)
   (hc : zb8 fn.ntmps c = true) (hx : (zb5 (xs std).length fn.ntmps && zb5 fn.ntmps 500000 && zb5 fn.results.size 500000 && zhf (O std)) = true) (hT : zb3 P T) (hS : zcj P (S std)) (hm : P.follows .mixedOrders = true)
   (h : ∀ (L : zah) (P' : Program) (Q' : AV -> Prop), @L = @std -> P' = P -> Q' = (fun _ => True) -> Sat P' Q' (zyk T L (S L) (lo L) (lb L) n fn (xs L) (O L) (rts L) (O1 L))) : zba P f (xs std) (O std) (zpa (rts std)) (O1 std) :=
 zpt (lo := lo std) (lb := lb std) hf hb hn hc hx hT hS hm (h std _ _ rfl rfl rfl)
def noS : zah -> zif := fun _ => ⟨fun _ _ => none, fun _ => none⟩
theorem zwz (P : Program) : zcj P (noS std) := ⟨fun f xs p r h => by (cases h), fun f m h => by cases h⟩
def noA : zah -> Nat -> St -> Option Ann := fun _ _ _ => none
def tt : TT :=
 (.node (.node (.node (.node (.node (.node (.node (.node .leaf 1 ⟨1, false, [.nilf], .func, false, none, false, false⟩
        .leaf) 2 ⟨1, false, [.int .i64 0], .int .i64, false, none, false, false⟩
       .leaf) 3 ⟨1, false, [.int .i64 0], .int .i64, false, none, false, false⟩
      (.node .leaf 4 ⟨1, false, [.bool false], .bool, false, none, false, false⟩
       .leaf)) 5 ⟨1, false, [.int .u8 0], .int .u8, false, none, false, false⟩
     (.node (.node .leaf 6 ⟨1, false, [.int .u8 0], .int .u8, false, none, false, false⟩
       .leaf) 7 ⟨4, true, [.int .i64 0, .int .i64 0, .bool false, .int .u8 0], .struct [(0, 2), (1, 3), (2, 4), (3, 6)], true, none, false, false⟩
      (.node .leaf 8 ⟨4, true, [.int .i64 0, .int .i64 0, .bool false, .int .u8 0], .struct [(0, 2), (1, 3), (2, 4), (3, 6)], true, none, false, false⟩
       .leaf))) 9 ⟨1, false, [.str []], .str, false, none, false, false⟩
    (.node (.node (.node .leaf 10 ⟨1, false, [.str []], .str, false, none, false, false⟩
       .leaf) 11 ⟨1, false, [.str []], .str, false, none, false, false⟩
      (.node .leaf 12 ⟨1, false, [.int .u64 0], .int .u64, false, none, false, false⟩
       .leaf)) 13 ⟨2, true, [.str [], .int .u64 0], .struct [(0, 9), (1, 12)], false, none, false, false⟩
     (.node (.node .leaf 14 ⟨2, true, [.str [], .int .u64 0], .struct [(0, 9), (1, 12)], false, none, false, false⟩
       .leaf) 15 ⟨1, false, [.nilp], .ptr, false, some 138, false, false⟩
      (.node .leaf 16 ⟨1, false, [.nilp], .ptr, false, some 141, false, false⟩
       .leaf)))) 17 ⟨1, false, [.nilp], .ptr, false, some 148, false, false⟩
   (.node (.node (.node (.node (.node .leaf 18 ⟨1, true, [.nilp], .struct [(0, 17)], false, none, false, false⟩
        .leaf) 19 ⟨1, true, [.nilp], .struct [(0, 17)], false, none, false, false⟩
       .leaf) 20 ⟨1, false, [.nili], .iface, false, none, false, false⟩
      (.node .leaf 21 ⟨1, false, [.int .i32 0], .int .i32, false, none, false, false⟩
       .leaf)) 22 ⟨1, false, [.nilf], .func, false, none, false, false⟩
     (.node (.node .leaf 23 ⟨1, false, [.nilp], .ptr, false, some 44, false, false⟩
       .leaf) 24 ⟨1, false, [.nilf], .func, false, none, false, false⟩
      (.node .leaf 25 ⟨1, false, [.nilf], .func, false, none, false, false⟩
       .leaf))) 26 ⟨1, false, [.int .i64 0], .int .i64, false, none, false, false⟩
    (.node (.node (.node .leaf 28 ⟨1, false, [.nilf], .func, false, none, false, false⟩
       .leaf) 29 ⟨1, false, [.nilf], .func, false, none, false, false⟩
      (.node .leaf 30 ⟨1, false, [.nilf], .func, false, none, false, false⟩
       .leaf)) 31 ⟨1, false, [.nilf], .func, false, none, false, false⟩
     (.node (.node .leaf 32 ⟨1, false, [.nils], .slice 9 1 16, false, none, false, false⟩
       .leaf) 33 ⟨1, false, [.nilf], .func, false, none, false, false⟩
      (.node .leaf 34 ⟨1, false, [.nilf], .func, false, none, false, false⟩
       .leaf))))) 35 ⟨1, false, [.nilf], .func, false, none, false, false⟩
  (.node (.node (.node (.node (.node (.node .leaf 37 ⟨1, false, [.nilf], .func, false, none, false, false⟩
        .leaf) 38 ⟨1, false, [.nilf], .func, false, none, false, false⟩
       .leaf) 40 ⟨1, false, [.nilf], .func, false, none, false, false⟩
      (.node .leaf 41 ⟨1, false, [.nilm], .map 9 47, false, none, false, false⟩
       .leaf)) 42 ⟨1, false, [.nils], .slice 49 4 48, false, none, false, false⟩
     (.node (.node .leaf 43 ⟨7, true, [.int .i64 0, .nilm, .nilm, .nils, .int .i64 0, .int .i64 0, .bool false], .struct [(0, 3), (1, 41), (2, 41), (3, 42), (4, 3), (5, 3), (6, 4)], false, none, false, false⟩
       .leaf) 44 ⟨7, true, [.int .i64 0, .nilm, .nilm, .nils, .int .i64 0, .int .i64 0, .bool false], .struct [(0, 3), (1, 41), (2, 41), (3, 42), (4, 3), (5, 3), (6, 4)], false, none, false, false⟩
      (.node .leaf 45 ⟨1, false, [.nils], .slice 4 1 1, false, none, false, false⟩
       .leaf))) 46 ⟨1, false, [.nils], .slice 56 1 8, false, none, false, false⟩
    (.node (.node (.node .leaf 47 ⟨1, false, [.nilp], .ptr, false, some 59, false, false⟩
       .leaf) 48 ⟨4, true, [.int .i64 0, .str [], .str [], .nilp], .struct [(0, 3), (1, 9), (2, 9), (3, 47)], false, none, false, false⟩
      (.node .leaf 49 ⟨4, true, [.int .i64 0, .str [], .str [], .nilp], .struct [(0, 3), (1, 9), (2, 9), (3, 47)], false, none, false, false⟩
       .leaf)) 50 ⟨1, false, [.nilf], .func, false, none, false, false⟩
     (.node (.node .leaf 51 ⟨1, false, [.nilm], .map 47 4, false, none, false, false⟩
       .leaf) 52 ⟨1, false, [.nilf], .func, false, none, false, false⟩
      (.node .leaf 53 ⟨1, false, [.nilf], .func, false, none, false, false⟩
       .leaf)))) 54 ⟨1, false, [.nilf], .func, false, none, false, false⟩
   (.node (.node (.node (.node (.node .leaf 55 ⟨1, false, [.nilf], .func, false, none, false, false⟩
        .leaf) 56 ⟨1, false, [.int .u64 0], .int .u64, false, none, false, false⟩
       .leaf) 57 ⟨1, false, [.nilf], .func, false, none, false, false⟩
      (.node .leaf 58 ⟨2, true, [.str [], .str []], .struct [(0, 9), (1, 9)], true, none, false, false⟩
       .leaf)) 59 ⟨2, true, [.str [], .str []], .struct [(0, 9), (1, 9)], true, none, false, false⟩
     (.node (.node .leaf 60 ⟨1, false, [.nilf], .func, false, none, false, false⟩
       .leaf) 62 ⟨1, false, [.nilf], .func, false, none, false, false⟩
      (.node .leaf 63 ⟨1, false, [.nilf], .func, false, none, false, false⟩
       .leaf))) 65 ⟨1, false, [.nilf], .func, false, none, false, false⟩
    (.node (.node (.node .leaf 66 ⟨1, false, [.nilf], .func, false, none, false, false⟩
       .leaf) 67 ⟨1, false, [.nilf], .func, false, none, false, false⟩
      (.node .leaf 69 ⟨1, false, [.nilf], .func, false, none, false, false⟩
       .leaf)) 70 ⟨1, false, [.nilf], .func, false, none, false, false⟩
     (.node (.node .leaf 71 ⟨1, false, [.int .u64 0], .int .u64, false, none, false, false⟩
       .leaf) 72 ⟨1, false, [.nils], .slice 5 1 1, false, none, false, false⟩
      (.node .leaf 73 ⟨1, false, [.nilf], .func, false, none, false, false⟩
       .leaf)))))) 74 ⟨32, true, [.int .u8 0, .int .u8 0, .int .u8 0, .int .u8 0, .int .u8 0, .int .u8 0, .int .u8 0, .int .u8 0, .int .u8 0, .int .u8 0, .int .u8 0, .int .u8 0, .int .u8 0, .int .u8 0, .int .u8 0, .int .u8 0, .int .u8 0, .int .u8 0, .int .u8 0, .int .u8 0, .int .u8 0, .int .u8 0, .int .u8 0, .int .u8 0, .int .u8 0, .int .u8 0, .int .u8 0, .int .u8 0, .int .u8 0, .int .u8 0, .int .u8 0, .int .u8 0], .arr 32 5 1, true, none, false, false⟩
 (.node (.node (.node (.node (.node (.node (.node .leaf 75 ⟨32, true, [.int .u8 0, .int .u8 0, .int .u8 0, .int .u8 0, .int .u8 0, .int .u8 0, .int .u8 0, .int .u8 0, .int .u8 0, .int .u8 0, .int .u8 0, .int .u8 0, .int .u8 0, .int .u8 0, .int .u8 0, .int .u8 0, .int .u8 0, .int .u8 0, .int .u8 0, .int .u8 0, .int .u8 0, .int .u8 0, .int .u8 0, .int .u8 0, .int .u8 0, .int .u8 0, .int .u8 0, .int .u8 0, .int .u8 0, .int .u8 0, .int .u8 0, .int .u8 0], .arr 32 5 1, true, none, false, false⟩
        .leaf) 76 ⟨1, false, [.nilf], .func, false, none, false, false⟩
       .leaf) 77 ⟨1, false, [.nils], .slice 79 1 4, false, none, false, false⟩
      (.node .leaf 78 ⟨1, false, [.nilf], .func, false, none, false, false⟩
       .leaf)) 79 ⟨1, false, [.int .u32 0], .int .u32, false, none, false, false⟩
     (.node (.node .leaf 80 ⟨1, false, [.nilf], .func, false, none, false, false⟩
       .leaf) 81 ⟨1, false, [.nilf], .func, false, none, false, false⟩
      (.node .leaf 82 ⟨1, false, [.nilf], .func, false, none, false, false⟩
       .leaf))) 83 ⟨1, false, [.nilf], .func, false, none, false, false⟩
    (.node (.node (.node .leaf 84 ⟨1, false, [.nilp], .ptr, false, some 5, false, false⟩
       .leaf) 85 ⟨1, false, [.nilf], .func, false, none, false, false⟩
      (.node .leaf 86 ⟨1, false, [.nilf], .func, false, none, false, false⟩
       .leaf)) 87 ⟨8, true, [.int .u32 0, .int .u32 0, .int .u32 0, .int .u32 0, .int .u32 0, .int .u32 0, .int .u32 0, .int .u32 0], .arr 8 79 1, true, none, false, false⟩
     (.node (.node .leaf 88 ⟨1, false, [.nilf], .func, false, none, false, false⟩
       .leaf) 89 ⟨64, true, [.int .u32 0, .int .u32 0, .int .u32 0, .int .u32 0, .int .u32 0, .int .u32 0, .int .u32 0, .int .u32 0, .int .u32 0, .int .u32 0, .int .u32 0, .int .u32 0, .int .u32 0, .int .u32 0, .int .u32 0, .int .u32 0, .int .u32 0, .int .u32 0, .int .u32 0, .int .u32 0, .int .u32 0, .int .u32 0, .int .u32 0, .int .u32 0, .int .u32 0, .int .u32 0, .int .u32 0, .int .u32 0, .int .u32 0, .int .u32 0, .int .u32 0, .int .u32 0, .int .u32 0, .int .u32 0, .int .u32 0, .int .u32 0, .int .u32 0, .int .u32 0, .int .u32 0, .int .u32 0, .int .u32 0, .int .u32 0, .int .u32 0, .int .u32 0, .int .u32 0, .int .u32 0, .int .u32 0, .int .u32 0, .int .u32 0, .int .u32 0, .int .u32 0, .int .u32 0, .int .u32 0, .int .u32 0, .int .u32 0, .int .u32 0, .int .u32 0, .int .u32 0, .int .u32 0, .int .u32 0, .int .u32 0, .int .u32 0, .int .u32 0, .int .u32 0], .arr 64 79 1, true, none, false, false⟩
      (.node .leaf 90 ⟨1, false, [.nilf], .func, false, none, false, false⟩
       .leaf)))) 91 ⟨1, false, [.nilf], .func, false, none, false, false⟩
   (.node (.node (.node (.node (.node .leaf 92 ⟨1, false, [.nilp], .ptr, false, some 89, false, false⟩
        .leaf) 93 ⟨1, false, [.nilf], .func, false, none, false, false⟩
       .leaf) 94 ⟨1, false, [.int .i64 0], .int .i64, false, none, false, false⟩
      (.node .leaf 96 ⟨1, false, [.nilf], .func, false, none, false, false⟩
       .leaf)) 97 ⟨1, false, [.nilf], .func, false, none, false, false⟩
     (.node (.node .leaf 98 ⟨1, false, [.nilf], .func, false, none, false, false⟩
       .leaf) 100 ⟨1, false, [.nilf], .func, false, none, false, false⟩
      (.node .leaf 101 ⟨1, false, [.nilf], .func, false, none, false, false⟩
       .leaf))) 102 ⟨1, false, [.nilf], .func, false, none, false, false⟩
    (.node (.node (.node .leaf 103 ⟨1, false, [.nilf], .func, false, none, false, false⟩
       .leaf) 104 ⟨1, false, [.nilp], .ptr, false, some 106, false, false⟩
      (.node .leaf 105 ⟨2, true, [.nilp, .nils], .struct [(0, 104), (1, 72)], false, none, false, false⟩
       .leaf)) 106 ⟨2, true, [.nilp, .nils], .struct [(0, 104), (1, 72)], false, none, false, true⟩
     (.node (.node .leaf 107 ⟨1, false, [.nili], .iface, false, none, false, false⟩
       .leaf) 108 ⟨1, false, [.nili], .iface, false, none, false, false⟩
      (.node .leaf 110 ⟨1, false, [.nilf], .func, false, none, false, false⟩
       .leaf))))) 111 ⟨1, false, [.nilf], .func, false, none, false, false⟩
  (.node (.node (.node (.node (.node (.node .leaf 112 ⟨8, true, [.int .u64 0, .int .u64 0, .int .u64 0, .int .u64 0, .int .u64 0, .int .u64 0, .int .u64 0, .int .u64 0], .arr 8 56 1, true, none, false, false⟩
        .leaf) 113 ⟨1, false, [.nilf], .func, false, none, false, false⟩
       .leaf) 114 ⟨1, false, [.nilf], .func, false, none, false, false⟩
      (.node .leaf 116 ⟨1, false, [.nilf], .func, false, none, false, false⟩
       .leaf)) 117 ⟨1, false, [.nilf], .func, false, none, false, false⟩
     (.node (.node .leaf 118 ⟨1, false, [.int .u64 0], .int .u64, false, none, false, false⟩
       .leaf) 119 ⟨1, false, [.nilf], .func, false, none, false, false⟩
      (.node .leaf 120 ⟨1, false, [.nilf], .func, false, none, false, false⟩
       .leaf))) 121 ⟨1, false, [.nilf], .func, false, none, false, false⟩
    (.node (.node (.node .leaf 122 ⟨1, false, [.nilp], .ptr, false, some 3, false, false⟩
       .leaf) 123 ⟨1, false, [.nilf], .func, false, none, false, false⟩
      (.node .leaf 125 ⟨1, false, [.nilf], .func, false, none, false, false⟩
       .leaf)) 126 ⟨1, false, [.nilf], .func, false, none, false, false⟩
     (.node (.node .leaf 127 ⟨1, false, [.nilp], .ptr, false, some 118, false, false⟩
       .leaf) 129 ⟨1, false, [.nilf], .func, false, none, false, false⟩
      (.node .leaf 131 ⟨1, false, [.nilf], .func, false, none, false, false⟩
       .leaf)))) 133 ⟨1, false, [.nilf], .func, false, none, false, false⟩
   (.node (.node (.node (.node .leaf 134 ⟨1, false, [.nilp], .other, false, none, true, false⟩
       .leaf) 135 ⟨1, false, [.nilf], .func, false, none, false, false⟩
      (.node .leaf 136 ⟨1, false, [.nilf], .func, false, none, false, false⟩
       .leaf)) 137 ⟨4, true, [.nilp, .nilp, .nilp, .str []], .struct [(0, 17), (1, 17), (2, 17), (3, 9)], false, none, false, false⟩
     (.node (.node .leaf 138 ⟨4, true, [.nilp, .nilp, .nilp, .str []], .struct [(0, 17), (1, 17), (2, 17), (3, 9)], false, none, false, false⟩
       .leaf) 139 ⟨0, true, [], .arr 0 16 1, false, none, false, false⟩
      (.node .leaf 140 ⟨0, true, [], .struct [(0, 139)], false, none, false, false⟩
       .leaf))) 141 ⟨0, true, [], .struct [(0, 139)], false, none, false, false⟩
    (.node (.node (.node .leaf 142 ⟨1, false, [.int .u8 0], .int .u8, false, none, false, false⟩
       .leaf) 143 ⟨1, false, [.int .u8 0], .int .u8, false, none, false, false⟩
      (.node .leaf 144 ⟨1, false, [.nilf], .func, false, none, false, false⟩
       .leaf)) 145 ⟨1, false, [.int .i32 0], .int .i32, false, none, false, false⟩
     (.node (.node .leaf 146 ⟨1, false, [.int .i32 0], .int .i32, false, none, false, false⟩
       .leaf) 147 ⟨11, true, [.int .u64 0, .int .u64 0, .int .u32 0, .int .u8 0, .int .u8 0, .int .u8 0, .int .u8 0, .nilf, .nilp, .int .i32 0, .int .i32 0], .struct [(0, 12), (1, 12), (2, 79), (3, 142), (4, 5), (5, 5), (6, 143), (7, 144), (8, 84), (9, 145), (10, 146)], false, none, false, false⟩
      (.node .leaf 148 ⟨11, true, [.int .u64 0, .int .u64 0, .int .u32 0, .int .u8 0, .int .u8 0, .int .u8 0, .int .u8 0, .nilf, .nilp, .int .i32 0, .int .i32 0], .struct [(0, 12), (1, 12), (2, 79), (3, 142), (4, 5), (5, 5), (6, 143), (7, 144), (8, 84), (9, 145), (10, 146)], false, none, false, false⟩
       .leaf)))))))
theorem zb4 : zb3 Try.prog tt := zu2 (by kernel_rfl)
end Sy
end Go.Proofs.Ytlphgephdhadhaa
namespace Go.Proofs.Ytlphgephdhadhaa
open Go.RowKit Go.WideShapes Go.ChangeShapes Go.ChangeAt
def zxl (b : UInt8) : Value := .int .u8 (b.toNat : Int)
def str (l : List UInt8) : Value := .string ⟨l.toArray⟩
@[go_sem] theorem ba_get (l : List UInt8) (k : Nat) (h : k < (⟨l.toArray⟩ : ByteArray).size) : (⟨l.toArray⟩ : ByteArray)[k] = l[k]'h := rfl
@[go_sem] theorem ba_append (a b : List UInt8) : (⟨a.toArray⟩ : ByteArray) ++ ⟨b.toArray⟩ = ⟨(a ++ b).toArray⟩ := by
 apply ByteArray.ext; simp
theorem zeu (l : List UInt8) (a b : Nat) : (⟨l.toArray⟩ : ByteArray).extract a b = ⟨((l.drop a).take (b - a)).toArray⟩ := by
 apply ByteArray.ext; simp [ByteArray.data_extract]
@[go_sem] theorem ba_extract_all (l : List UInt8) (a : Nat) : (⟨l.toArray⟩ : ByteArray).extract a l.length = ⟨(l.drop a).toArray⟩ := by
 rw [zeu, List.take_of_length_le (by simp)]
@[go_sem] theorem ba_extract_zero (l : List UInt8) (b : Nat) : (⟨l.toArray⟩ : ByteArray).extract 0 b = ⟨(l.take b).toArray⟩ := by
 rw [zeu, List.drop_zero, Nat.sub_zero]
@[go_sem] theorem wrap_byte_u64 (b : UInt8) : IntKind.u64.wrap (b.toNat : Int) = b.toNat := by
 have := b.toNat_lt; rw [IntKind.wrap_u64]; omega
@[go_sem] theorem wrap_byte_u32 (b : UInt8) : IntKind.u32.wrap (b.toNat : Int) = b.toNat := by
 have := b.toNat_lt; rw [IntKind.wrap_u32]; omega
@[go_sem] theorem wrap_byte_u16 (b : UInt8) : IntKind.u16.wrap (b.toNat : Int) = b.toNat := by
 have := b.toNat_lt; rw [IntKind.wrap_u16]; omega
@[go_sem] theorem wrap_byte_u8 (b : UInt8) : IntKind.u8.wrap (b.toNat : Int) = b.toNat := by
 have := b.toNat_lt; rw [IntKind.wrap_u8]; omega
@[go_sem] theorem wrap_byte_i64 (b : UInt8) : IntKind.i64.wrap (b.toNat : Int) = b.toNat := by
 have := b.toNat_lt; rw [IntKind.wrap_i64]; omega
def Row (w : World) (b : Nat) (t : TypeId) (n : Nat) (f : Nat -> Value) : Prop :=
 ∃ (c : Array Value) (lo hi : Nat), w.heap[b]? = some (.cells c t (lo, hi)) /\ n <= c.size /\ (hi = 0 \/ n <= lo) /\ ∀ i, i < n -> c[i]? = some (f i)
section
variable {w w' : World} {b : Nat} {t : TypeId} {n : Nat} {f g : Nat -> Value}
theorem Row.cell (h : Row w b t n f) {i : Nat} (hi : i < n) : w.cell? ⟨b, i, none⟩ = some (f i) := by
 obtain ⟨c, lo, hi', hb, _, _, hc⟩ := h
 simp [World.cell?, hb, hc i hi]
theorem Row.frozen (h : Row w b t n f) {i : Nat} (hi : i < n) : w.frozen? ⟨b, i, none⟩ = false := by
 obtain ⟨c, lo, hi', hb, _, hf, _⟩ := h
 simp only [World.frozen?, hb]
 rcases hf with hf | hf
 · subst hf; simp
 · simp; omega
theorem Row.lt (h : Row w b t n f) : b < w.heap.size := by
 obtain ⟨c, lo, hi, hb, _⟩ := h
 exact (Array.getElem?_eq_some_iff.1 hb).1
theorem Row.congr (h : Row w b t n f) (e : ∀ i, i < n -> f i = g i) : Row w b t n g := by
 obtain ⟨c, lo, hi, hb, hn, hf, hc⟩ := h
 exact ⟨c, lo, hi, hb, hn, hf, fun i hi => by rw [hc i hi, e i hi]⟩
theorem Row.of_block (h : Row w b t n f) (e : w'.heap[b]? = w.heap[b]?) : Row w' b t n f := by
 obtain ⟨c, lo, hi, hb, hn, hf, hc⟩ := h
 exact ⟨c, lo, hi, e.trans hb, hn, hf, hc⟩
theorem Row.set (h : Row w b t n f) (i : Nat) (v : Value) : Row (w.setCell ⟨b, i, none⟩ v) b t n (fun j => if j = i then v else f j) := by
 obtain ⟨c, lo, hi', hb, hn, hf, hc⟩ := h
 refine ⟨c.setIfInBounds i v, lo, hi', ?_, by simpa using hn, hf, fun j hj => ?_⟩
 · simp [World.setCell, Array.getElem?_modify, hb]
 · rw [Array.getElem?_setIfInBounds]
   by_cases e : i = j
   · subst e
     have : i < c.size := by omega
     simp [this]
   · rw [if_neg e, hc j hj]
     show _ = some (if j = i then v else f j)
     rw [if_neg (fun (h : j = i) => e h.symm)]
theorem Row.alloc (h : Row w b t n f) (o : Obj) : Row (w.alloc o) b t n f := h.of_block (Below.heap_alloc _ _ _ h.lt)
theorem Row.bytes (w : World) (t : TypeId) (l : List UInt8) (cap : Nat) : Row (w.alloc (.cells (bytesRow ⟨l.toArray⟩ cap) t ((bytesRow ⟨l.toArray⟩ cap).size, (bytesRow ⟨l.toArray⟩ cap).size + 1))) w.heap.size t l.length (fun j => zxl (l.getD j 0)) := by
 refine ⟨bytesRow ⟨l.toArray⟩ cap, _, _, heap_alloc_new _ _, by simp [bytesRow], .inr (by simp [bytesRow]), fun i hi => ?_⟩
 rw [bytesRow_at _ _ _ (by simpa using hi)]
 simp [zxl, hi]
end
def Blk (w : World) (g : Nat) (t : TypeId) (cs : Array Value) : Prop := w.heap[g]? = some (.cells cs t (0, 0))
section
variable {w w' : World} {g : Nat} {t : TypeId} {cs : Array Value}
theorem Blk.lt (h : Blk w g t cs) : g < w.heap.size := by
 rcases Nat.lt_or_ge g w.heap.size with hlt | hge
 · exact hlt
 · unfold Blk at h; rw [Array.getElem?_eq_none hge] at h; cases h
theorem Blk.cell (h : Blk w g t cs) (i : Nat) : w.cell? ⟨g, i, none⟩ = cs[i]? := cell_of_row w g i cs t (0, 0) h
theorem Blk.frozen (h : Blk w g t cs) (i : Nat) : w.frozen? ⟨g, i, none⟩ = false := by
 unfold Blk at h
 simp [World.frozen?, h]
theorem Blk.new (w : World) (t : TypeId) (cs : Array Value) : Blk (w.alloc (.cells cs t)) w.heap.size t cs := heap_alloc_new w _
theorem Blk.drew (h : Blk w g t cs) : Blk w.drew g t cs := h
theorem Blk.alloc (h : Blk w g t cs) (o : Obj) : Blk (w.alloc o) g t cs := (Below.heap_alloc w o g h.lt).trans h
end
section
variable {l : Nat} {J : Act -> World -> Prop} {Q : Exit -> Act -> World -> Prop} {a : Act} {w : World}
@[go_sem] theorem jump_normal : Exit.jump l J Q .normal a w = Q .normal a w := rfl
@[go_sem] theorem jump_exit (id : Nat) : Exit.jump l J Q (.exit id) a w = Q (.exit id) a w := rfl
@[go_sem] theorem jump_ret : Exit.jump l J Q .ret a w = Q .ret a w := rfl
@[go_sem] theorem jump_panic (ch : List PanicEntry) : Exit.jump l J Q (.panic ch) a w = Q (.panic ch) a w := rfl
end
section
variable {H : Type} {enc : TypeId × Value -> H} {P : Program}
theorem zhp {f : Func} {s : ChangeSpec} {apart fresh handsOn again : Bool} {W W' : World} {args : Array Value} {v : Value} {ds gs : List (DataW H)} {before pa pv : List MemPlace}
   (hW : DataW.Whole enc P f.params.toList s.vars apart W args.toList ds gs before)
   (hres : ∀ (b : Nat) (sp : Nat -> Bool) (hd : Bool), DataW.TrodAll enc P W' b sp hd f.resultTypes.toList (v.resultList f.resultTypes.size) (s.fn H (ds ++ gs)).results [])
   (hargs : ∀ sp : Nat -> Bool, (∀ p ∈ before, sp p.block = true) -> DataW.TrodAll enc P W' 0 sp true f.params.toList args.toList (s.fn H (ds ++ gs)).args pa)
   (hvars : ∀ sp : Nat -> Bool, (∀ p ∈ before, sp p.block = true) -> DataW.TrodVars enc P W' sp s.vars (s.fn H (ds ++ gs)).vars pv)
   (hps : before = pa ++ pv) (hb : Below W.heap.size W W')
   (hok : ∀ (j : Nat) (t : TypeId) (r : Value), f.resultTypes[j]? = some t -> (v.resultList f.resultTypes.size)[j]? = some r -> Value.okWide P W' .any 0 t r) :
   s.post enc P f apart fresh handsOn again W args v W' := by
 have hlt : ∀ p ∈ before, p.block < W.heap.size := fun p hp => hW.lt p hp
 have hold : ∀ p ∈ before, (fun b => decide (b < W.heap.size)) p.block = true := fun p hp => by simpa using hlt p hp
 refine ⟨ds, gs, before, [], pa, pv, hW, hres _ _ _, hargs _ hold, hvars _ hold, World.keptBut_mono (fun p hp => ⟨hp, ?_⟩) (hb.frame (· ∈ before)), fun _ => ?_⟩
 · rw [hps, List.mem_append] at hp
   exact Or.inr hp
 · obtain ⟨_, _, _, _, _, hz, hn⟩ := hW
   refine ⟨hok, _, _, ([] ++ pa) ++ pv, ⟨[] ++ pa, pv, trodAll_append (hargs _ (fun _ _ => rfl)) (hres _ _ _), hvars _ (fun _ _ => rfl), rfl, ?_, ?_⟩, ?_⟩
   · intro b off hp
     have hin : MemPlace.cell b off ∈ before := by rw [hps]; simpa using hp
     rw [hb.frozen (hlt _ hin)]
     exact hz b off hin
   · intro ha
     have := hn ha
     rw [hps] at this
     simpa using this
   · intro p hp _
     rw [hps]
     simpa using hp
theorem zec (hl : laidOutB P = true) {W W' : World} (hb : Below W.heap.size W W') {sp : Nat -> Bool} :
   ∀ {ts : List TypeId} {vs : List Value} {ds : List (DataW H)} {ps : List MemPlace}, (∀ t ∈ ts, P.readableRec t = true /\ t < P.types.size) ->
   DataW.TrodAll enc P W 0 (fun _ => true) true ts vs ds ps -> (∀ x ∈ ps, x.block < W.heap.size) -> (∀ x ∈ ps, sp x.block = true) -> DataW.TrodAll enc P W' 0 sp true ts vs ds ps
 | [], [], [], _, _, h, _, _ => h
 | _ :: _, _ :: _, _ :: _, _, hr, ⟨p, q, h1, h2, e⟩, hlt, hs =>
   ⟨p, q, WideElems.Trod_stays hl (hr _ (List.mem_cons.2 (Or.inl rfl))).1 (hr _ (List.mem_cons.2 (Or.inl rfl))).2 h1
       (fun x hx => hb.same (hlt x (by rw [e]; exact List.mem_append_left _ hx))) (fun x hx => hs x (by rw [e]; exact List.mem_append_left _ hx)),
     zec hl hb (fun t ht => hr t (List.mem_cons.2 (Or.inr ht))) h2 (fun x hx => hlt x (by rw [e]; exact List.mem_append_right _ hx)) (fun x hx => hs x (by rw [e]; exact List.mem_append_right _ hx)), e⟩
theorem post_law {f : Func} {s : ChangeSpec} {apart fresh handsOn again : Bool} {W W' : World} {args : Array Value} {ds : List (DataW H)} {before : List MemPlace} {tb : TypeId}
   (hl : laidOutB P = true) (hr : (f.params.toList.all fun t => P.readableRec t && decide (t < P.types.size)) = true) (hbt : f.resultTypes = #[tb]) (hub : P.underlying tb = some .bool) (hsv : s.vars = [])
   (hW : DataW.Whole enc P f.params.toList s.vars apart W args.toList ds [] before)
   (hfn : s.fn H (ds ++ []) = { results := [.lit (.bool true)], args := ds }) (hb : Below W.heap.size W W') :
   s.post enc P f apart fresh handsOn again W args (.bool true) W' := by
 have hlt : ∀ p ∈ before, p.block < W.heap.size := fun p hp => hW.lt p hp
 obtain ⟨p, q, hA, hV, hpq, _, _⟩ := id hW
 rw [hsv] at hV
 have hq : q = [] := hV
 subst hq
 rw [List.append_nil] at hpq
 subst hpq
 refine zhp (pa := before) (pv := []) hW ?_ ?_ ?_ (by simp) hb ?_
 · intro _ _ _
   rw [hfn, hbt]
   exact trodAll_mk1 (shut_bool hub true)
 · intro sp hsp
   rw [hfn]
   exact zec hl hb (fun t ht => by simpa using List.all_eq_true.1 hr t ht) hA hlt hsp
 · intro sp _
   rw [hfn, hsv]
   rfl
 · exact ok_one hbt rfl (okWide_bool_mk hub true)
end
end Go.Proofs.Ytlphgephdhadhaa
namespace Go.Proofs.Ytlphgephdhadhaa
open Go.RowKit
theorem i5 : (Try.prog.info? 5).map (fun i => (i.zero, i.size, i.bytes)) = some (some (.int .u8 0), 1, 1) := by kernel_rfl
end Go.Proofs.Ytlphgephdhadhaa
namespace Go.Proofs.Ytlphgephdhadhaa
open Go.RowKit
def zrh (w : World) (g : Nat) (ps : List (List UInt8)) : Prop := ∀ j (h : j < ps.length), w.cell? ⟨g, j, none⟩ = some (.string ⟨ps[j].toArray⟩)
def zo5 (ps : List (List UInt8)) : List UInt8 := ps.flatten
end Go.Proofs.Ytlphgephdhadhaa
namespace Go.Proofs.Ytlphgephdhadhaa
namespace Sy
open Go Go.RowKit
set_option maxRecDepth 100000
def upto (n : Nat) (l : List UInt8) : Prop := l.length <= n
end Sy
end Go.Proofs.Ytlphgephdhadhaa
namespace Go.Proofs.Ytlphgephdhadhaa
namespace Sy
open Go Go.RowKit
set_option maxRecDepth 100000
set_option linter.unusedSimpArgs false
set_option linter.unusedVariables false
inductive DkS where
 | a (k : Int)
 | b (k : Int) (x s : List UInt8)
 | c (k : Int) (x s : List UInt8)
 | d (k : Int) (x s y t : List UInt8)
def nmA : List UInt8 := [97]
def nmB : List UInt8 := [98]
def zbm (x s : List UInt8) : Ob := .box 59 [.str x, .str s]
def zsb (key : List UInt8) : Ob := .row 49 4 1 (fun _ j => zbs .dead [.int .i64 1, .str [], .str key, .dead] j)
def zma (n s : Nat) (pend : AV) (k : Int) : Ob := .box 44 [.int .i64 100, .mp n, .mp s, pend, .int .i64 k, .int .i64 (-1), .bool false]
def zku (pend : AV) (k : Int) : Ob := zma 500001 500002 pend k
def dkO (p : Nat) : DkS -> List (Nat × Ob)
 | .a k => [(500000, zku .nils k), (500001, .mapl .s []), (500002, .mapl .s [])]
 | .b k x s => [(500000, zku (.sl p 4 0 1) k), (500001, .mapl .s [(.s nmA, .ref 500003 0)]), (500002, .mapl .s []), (500003, zbm x s), (p, zsb nmA)]
 | .c k x s => [(500000, zku .nils k), (500001, .mapl .s [(.s nmA, .ref 500003 0)]), (500002, .mapl .s [(.s nmA, .ref 500003 0)]), (500003, zbm x s)]
 | .d k x s y t => [(500000, zku (.sl p 4 0 1) k), (500001, .mapl .s [(.s nmA, .ref 500003 0), (.s nmB, .ref 500004 0)]), (500002, .mapl .s [(.s nmA, .ref 500003 0)]), (500003, zbm x s), (500004, zbm y t), (p, zsb nmB)]
def zas : Option Ob -> List UInt8 × List UInt8
 | some (.box _ [.str x, .str s]) => (x, s)
 | _ => ([], [])
def zqn (ob : Nat -> Option Ob) (id : Nat) : Option DkS := match ob id with
 | some (.box _ [_, .mp n, _, .nils, .int _ k, _, _]) => match ob n with
   | some (.mapl _ []) => some (.a k)
   | some (.mapl _ [(_, .ref i _)]) => some (.c k (zas (ob i)).1 (zas (ob i)).2)
   | _ => none
 | some (.box _ [_, .mp n, _, .sl _ _ _ _, .int _ k, _, _]) => match ob n with
   | some (.mapl _ [(_, .ref i _)]) => some (.b k (zas (ob i)).1 (zas (ob i)).2)
   | some (.mapl _ [(_, .ref i _), (_, .ref j _)]) => some (.d k (zas (ob i)).1 (zas (ob i)).2 (zas (ob j)).1 (zas (ob j)).2)
   | _ => none
 | _ => none
def inc (k : Int) : Int := k + 1
def DkS.up (L : zah) : DkS -> DkS
 | .a k => .a (L inc k)
 | .b k x s => .b (L inc k) x s
 | .c k x s => .c (L inc k) x s
 | .d k x s y t => .d (L inc k) x s y t
def DkS.k : DkS -> Int
 | .a k => k
 | .b k _ _ => k
 | .c k _ _ => k
 | .d k _ _ _ _ => k
def zbg (k : Int) : Prop := 0 <= k /\ k <= 1000
theorem zrn {k : Int} (h : zbg k) : zl6 .i64 k 1 = inc k := by
 obtain ⟨h0, h1⟩ := h
 unfold zl6 inc
 rw [zig]
 omega
def zup : zgn := (31, fun raw ob => match raw with
 | [.ref id 0] => match zqn ob id with
   | some sh => some ⟨[.ref 500000 0], dkO 500005 sh, True, .int .i64 0, dkO 500005 sh⟩
   | _ => none
 | _ => none)
theorem zyq (sh : DkS) : zba Try.prog 31 [.ref 500000 0] (dkO 500005 sh) (.int .i64 0) (dkO 500005 sh) := by
 cases sh <;>
 · refine zav (T := tt) (S := fun L => zbq [] []) (lo := noA) (lb := noA) 8 (fn := Try.f31) (xs := fun L => [.ref 500000 0]) (rts := fun _ => [.int .i64 0]) (O := fun L => dkO 500005 _) (O1 := fun L => dkO 500005 _)
     rfl rfl (by kernel_rfl) (by kernel_rfl) (by kernel_rfl) zb4 (zac trivial trivial) (by kernel_rfl) ?_
   intro L P' Q' hL hP hQ
   (cbv; try simp only [syT, true_and, and_true])
   subst hL
   simp [std]
theorem zfw : zdi Try.prog zup := by
 intro raw ob T hT hp
 unfold zup at hT
 simp only at hT
 repeat' split at hT
 all_goals first | (cases hT; done) | (cases hT; exact zyq _)
def zf2 (L : zah) : zgn := (33, fun raw ob => match raw with
 | [.ref id 0] => match zqn ob id with
   | some sh => some ⟨[.ref 500000 0], dkO 500005 sh, L zbg sh.k, .int .i64 0, dkO 500005 (sh.up L)⟩
   | _ => none
 | _ => none)
theorem zu7 (sh : DkS) (hk : zbg sh.k) : zba Try.prog 33 [.ref 500000 0] (dkO 500005 sh) (.int .i64 0) (dkO 500005 (sh.up std)) := by
 cases sh <;>
 · refine zav (T := tt) (S := fun L => zbq [] []) (lo := noA) (lb := noA) 8 (fn := Try.f33) (xs := fun L => [.ref 500000 0]) (rts := fun _ => [.int .i64 0]) (O := fun L => dkO 500005 _) (O1 := fun L => dkO 500005 (DkS.up L _))
     rfl rfl (by kernel_rfl) (by kernel_rfl) (by kernel_rfl) zb4 (zac trivial trivial) (by kernel_rfl) ?_
   intro L P' Q' hL hP hQ
   (cbv; try simp only [syT, true_and, and_true])
   subst hL
   simp only [DkS.k] at hk
   have e0 : ieq (-1) 0 = false := by decide
   have e1 : ilt 0 (-1) = false := by decide
   simp [std, e0, e1, zrn hk]
theorem zdz : zdi Try.prog (zf2 std) := by
 intro raw ob T hT hp
 unfold zf2 at hT
 simp only at hT
 repeat' split at hT
 all_goals first | (cases hT; done) | (cases hT; exact zu7 _ hp)
def zz7 (L : zah) : List (Nat × Ob) := [(14, zma 11 12 .nils 0), (11, .mapl .s []), (12, .mapl .s [])]
def zuq (L : zah) : zgn := (24, fun raw ob => match raw with
 | [.int .i64 n] => some ⟨[.int .i64 100], [], True, .tup [.ref 14 0, .int .i64 0], zz7 L⟩
 | _ => none)
theorem zx0 : zba Try.prog 24 [.int .i64 100] [] (.tup [.ref 14 0, .int .i64 0]) (zz7 std) := by
 refine zav (T := tt) (S := fun L => zbq [] []) (lo := noA) (lb := noA) 8 (fn := Try.f24) (xs := fun L => [.int .i64 100]) (rts := fun _ => [.ref 14 0, .int .i64 0]) (O := fun L => []) (O1 := fun L => zz7 L)
     rfl rfl (by kernel_rfl) (by kernel_rfl) (by kernel_rfl) zb4 (zac trivial trivial) (by kernel_rfl) ?_
 intro L P' Q' hL hP hQ
 (cbv; try simp only [syT, true_and, and_true])
 subst hL
 have e0 : ilt 100 0 = false := by decide
 have e1 : ilt 65536 100 = false := by decide
 simp [std, e0, e1]
theorem zsf : zdi Try.prog (zuq std) := by
 intro raw ob T hT hp
 unfold zuq at hT
 simp only at hT
 repeat' split at hT
 all_goals first | (cases hT; done) | (cases hT; exact zx0)
def zhk : zgn := (30, fun raw ob => match raw with
 | [.ref id 0, .str key] => match zqn ob id with
   | some (.a _) => none
   | some sh => some ⟨[.ref 500000 0, .str nmA], dkO 500005 sh, True, .tup [.ref 500003 0, .int .i64 0], dkO 500005 sh⟩
   | _ => none
 | _ => none)
def DkS.some : DkS -> Prop
 | .a _ => False
 | _ => True
theorem zrs (sh : DkS) (hs : sh.some) : zba Try.prog 30 [.ref 500000 0, .str nmA] (dkO 500005 sh) (.tup [.ref 500003 0, .int .i64 0]) (dkO 500005 sh) := by
 cases sh
 case a => exact hs.elim
 all_goals
   refine zav (T := tt) (S := fun L => zbq [] [zup]) (lo := noA) (lb := noA) 8 (fn := Try.f30) (xs := fun L => [.ref 500000 0, .str nmA]) (rts := fun _ => [.ref 500003 0, .int .i64 0]) (O := fun L => dkO 500005 _) (O1 := fun L => dkO 500005 _)
     rfl rfl (by kernel_rfl) (by kernel_rfl) (by kernel_rfl) zb4 (zac trivial ⟨zfw, trivial⟩) (by kernel_rfl) ?_
   intro L P' Q' hL hP hQ
   (cbv; try simp only [syT, true_and, and_true])
   subst hL
   have e0 : ine 0 0 = false := by decide
   simp [std, e0]
theorem zgu : zdi Try.prog zhk := by
 intro raw ob T hT hp
 unfold zhk at hT
 simp only at hT
 repeat' split at hT
 all_goals first | (cases hT; done) | skip
 rename_i sh h1 h2
 cases hT
 refine zrs sh ?_
 cases sh
 · exact absurd rfl (h1 _)
 all_goals trivial
end Sy
end Go.Proofs.Ytlphgephdhadhaa
namespace Go.Proofs.Ytlphgephdhadhaa
namespace Sy
open Go Go.RowKit
set_option maxRecDepth 100000
set_option linter.unusedSimpArgs false
set_option linter.unusedVariables false
def zml : AV := .agg [.int .i64 1, .str [], .str nmA, .ref 500003 0]
def zmk : AV := .agg [.int .i64 1, .str [], .str nmB, .ref 500004 0]
def do0 (x s : List UInt8) : List (Nat × Ob) := [(500001, .mapl .s []), (500003, zbm x s)]
def do1 (x s : List UInt8) : List (Nat × Ob) := [(500001, .mapl .s [(.s nmA, .ref 500003 0)]), (500003, zbm x s)]
def do2 (x s y t : List UInt8) : List (Nat × Ob) := [(500001, .mapl .s [(.s nmA, .ref 500003 0)]), (500003, zbm x s), (500004, zbm y t)]
def do3 (x s y t : List UInt8) : List (Nat × Ob) := [(500001, .mapl .s [(.s nmA, .ref 500003 0), (.s nmB, .ref 500004 0)]), (500003, zbm x s), (500004, zbm y t)]
def zxh : zgn := (25, fun raw ob => match raw with
 | [.mp n, .agg [_, _, _, .ref i _]] => match ob n with
   | some (.mapl _ []) => some ⟨[.mp 500001, zml], do0 (zas (ob i)).1 (zas (ob i)).2, True, .tup [], do1 (zas (ob i)).1 (zas (ob i)).2⟩
   | some (.mapl _ [(_, .ref j _)]) => some ⟨[.mp 500001, zmk], do2 (zas (ob j)).1 (zas (ob j)).2 (zas (ob i)).1 (zas (ob i)).2, True, .tup [], do3 (zas (ob j)).1 (zas (ob j)).2 (zas (ob i)).1 (zas (ob i)).2⟩
   | _ => none
 | _ => none)
theorem do_a (x s : List UInt8) : zba Try.prog 25 [.mp 500001, zml] (do0 x s) (.tup []) (do1 x s) := by
 refine zav (T := tt) (S := fun L => zbq [] []) (lo := noA) (lb := noA) 8 (fn := Try.f25) (xs := fun L => [.mp 500001, zml]) (rts := fun _ => []) (O := fun L => do0 x s) (O1 := fun L => do1 x s)
   rfl rfl (by kernel_rfl) (by kernel_rfl) (by kernel_rfl) zb4 (zac trivial trivial) (by kernel_rfl) ?_
 intro L P' Q' hL hP hQ
 (cbv; try simp only [syT, true_and, and_true])
 subst hL
 have e0 : ieq 1 1 = true := by decide
 simp [std, e0]
theorem do_b (x s y t : List UInt8) : zba Try.prog 25 [.mp 500001, zmk] (do2 x s y t) (.tup []) (do3 x s y t) := by
 refine zav (T := tt) (S := fun L => zbq [] []) (lo := noA) (lb := noA) 8 (fn := Try.f25) (xs := fun L => [.mp 500001, zmk]) (rts := fun _ => []) (O := fun L => do2 x s y t) (O1 := fun L => do3 x s y t)
   rfl rfl (by kernel_rfl) (by kernel_rfl) (by kernel_rfl) zb4 (zac trivial trivial) (by kernel_rfl) ?_
 intro L P' Q' hL hP hQ
 (cbv; try simp only [syT, true_and, and_true])
 subst hL
 have e0 : ieq 1 1 = true := by decide
 simp [std, e0]
theorem zkt : zdi Try.prog zxh := by
 intro raw ob T hT hp
 unfold zxh at hT
 simp only at hT
 repeat' split at hT
 all_goals first | (cases hT; done) | (cases hT; exact do_a _ _) | (cases hT; exact do_b _ _ _ _)
def zfc : zgn := (34, fun raw ob => match raw with
 | [.ref id 0, .agg [_, _, _, .ref i _]] => match zqn ob id with
   | some (.a k) => some ⟨[.ref 500000 0, zml], zb0 (dkO 500005 (.a k)) [(500003, zbm (zas (ob i)).1 (zas (ob i)).2)], True, .tup [], dkO 17 (.b k (zas (ob i)).1 (zas (ob i)).2)⟩
   | some (.c k x s) => some ⟨[.ref 500000 0, zmk], zb0 (dkO 500005 (.c k x s)) [(500004, zbm (zas (ob i)).1 (zas (ob i)).2)], True, .tup [], dkO 17 (.d k x s (zas (ob i)).1 (zas (ob i)).2)⟩
   | _ => none
 | _ => none)
theorem zrq (k : Int) (x s : List UInt8) : zba Try.prog 34 [.ref 500000 0, zml] (zb0 (dkO 500005 (.a k)) [(500003, zbm x s)]) (.tup []) (dkO 17 (.b k x s)) := by
 refine zav (T := tt) (S := fun L => zbq [] [zxh]) (lo := noA) (lb := noA) 8 (fn := Try.f34) (xs := fun L => [.ref 500000 0, zml]) (rts := fun _ => []) (O := fun L => zb0 (dkO 500005 (.a k)) [(500003, zbm x s)]) (O1 := fun L => dkO 17 (.b k x s))
   rfl rfl (by kernel_rfl) (by kernel_rfl) (by kernel_rfl) zb4 (zac trivial ⟨zkt, trivial⟩) (by kernel_rfl) ?_
 intro L P' Q' hL hP hQ
 (cbv; try simp only [syT, true_and, and_true])
 subst hL
 simp [std]
 exact ⟨by decide, fun i j hi hj => by subst hi; simp [L2, std]⟩
theorem zrp (k : Int) (x s y t : List UInt8) : zba Try.prog 34 [.ref 500000 0, zmk] (zb0 (dkO 500005 (.c k x s)) [(500004, zbm y t)]) (.tup []) (dkO 17 (.d k x s y t)) := by
 refine zav (T := tt) (S := fun L => zbq [] [zxh]) (lo := noA) (lb := noA) 8 (fn := Try.f34) (xs := fun L => [.ref 500000 0, zmk]) (rts := fun _ => []) (O := fun L => zb0 (dkO 500005 (.c k x s)) [(500004, zbm y t)]) (O1 := fun L => dkO 17 (.d k x s y t))
   rfl rfl (by kernel_rfl) (by kernel_rfl) (by kernel_rfl) zb4 (zac trivial ⟨zkt, trivial⟩) (by kernel_rfl) ?_
 intro L P' Q' hL hP hQ
 (cbv; try simp only [syT, true_and, and_true])
 subst hL
 simp [std]
 exact ⟨by decide, fun i j hi hj => by subst hi; simp [L2, std]⟩
theorem zfm : zdi Try.prog zfc := by
 intro raw ob T hT hp
 unfold zfc at hT
 simp only at hT
 repeat' split at hT
 all_goals first | (cases hT; done) | (cases hT; exact zrq _ _ _) | (cases hT; exact zrp _ _ _ _ _)
end Sy
end Go.Proofs.Ytlphgephdhadhaa
namespace Go.Proofs.Ytlphgephdhadhaa
open Go Go.RowKit
open Go.ChangeMaps (setBlock)
theorem znl (seen : Array Nat) : leftOf #[] seen = #[] := by simp [leftOf]
set_option maxRecDepth 1000000 in
theorem zyb (w : World) (b bm : Nat) (clock : Nat) (hc : w.cell? ⟨b, 1, none⟩ = some (.map (some bm))) (hm : w.heap[bm]? = some (.map #[] clock)) :
   Calls Try.prog 15 #[.pointer (some ⟨b, 0, none⟩)] w fun e w' => e = .returned (.int .i64 0) /\ Below w.heap.size w w' := by
 have hrg := run_range_map (P := Try.prog) w 41 9 47 bm #[] clock Try.underlying41 hm
 have hnx : ∀ ty, (Instr.next (.pointer (some ⟨w.heap.size, 0, none⟩)) false ty).run Try.prog (w.alloc (.mapIter (some bm) clock #[] clock)) = .ok (.tuple #[.bool false]) (w.alloc (.mapIter (some bm) clock #[] clock)) := fun ty => by
   rcases run_next_map (P := Try.prog) w ty bm clock clock #[] #[] clock hm (by simp) (Nat.le_refl _) with ⟨_, h⟩ | ⟨e, he, _⟩
   · exact h
   · rw [znl] at he; simp at he
 go_enter Try.func15, Try.ntmps15
 go_wp2
 refine wp_loop_rounds 1 ?_
 rw [rounds_succ]
 go_wp2
 go_ret
 exact ⟨rfl, (Below.refl _ w).alloc (Nat.le_refl _) _⟩
set_option maxRecDepth 1000000 in
theorem zya (w : World) (b bm bn : Nat) (clock : Nat) (x : MapEntry) (s : ByteArray) (hc : w.cell? ⟨b, 1, none⟩ = some (.map (some bm))) (hm : w.heap[bm]? = some (.map #[x] clock)) (hst : MapKept.Stamped #[x] clock)
   (hx : x.val = .pointer (some ⟨bn, 0, none⟩)) (hn : w.cell? ⟨bn, 0, none⟩ = some (.string s)) :
   Calls Try.prog 15 #[.pointer (some ⟨b, 0, none⟩)] w fun e w' => e = .returned (.int .i64 (wrap64 s.size)) /\ Below w.heap.size w w' := by
 have hrg := run_range_map (P := Try.prog) w 41 9 47 bm #[x] clock Try.underlying41 hm
 have hbn : bn < w.heap.size := by
   rcases Nat.lt_or_ge bn w.heap.size with h | h
   · exact h
   · simp [World.cell?, Array.getElem?_eq_none h] at hn
 have hbm : bm < w.heap.size := by
   rcases Nat.lt_or_ge bm w.heap.size with h | h
   · exact h
   · simp [Array.getElem?_eq_none h] at hm
 obtain ⟨W2, hr2, hk2, hB2, hnx⟩ : ∃ W2 : World, W2.heap[w.heap.size]? = some (.mapIter (some bm) clock #[x.born] clock) /\ (∀ k, k < w.heap.size -> W2.heap[k]? = w.heap[k]?) /\ Below w.heap.size w W2 /\
     ∀ ty, (Instr.next (.pointer (some ⟨w.heap.size, 0, none⟩)) false ty).run Try.prog (w.alloc (.mapIter (some bm) clock #[] clock)) = .ok (.tuple #[.bool true, x.key, .pointer (some ⟨bn, 0, none⟩)]) W2 := by
   rcases run_next_at (P := Try.prog) (w.alloc (.mapIter (some bm) clock #[] clock)) 0 w.heap.size bm clock clock #[] #[x] clock (heap_alloc_new _ _) ((heap_alloc_old w _ hbm).trans hm) hst.1 (Nat.le_refl _) with ⟨h0, _⟩ | ⟨e, he, w1, hal, h⟩
   · simp [leftOf] at h0
   · simp [leftOf] at he
     subst he
     rw [hx] at h
     have hB : Below w.heap.size w (w.alloc (.mapIter (some bm) clock #[] clock)) := (Below.refl _ w).alloc (Nat.le_refl _) _
     have hw : w1.heap = (w.alloc (.mapIter (some bm) clock #[] clock)).heap /\ w1.os = w.os /\ w1.tape = w.tape /\ w1.output = w.output := by
       rcases hal with rfl | rfl
       · exact ⟨rfl, rfl, rfl, rfl⟩
       · exact ⟨rfl, rfl, rfl, rfl⟩
     obtain ⟨h1, h2, h3, h4⟩ := hw
     have hl : w.heap.size < (w.alloc (.mapIter (some bm) clock #[] clock)).heap.size := by
       show w.heap.size < (w.heap.push _).size
       rw [Array.size_push]
       omega
     have hne : ∀ k, k < w.heap.size -> (w1.heap.setIfInBounds w.heap.size (.mapIter (some bm) clock #[e.born] clock))[k]? = w.heap[k]? := fun k hk => by
       rw [Array.getElem?_setIfInBounds_ne (by omega), h1]
       exact heap_alloc_old w _ hk
     refine ⟨setBlock w1 w.heap.size (.mapIter (some bm) clock #[e.born] clock), ?_, hne, ⟨h2, h3, h4, ?_, hne⟩, fun ty => h⟩
     · show (w1.heap.setIfInBounds w.heap.size _)[w.heap.size]? = _
       rw [h1, Array.getElem?_setIfInBounds, if_pos rfl, if_pos hl]
     · show w.heap.size <= (w1.heap.setIfInBounds w.heap.size _).size
       rw [h1, Array.size_setIfInBounds]
       exact Nat.le_of_lt hl
 have hm2 : W2.heap[bm]? = some (.map #[x] clock) := (hk2 bm hbm).trans hm
 have hen : (Instr.entry (.pointer (some ⟨w.heap.size, 0, none⟩))).run Try.prog W2 = .ok (.tuple #[x.key, .pointer (some ⟨bn, 0, none⟩)]) W2 := by
   have hen := run_entry_at (P := Try.prog) W2 w.heap.size bm clock #[] #[x] clock x hr2 hm2 (by simp) hst.2.1
   rw [hx] at hen
   exact hen
 have hn1 : W2.cell? ⟨bn, 0, none⟩ = some (.string s) := by
   simp only [World.cell?, hk2 bn hbn]
   exact hn
 have hnx2 : ∀ ty, (Instr.next (.pointer (some ⟨w.heap.size, 0, none⟩)) false ty).run Try.prog W2 = .ok (.tuple #[.bool false]) W2 := fun ty => by
   rcases run_next_at (P := Try.prog) W2 ty w.heap.size bm clock clock #[x.born] #[x] clock hr2 hm2 hst.1 (Nat.le_refl _) with ⟨_, h⟩ | ⟨e, he, _⟩
   · exact h
   · simp [leftOf] at he
 go_enter Try.func15, Try.ntmps15
 go_wp2
 refine wp_loop_rounds 2 ?_
 rw [rounds_succ]
 go_wp2
 rw [rounds_succ]
 go_wp2
 go_ret
 exact ⟨rfl, hB2⟩
end Go.Proofs.Ytlphgephdhadhaa
