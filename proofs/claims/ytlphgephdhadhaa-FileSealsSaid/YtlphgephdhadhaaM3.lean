/-The symbolic executor: values, blocks that are a template's. The symbolic executor: calls that turn blocks of the caller's own. The symbolic executor: regions; and what stands between these and the texts behind.-/
import Derived.Test.YtlphgephdhadhaaM2
import Derived.Deep.LoopGhost
import Derived.IntWalk
import Derived.Test.YtlphgephdhadhaaRows
import Derived.WalkKit
import Derived.WalkSpells
import Derived.WalkLawsBesides
import Derived.Deep.DeepCutAuto
import Derived.Deep.OwnRows
import Derived.Laws.IdiomStrings
import Derived.Lib.Hide
import Derived.Below
import Derived.ChangeSame
import Derived.ScopeJumps
import Derived.ProofKit
import Derived.OpenShut
import Derived.Carry
import Derived.Lib.SmallJoins
import Derived.RegionTactic
import Derived.BigRegion
namespace Go.Proofs.Ytlphgephdhadhaa
namespace Sy
open Go Go.RowKit
set_option linter.unusedSimpArgs false
set_option linter.unusedVariables false
set_option linter.unusedSectionVars false
def zdh (μ : Mu) (F : List (Nat × Option Nat)) : Mu := fun t => match za1 F t with
 | some (some id) => μ id
 | some none => some none
 | none => none
def Inj (ids : List (Nat × Option Nat)) : Prop := ∀ t t' id, za1 ids t = some (some id) -> za1 ids t' = some (some id) -> t = t'
structure Ext (m m' : zc8) : Prop where
 ids : ∀ t x, za1 m.ids t = some x -> za1 m'.ids t = some x
 ps : ∀ p, p ∈ m.ps -> p ∈ m'.ps
 inj : Inj m.ids -> Inj m'.ids
theorem Ext.refl (m : zc8) : Ext m m := ⟨fun _ _ h => h, fun _ h => h, fun h => h⟩
theorem Ext.trans {m m' m'' : zc8} (a : Ext m m') (b : Ext m' m'') : Ext m m'' := ⟨fun t x h => b.ids t x (a.ids t x h), fun p h => b.ps p (a.ps p h), fun h => b.inj (a.inj h)⟩
theorem Ext.add (m : zc8) (p : Prop) : Ext m (m.add p) := ⟨fun _ _ h => h, fun q h => List.mem_cons_of_mem _ h, fun h => h⟩
theorem zux {id : Nat} {x : Option Nat} (h : yc5 id x = true) : x = some id := by
 unfold yc5 at h
 split at h
 · rw [za3 h]
 · cases h
theorem zsi {id : Nat} {ids : List (Nat × Option Nat)} (h : zle id ids = false) : ∀ t, za1 ids t ≠ some (some id) := by
 induction ids with
 | nil => intro t; simp [za1]
 | cons p r ih =>
   obtain ⟨k, y⟩ := p
   unfold zle at h
   cases e : yc5 id y with
   | true => rw [e] at h; cases h
   | false =>
     rw [e] at h
     intro t
     unfold za1
     split
     · intro hy
       cases hy
       simp [yc5, za4] at e
     · exact ih h t
theorem zdo {m m' : zc8} {tid id : Nat} (h : zee m tid id = some m') : Ext m m' /\ za1 m'.ids tid = some (some id) := by
 unfold zee at h
 split at h
 · rename_i x hx
   split at h
   · rename_i e; cases h; exact ⟨.refl _, by rw [hx, zux e]⟩
   · cases h
 · rename_i hx
   split at h
   · cases h
   · rename_i e
     cases h
     refine ⟨⟨fun t x ht => ?_, fun _ h => h, fun hi t t' id' h1 h2 => ?_⟩, by simp [za1, za4]⟩
     · simp only [za1]
       split
       · rename_i e'; rw [za3 e'] at hx; rw [hx] at ht; cases ht
       · exact ht
     · have e := zsi (by simpa using e : zle id m.ids = false)
       simp only [za1] at h1 h2
       cases q1 : zae tid t with
       | true => cases q2 : zae tid t' with
         | true => rw [<- za3 q1, <- za3 q2]
         | false => rw [q1] at h1; rw [q2] at h2; cases h1; exact absurd h2 (e _)
       | false => cases q2 : zae tid t' with
         | true => rw [q1] at h1; rw [q2] at h2; cases h2; exact absurd h1 (e _)
         | false => rw [q1] at h1; rw [q2] at h2; exact hi _ _ _ h1 h2
theorem zja {m m' : zc8} {tid : Nat} (h : zf8 m tid = some m') : Ext m m' /\ za1 m'.ids tid = some none := by
 unfold zf8 at h
 split at h
 · cases h
 · rename_i hx
   cases h
   refine ⟨⟨fun t x ht => ?_, fun _ h => h, fun hi t t' id' h1 h2 => ?_⟩, by simp [za1, za4]⟩
   · simp only [za1]
     split
     · rename_i e'; rw [za3 e'] at hx; rw [hx] at ht; cases ht
     · exact ht
   · simp only [za1] at h1 h2
     split at h1 <;> split at h2
     · cases h1
     · cases h1
     · cases h2
     · exact hi _ _ _ h1 h2
section
variable {h : Array Obj} {D : Nat -> Prop} {μ : Mu}
def Fin (m : zc8) (F : List (Nat × Option Nat)) : Prop := (∀ t x, za1 m.ids t = some x -> za1 F t = some x) /\ ∀ p, p ∈ m.ps -> p
theorem Fin.of {m m' : zc8} {F : List (Nat × Option Nat)} (e : Ext m m') (f : Fin m' F) : Fin m F := ⟨fun t x h => f.1 t x (e.ids t x h), fun p h => f.2 p (e.ps p h)⟩
theorem zb5 {F : List (Nat × Option Nat)} {t id : Nat} (h : za1 F t = some (some id)) : zdh μ F t = μ id := by unfold zdh; rw [h]
theorem zp9 {F : List (Nat × Option Nat)} {t : Nat} (h : za1 F t = some none) : zdh μ F t = some none := by unfold zdh; rw [h]
theorem zdv.turn {kk : KK} {has has' : Ky -> Bool} {es : Array MapEntry} {clock : Nat} {kf : Nat -> Ky} (k : zdv kk has' es clock kf) (e : ∀ x, has' x = has x) : zdv kk has es clock kf :=
 ⟨fun i x hx => ⟨(k.key i x hx).1, by rw [<- e]; exact (k.key i x hx).2⟩, fun x hx => k.all x (by rw [e]; exact hx), k.st⟩
theorem zki {m m' : zc8} {v u : AV} (e : zd5 m v u = some m') : Ext m m' /\ ∀ F x, Fin m' F -> R h D μ u x -> R h D (zdh μ F) v x := by
 unfold zd5 at e
 split at e
 · cases e; exact ⟨.refl _, fun F x _ _ => .dead _⟩
 · cases e; refine ⟨.add _ _, fun F x f r => ?_⟩
   have := f.2 _ (List.mem_cons_self ..); subst this
   cases r; exact .bool _
 · split at e
   · rename_i hk
     have hk := of_decide_eq_true hk; subst hk
     cases e; refine ⟨.add _ _, fun F x f r => ?_⟩
     have := f.2 _ (List.mem_cons_self ..); subst this
     cases r; exact .int _ _
   · cases e
 · cases e; refine ⟨.add _ _, fun F x f r => ?_⟩
   have := f.2 _ (List.mem_cons_self ..); subst this
   cases r with | str _ s e => exact .str _ s e
 · cases e; exact ⟨.refl _, fun F x _ r => by cases r; exact .nilp⟩
 · cases e; exact ⟨.refl _, fun F x _ r => by cases r; exact .nilm⟩
 · cases e; exact ⟨.refl _, fun F x _ r => by cases r; exact .nilf⟩
 · cases e; exact ⟨.refl _, fun F x _ r => by cases r; exact .nils⟩
 · cases e; exact ⟨.refl _, fun F x _ r => by cases r; exact .nili⟩
 · cases e; refine ⟨.add _ _, fun F x f r => ?_⟩
   have := f.2 _ (List.mem_cons_self ..); subst this
   cases r with
   | ifn => exact .ifn
   | ifs t p => exact .ifs t p
 · cases e; exact ⟨.refl _, fun F x _ r => by cases r; exact .emp _ _⟩
 · cases e; exact ⟨.refl _, fun F x _ r => by cases r; exact .emz _⟩
 · rename_i sz n get sz' n' get'
   split at e
   · rename_i hz
     have := za3 hz; subst this
     cases e; refine ⟨.add _ _, fun F x f r => ?_⟩
     obtain ⟨h1, h2⟩ := f.2 _ (List.mem_cons_self ..); subst h1
     cases r with
     | lst0 _ _ a cap hn => exact .lst0 _ _ a cap hn
     | lst _ _ _ b o cap vs hD hc hv h1 hr => exact .lst _ _ _ b o cap vs hD hc hv h1 (fun i j hi hj => by rw [<- h2 i j hi hj]; exact hr i j hi hj)
   · cases e
 · rename_i sz n get sz' n' get'
   split at e
   · rename_i hz
     have := za3 hz; subst this
     cases e; refine ⟨.add _ _, fun F x f r => ?_⟩
     obtain ⟨h1, h2⟩ := f.2 _ (List.mem_cons_self ..); subst h1
     cases r.lessx with
     | lst0 _ _ a cap hn => exact .lst0 _ _ a cap hn
     | lst _ _ _ b o cap vs hD hc hv h1 hr => exact .lst _ _ _ b o cap vs hD hc hv h1 (fun i j hi hj => by rw [<- h2 i j hi hj]; exact hr i j hi hj)
   · cases e
 · cases e; refine ⟨.add _ _, fun F x f r => ?_⟩
   have h1 := f.2 _ (List.mem_cons_self ..); subst h1
   cases r with | nils => exact .lst0 _ _ none 0 (fun _ => rfl)
 · cases e; refine ⟨.add _ _, fun F x f r => ?_⟩
   have h1 := f.2 _ (List.mem_cons_self ..); subst h1
   cases r with | emp a cap => exact .lst0 _ _ _ cap (fun h => by cases h)
 · cases e; refine ⟨.add _ _, fun F x f r => ?_⟩
   have h1 := f.2 _ (List.mem_cons_self ..); subst h1
   cases r with | emz a => exact .lst0 _ _ _ 0 (fun h => by cases h)
 · rename_i n get n' get'
   cases e; refine ⟨.add _ _, fun F x f r => ?_⟩
   obtain ⟨h1, h2⟩ := f.2 _ (List.mem_cons_self ..)
   cases r with
   | iptr _ _ b o vs hD hv h1' hr => exact .iptr _ _ b o vs hD (fun j hj => hv j (by omega)) (fun j hj => h1' j (by omega)) (fun j hj => by rw [<- h2 j hj]; exact hr j (by omega))
 · rename_i n get n' get'
   split at e
   · rename_i hz
     have := za3 hz; subst this
     cases e; refine ⟨.add _ _, fun F x f r => ?_⟩
     have h2 := f.2 _ (List.mem_cons_self ..)
     cases r with
     | arr _ _ vs e1 h1 hr => exact .arr _ _ vs e1 h1 (fun j v hv => by
         rw [<- h2 j (by rw [e1]; exact (Array.getElem?_eq_some_iff.1 hv).1)]
         exact hr j v hv)
   · cases e
 · split at e
   · rename_i ho
     have := za3 ho; subst this
     obtain ⟨e1, e2⟩ := zdo e
     refine ⟨e1, fun F x f r => ?_⟩
     cases r with | ref _ _ b z m hm => exact .ref _ _ b z m ((zb5 (f.1 _ _ e2)).trans hm)
   · cases e
 · split at e
   · rename_i hz
     split at e
     · rename_i ho
       split at e
       · rename_i m1 hp
         have := za3 hz; subst this
         have := za3 ho; subst this
         obtain ⟨e1, e2⟩ := zdo hp
         cases e
         refine ⟨e1.trans (.add _ _), fun F x f r => ?_⟩
         have h1 := f.2 _ (List.mem_cons_self ..); subst h1
         cases r with | eref _ _ _ _ b z m hm hi => exact .eref _ _ _ _ b z m ((zb5 (f.1 _ _ e2)).trans hm) hi
       · cases e
     · cases e
   · cases e
 · split at e
   · rename_i hz
     split at e
     · rename_i m1 hp
       have := za3 hz; subst this
       obtain ⟨e1, e2⟩ := zdo hp
       cases e
       refine ⟨e1.trans (.add _ _), fun F x f r => ?_⟩
       obtain ⟨h1, h2⟩ := f.2 _ (List.mem_cons_self ..); subst h1; subst h2
       cases r with
       | slv _ _ a hm => exact .slv _ _ a ((zb5 (f.1 _ _ e2)).trans hm)
       | sl0 _ _ _ b z m o hm ho => exact .sl0 _ _ _ b z m o ((zb5 (f.1 _ _ e2)).trans hm) ho
       | sl _ _ _ _ b z m cap hm hn hz ho => exact .sl _ _ _ _ b z m cap ((zb5 (f.1 _ _ e2)).trans hm) hn hz ho
     · cases e
   · cases e
 · split at e
   · rename_i hz
     split at e
     · rename_i m1 hp
       have := za3 hz; subst this
       obtain ⟨e1, e2⟩ := zdo hp
       cases e
       refine ⟨e1.trans (.add _ _), fun F x f r => ?_⟩
       obtain ⟨h1, h2⟩ := f.2 _ (List.mem_cons_self ..); subst h1; subst h2
       cases r.less with
       | slv _ _ a hm => exact .slv _ _ a ((zb5 (f.1 _ _ e2)).trans hm)
       | sl0 _ _ _ b z m o hm ho => exact .sl0 _ _ _ b z m o ((zb5 (f.1 _ _ e2)).trans hm) ho
       | sl _ _ _ _ b z m cap hm hn hz ho => exact .sl _ _ _ _ b z m cap ((zb5 (f.1 _ _ e2)).trans hm) hn hz ho
     · cases e
   · cases e
 · split at e
   · rename_i hz
     split at e
     · rename_i m1 hp
       have := za3 hz; subst this
       obtain ⟨e1, e2⟩ := zdo hp
       cases e
       refine ⟨e1.trans (.add _ _), fun F x f r => ?_⟩
       obtain ⟨h1, h2, h3⟩ := f.2 _ (List.mem_cons_self ..); subst h1; subst h2; subst h3
       cases r with
       | slcv _ _ a hm => exact .slcv _ _ a ((zb5 (f.1 _ _ e2)).trans hm)
       | slc0 _ _ _ b z m o hm ho => exact .slc0 _ _ _ b z m o ((zb5 (f.1 _ _ e2)).trans hm) ho
       | slc _ _ _ _ _ b z m hm hn hz ho => exact .slc _ _ _ _ _ b z m ((zb5 (f.1 _ _ e2)).trans hm) hn hz ho
     · cases e
   · cases e
 · split at e
   · rename_i m1 hp
     obtain ⟨e1, e2⟩ := zja hp
     cases e
     refine ⟨e1.trans (.add _ _), fun F x f r => ?_⟩
     obtain ⟨h1, h2⟩ := f.2 _ (List.mem_cons_self ..); subst h1; subst h2
     cases r with | nils => exact .slv _ _ none (zp9 (f.1 _ _ e2))
   · cases e
 · split at e
   · rename_i hf hfr
     have := za3 hf; subst this
     cases e; refine ⟨.add _ _, fun F x f r => ?_⟩
     obtain ⟨h1, h2⟩ := f.2 _ (List.mem_cons_self ..); subst h1; subst h2
     exact (zcl r hfr).free
   · cases e
 · obtain ⟨e1, e2⟩ := zdo e
   refine ⟨e1, fun F x f r => ?_⟩
   cases r with | mp _ b z m hm => exact .mp _ b z m ((zb5 (f.1 _ _ e2)).trans hm)
 · rename_i kk n has val kk' n' has' val'
   split at e
   · rename_i hk
     obtain rfl := of_decide_eq_true hk
     cases e; refine ⟨.add _ _, fun F x f r => ?_⟩
     obtain ⟨h1, h2, h3⟩ := f.2 _ (List.mem_cons_self ..)
     cases r with
     | mpi _ _ _ _ b es clock kf hD hb hn hk hr =>
       exact .mpi _ _ _ _ b es clock kf hD hb (hn.trans h1) (hk.turn h2) (fun i e he => by
         rw [<- h3 _ (by rw [<- h2]; exact (hk.key i e he).2)]; exact hr i e he)
   · cases e
 · cases e
theorem ze2 : ∀ {vs us : List AV} {m m' : zc8}, zfq m vs us = some m' -> Ext m m' /\ vs.length = us.length /\ ∀ F, Fin m' F -> ∀ (i : Nat) v u x, vs[i]? = some v -> us[i]? = some u -> R h D μ u x -> R h D (zdh μ F) v x
 | [], [], m, m', e => by cases e; exact ⟨.refl _, rfl, fun F f i v u x hv => by simp at hv⟩
 | [], _ :: _, m, m', e => by cases e
 | _ :: _, [], m, m', e => by cases e
 | v :: vs, u :: us, m, m', e => by
   unfold zfq at e
   split at e
   · rename_i m1 e1
     obtain ⟨x1, r1⟩ := zki (h := h) (D := D) (μ := μ) e1
     obtain ⟨x2, l2, r2⟩ := ze2 e
     refine ⟨x1.trans x2, by simp [l2], fun F f i v' u' x hv hu r => ?_⟩
     cases i with
     | zero => simp at hv hu; subst hv; subst hu; exact r1 F x (f.of x2) r
     | succ i => exact r2 F f i v' u' x (by simpa using hv) (by simpa using hu) r
   · cases e
theorem zpf {m m' : zc8} {v u : AV} (e : zfr m v u = some m') : Ext m m' /\ ∀ F x, Fin m' F -> R h D μ u x -> R h D (zdh μ F) v x := by
 unfold zfr at e
 split at e
 · split at e
   · exact zki e
   · split at e
     · rename_i m1 hf e1
       obtain rfl := za3 hf
       obtain ⟨x1, l1, r1⟩ := ze2 (h := h) (D := D) (μ := μ) e1
       obtain ⟨x2, l2, r2⟩ := ze2 (h := h) (D := D) (μ := μ) e
       refine ⟨x1.trans x2, fun F x f r => ?_⟩
       cases r with
       | fn _ _ _ vs us e1 e2 h1 h2 =>
         refine .fn _ _ _ vs us (by rw [l1, e1]) (by rw [l2, e2]) (fun i v x hv hx => ?_) (fun i v x hv hx => ?_)
         · have hlt := (List.getElem?_eq_some_iff.1 hv).1
           have hu := List.getElem?_eq_getElem (show i < _ by rw [<- l1]; exact hlt)
           exact r1 F (f.of x2) i v _ x hv hu (h1 i _ x hu hx)
         · have hlt := (List.getElem?_eq_some_iff.1 hv).1
           have hu := List.getElem?_eq_getElem (show i < _ by rw [<- l2]; exact hlt)
           exact r2 F f i v _ x hv hu (h2 i _ x hu hx)
     · cases e
 · obtain ⟨x1, l1, r1⟩ := ze2 (h := h) (D := D) (μ := μ) e
   refine ⟨x1, fun F x f r => ?_⟩
   obtain ⟨us, rfl, o1, s1, hr⟩ := r.inv_agg
   refine .agg _ _ (by rw [l1, s1]) o1 fun i v x hv hx => ?_
   obtain ⟨u, hu⟩ : ∃ u, (‹List AV› : List AV)[i]? = some u := by
     refine ⟨_, List.getElem?_eq_getElem ?_⟩
     rw [<- l1]; exact (List.getElem?_eq_some_iff.1 hv).1
   exact r1 F f i v u x hv hu (hr i u x hu hx)
 · exact zki e
theorem zdb {slots : List (Nat × AV)} {a : Act} : ∀ {ts : List (Nat × AV)} {m m' : zc8}, zeh slots ts m = some m' -> Ext m m' /\ ∀ F, Fin m' F -> (∀ t v, za1 slots t = some v -> R h D μ v (a.tmps.getD t undef)) ->
   ∀ t v, za1 ts t = some v -> R h D (zdh μ F) v (a.tmps.getD t undef)
 | [], m, m', e => by cases e; exact ⟨.refl _, fun F f _ t v hv => by cases hv⟩
 | (t, v) :: r, m, m', e => by
   unfold zeh at e
   split at e
   · rename_i u hu
     split at e
     · rename_i m1 e1
       obtain ⟨x1, r1⟩ := zpf (h := h) (D := D) (μ := μ) e1
       obtain ⟨x2, r2⟩ := zdb e
       refine ⟨x1.trans x2, fun F f hs t' v' hv => ?_⟩
       unfold za1 at hv
       split at hv
       · rename_i hb; cases hv; rw [<- za3 hb]; exact r1 F _ (f.of x2) (hs _ _ hu)
       · exact r2 F f hs t' v' hv
     · cases e
   · cases e
theorem zy9 {m m' : zc8} {v u : AV} (e : ybu m u v = some m') : Ext m m' /\ ∀ F x, Fin m' F -> R h D zan u x -> R h D (zdh μ F) v x := by
 unfold ybu at e
 split at e
 · cases e; exact ⟨.refl _, fun F x f r => .dead _⟩
 · split at e
   · rename_i m1 hp
     obtain ⟨e1, e2⟩ := zja hp
     cases e
     refine ⟨e1.trans (.add _ _), fun F x f r => ?_⟩
     obtain ⟨h1, h2, h3⟩ := f.2 _ (List.mem_cons_self ..)
     subst h1; subst h2; subst h3
     cases r with | nils => exact .slv _ _ none (zp9 (f.1 _ _ e2))
   · cases e
 · split at e
   · rename_i x hp
     cases e
     refine ⟨.add _ _, fun F x f r => ?_⟩
     have h1 := f.2 _ (List.mem_cons_self ..)
     subst h1
     exact r.free
   · cases e
theorem zly {y : Nat -> AV} : ∀ {vs : List AV} {j : Nat} {m m' : zc8}, zpc m y j vs = some m' -> Ext m m' /\ ∀ F, Fin m' F -> ∀ (i : Nat) v x, vs[i]? = some v -> R h D zan (y (j + i)) x -> R h D (zdh μ F) v x
 | [], j, m, m', e => by cases e; exact ⟨.refl _, fun F f i v x hv => by simp at hv⟩
 | v :: vs, j, m, m', e => by
   unfold zpc at e
   split at e
   · rename_i m1 e1
     obtain ⟨x1, r1⟩ := zy9 (h := h) (D := D) (μ := μ) e1
     obtain ⟨x2, r2⟩ := zly e
     refine ⟨x1.trans x2, fun F f i v' x hv r => ?_⟩
     cases i with
     | zero => simp at hv; subst hv; exact r1 F x (f.of x2) r
     | succ i => exact r2 F f i v' x (by simpa using hv) (by rw [show j + 1 + i = j + (i + 1) by omega]; exact r)
   · cases e
theorem zpe : ∀ {l l' : List (Ky × AV)}, zyb l l' = true -> l.map Prod.fst = l'.map Prod.fst
 | [], [], _ => rfl
 | [], _ :: _, e => by cases e
 | _ :: _, [], e => by cases e
 | (k, x) :: l, (k', x') :: l', e => by
   unfold zyb at e
   split at e
   · rename_i h; simp only [List.map_cons, zpe e]; rw [show k = k' from zi3 h]
   · cases e
theorem zje : ∀ {l l' : List (Ky × AV)}, l.map Prod.fst = l'.map Prod.fst -> ∀ {q}, (zat l q).isSome = (zat l' q).isSome
 | [], [], _, _ => rfl
 | [], _ :: _, e, _ => by cases e
 | _ :: _, [], e, _ => by cases e
 | (k, x) :: l, (k', x') :: l', e, q => by
   simp only [List.map_cons, List.cons.injEq] at e
   obtain ⟨rfl, e⟩ := e
   simp only [zat]
   cases kyb k q
   · exact zje e
   · rfl
theorem zjf : ∀ {l l' : List (Ky × AV)}, l.map Prod.fst = l'.map Prod.fst -> ∀ {q y}, zat l' q = some y -> ∃ (j : Nat) (v u : AV), (zbm Prod.snd l)[j]? = some v /\ (zbm Prod.snd l')[j]? = some u /\ zat l q = some v /\ u = y
 | [], [], _, _, _, e => by cases e
 | [], _ :: _, e, _, _, _ => by cases e
 | _ :: _, [], e, _, _, _ => by cases e
 | (k, x) :: l, (k', x') :: l', e, q, y, hy => by
   simp only [List.map_cons, List.cons.injEq] at e
   obtain ⟨rfl, e⟩ := e
   simp only [zat] at hy |-
   cases hk : kyb k q with
   | true => rw [hk] at hy; cases hy; exact ⟨0, x, x', rfl, rfl, rfl, rfl⟩
   | false =>
     rw [hk] at hy
     obtain ⟨j, v, u, h1, h2, h3, h4⟩ := zjf e hy
     exact ⟨j + 1, v, u, h1, h2, h3, h4⟩
theorem zul {m m' : zc8} {v u : Ob} (e : zpb m v u = some m') : Ext m m' /\ v ≠ .gone /\ u ≠ .gone /\ ∀ F x, Fin m' F -> zf5 h D μ u x -> zf5 h D (zdh μ F) v x := by
 unfold zpb at e
 split at e
 · rename_i ty us' ty' us
   split at e
   · rename_i hty
     obtain rfl := za3 hty
     obtain ⟨x1, l1, r1⟩ := ze2 (h := h) (D := D) (μ := μ) e
     refine ⟨x1, by simp, by simp, fun F x f ho => ?_⟩
     match x, ho with
     | some (b, z, mm), ⟨c, t, fr, e1, e2, e3, e4, e5, e6⟩ =>
       refine ⟨c, t, fr, e1, e2, e3, e4, by rw [l1, e5], fun i v x hv hx => ?_⟩
       obtain ⟨u, hu⟩ : ∃ u, us[i]? = some u := by
         refine ⟨_, List.getElem?_eq_getElem ?_⟩
         rw [<- l1]; exact (List.getElem?_eq_some_iff.1 hv).1
       exact r1 F f i v u x hv hu (e6 i u x hu hx)
   · cases e
 · split at e
   · rename_i hty hz
     have := za3 hz; subst this
     obtain rfl := za3 hty
     cases e
     refine ⟨.add _ _, by simp, by simp, fun F x f ho => ?_⟩
     obtain ⟨h1, h2⟩ := f.2 _ (List.mem_cons_self ..); subst h1
     match x, ho with
     | some (b, z, mm), ⟨e0, c, t, fr, e1, e2, e3, e4, e5⟩ =>
       exact ⟨e0, c, t, fr, e1, e2, e3, e4, fun i j hi hj => by
         obtain ⟨v, v1, v2, v3⟩ := e5 i j hi hj
         exact ⟨v, v1, v2, by rw [<- h2 i j hi hj]; exact v3⟩⟩
     | none, ho => exact ho
   · cases e
 · rename_i ty cs ty' cs'
   split at e
   · rename_i hty hl
     obtain rfl := za3 hty
     have hl := zb0 hl
     rw [za8, za8] at hl
     obtain ⟨x1, l1, r1⟩ := ze2 (h := h) (D := D) (μ := μ) e
     rw [za8, zai] at r1
     refine ⟨x1, by simp, by simp, fun F x f ho => ?_⟩
     match x, ho with
     | some (b, z, mm), ⟨c, t, fr, e1, e2, e3, e4, e5⟩ =>
       refine ⟨c, t, fr, e1, e2, e3, by omega, fun i v hv => ?_⟩
       have hi := (List.getElem?_eq_some_iff.1 hv).1
       have hu : cs'[i]? = some (cs'[i]'(by omega)) := by simp
       obtain ⟨x, x1, x2, x3⟩ := e5 i _ hu
       exact ⟨x, x1, x2, r1 F f i v _ x hv (by rw [List.getElem?_take, if_pos hi]; exact hu) x3⟩
     | none, ho =>
       have ho : cs' = [] := ho
       subst ho
       show cs = []
       exact List.eq_nil_of_length_eq_zero (by simpa using hl)
   · cases e
 · rename_i kk n has val kk' n' has' val'
   split at e
   · rename_i hk
     obtain rfl := of_decide_eq_true hk
     cases e
     refine ⟨.add _ _, by simp, by simp, fun F x f ho => ?_⟩
     obtain ⟨h1, h2, h3⟩ := f.2 _ (List.mem_cons_self ..)
     match x, ho with
     | some (b, z), ⟨es, clock, kf, hb, hn, hk, hr⟩ =>
       exact ⟨es, clock, kf, hb, hn.trans h1, hk.turn h2, fun i e he => by
         rw [<- h3 _ (by rw [<- h2]; exact (hk.key i e he).2)]; exact hr i e he⟩
   · cases e
 · rename_i q q'
   cases e
   refine ⟨.add _ _, by simp, by simp, fun F x f ho => ?_⟩
   have h1 := f.2 _ (List.mem_cons_self ..)
   match x, ho with
   | some (b, z), ⟨es, clock, hb, he⟩ => exact ⟨es, clock, hb, fun hq => he (h1 hq)⟩
 · rename_i kk l kk' l'
   split at e
   · rename_i hk hl
     obtain rfl := of_decide_eq_true hk
     have hl := zpe hl
     obtain ⟨x1, l1, r1⟩ := ze2 (h := h) (D := D) (μ := μ) e
     refine ⟨x1, by simp, by simp, fun F x f ho => ?_⟩
     match x, ho with
     | some (b, z), ⟨es, clock, kf, hb, hn, hks, hnd, hr⟩ =>
       have hlen : l'.length = l.length := by have := congrArg List.length hl; simpa using this.symm
       refine ⟨es, clock, kf, hb, hn.trans hlen, hks.turn fun k => ?_, by rw [hl]; exact hnd, fun i e he => ?_⟩
       · rw [zje hl]
       · obtain ⟨y, y1, y2⟩ := hr i e he
         obtain ⟨j, v, u, v1, v2, v3, v4⟩ := zjf hl y1
         subst v4
         exact ⟨v, v3, r1 F f j v _ e.val v1 v2 y2⟩
   · cases e
 · rename_i ty cs ty' sz n get
   split at e
   · rename_i hty
     obtain rfl := za3 hty
     split at e
     · rename_i m1 hm
       cases e
       obtain ⟨x1, r1⟩ := zly (h := h) (D := D) (μ := μ) hm
       refine ⟨x1.trans (.add _ _), by simp, by simp, fun F x f ho => ?_⟩
       have hle := f.2 _ (List.mem_cons_self ..)
       rw [za8] at hle
       match x, ho with
       | some (b, z, mm), ⟨e0, c, t, fr, e1, e2, e3, e4, e5⟩ =>
         refine ⟨c, t, fr, e1, e2, ⟨e3.1, e3.2.1⟩, by omega, fun i v hv => ?_⟩
         have hi := (List.getElem?_eq_some_iff.1 hv).1
         have hs : 0 < sz := by
           rcases Nat.eq_zero_or_pos sz with h0 | h0
           · rw [h0] at hle; omega
           · exact h0
         obtain ⟨x, x1, x2, x3⟩ := e5 (i / sz) (i % sz) (Nat.div_lt_of_lt_mul (by rw [Nat.mul_comm]; omega)) (Nat.mod_lt _ hs)
         rw [show i / sz * sz + i % sz = i by rw [Nat.mul_comm]; exact Nat.div_add_mod i _] at x1
         refine ⟨x, x1, x2, r1 F (f.of (.add _ _)) i v x hv ?_⟩
         rw [Nat.zero_add, zz0 _ _ _ hs]
         exact x3
       | none, ho =>
         have ho : n = 0 := ho
         subst ho
         show cs = []
         exact List.eq_nil_of_length_eq_zero (by omega)
     · cases e
   · cases e
 · cases e
theorem zrg {m m' : zc8} {v : Ob} (e : zno m v = some m') : Ext m m' /\ v ≠ .gone /\ ∀ F, Fin m' F -> zf5 h D (zdh μ F) v none := by
 unfold zno at e
 split at e
 · cases e
   refine ⟨.add _ _, by simp, fun F f => ?_⟩
   exact (f.2 _ (List.mem_cons_self ..)).symm
 · cases e
   exact ⟨.refl _, by simp, fun F f => rfl⟩
 · cases e
structure yg2 (h : Array Obj) (D : Nat -> Prop) (μ : Mu) (s : St) (ice : List Nat) (F : List (Nat × Option Nat)) (tid : Nat) (o : Ob) : Prop where
 live : o ≠ .gone
 pair : ∃ x, za1 F tid = some x /\ match x with
   | some id => (zb6 s.ice id = true -> zb6 ice tid = true) /\ ∃ o', za1 s.objs id = some o' /\ o' ≠ .gone /\ ∀ y, zf5 h D μ o' y -> zf5 h D (zdh μ F) o y
   | none => zf5 h D (zdh μ F) o none
theorem zce {s : St} {ice : List Nat} : ∀ {ts : List (Nat × Ob)} {m m' : zc8}, zf9 s ice ts m = some m' -> Ext m m' /\ ∀ F, Fin m' F -> ∀ tid o, za1 ts tid = some o -> yg2 h D μ s ice F tid o
 | [], m, m', e => by cases e; exact ⟨.refl _, fun F f t o ho => by cases ho⟩
 | (tid, o) :: r, m, m', e => by
   unfold zf9 at e
   split at e
   · rename_i id hid
     have key : ∀ o' m1, za1 s.objs id = some o' -> zpb m o o' = some m1 -> zf9 s ice r m1 = some m' -> (zb6 s.ice id = true -> zb6 ice tid = true) -> Ext m m' /\ ∀ F, Fin m' F -> ∀ t o1, za1 ((tid, o) :: r) t = some o1 -> yg2 h D μ s ice F t o1 := by
       intro o' m1 ho' hm e hice
       obtain ⟨x1, n1, n2, r1⟩ := zul (h := h) (D := D) (μ := μ) hm
       obtain ⟨x2, r2⟩ := zce e
       refine ⟨x1.trans x2, fun F f t o1 ht => ?_⟩
       unfold za1 at ht
       split at ht
       · rename_i hb
         have := za3 hb; subst this
         cases ht
         exact ⟨n1, some id, f.1 _ _ (x2.ids _ _ (x1.ids _ _ hid)), hice, o', ho', n2, fun y hy => r1 F y (f.of x2) hy⟩
       · exact r2 F f t o1 ht
     split at e
     · cases e
     · rename_i hno
       split at e
       · rename_i o' ho'
         split at e
         · rename_i m1 hm
           refine key o' m1 ho' hm e fun hi => ?_
           cases hti : zb6 ice tid with
           | true => rfl
           | false => exact absurd hti (hno hi)
         · cases e
       · cases e
   · rename_i hid
     split at e
     · rename_i m1 hm
       obtain ⟨x1, n1, r1⟩ := zrg (h := h) (D := D) (μ := μ) hm
       obtain ⟨x2, r2⟩ := zce e
       refine ⟨x1.trans x2, fun F f t o1 ht => ?_⟩
       unfold za1 at ht
       split at ht
       · rename_i hb
         have := za3 hb; subst this
         cases ht
         exact ⟨n1, none, f.1 _ _ (x2.ids _ _ (x1.ids _ _ hid)), r1 F (f.of x2)⟩
       · exact r2 F f t o1 ht
     · cases e
   · cases e
end
theorem zll {l : List Nat} {t : Nat} {x : Option Nat} (h : za1 (ztd l) t = some x) : x = some t := by
 induction l with
 | nil => simp [ztd, za1] at h
 | cons a l ih =>
   unfold ztd za1 at h
   split at h
   · rename_i e; cases h; rw [za3 e]
   · exact ih h
theorem zfx {objs : List (Nat × Ob)} : ∀ {l : List (Nat × Option Nat)}, zv0 objs l = true -> ∀ t x, za1 l t = some x -> za1 objs t ≠ none
 | [], _, t, x, h => by cases h
 | (k, y) :: l, e, t, x, h => by
   unfold zv0 at e
   split at e
   · rename_i o ho
     unfold za1 at h
     split at h
     · rename_i hb; rw [<- za3 hb]; simp only at ho; rw [ho]; simp
     · exact zfx e t x h
   · cases e
theorem zmc {objs : List (Nat × Ob)} : ∀ {l : List Nat}, zyt objs l = true -> ∀ t, zb6 l t = true -> za1 objs t ≠ none
 | [], _, t, h => by cases h
 | k :: l, e, t, h => by
   unfold zyt at e
   split at e
   · rename_i o ho
     unfold zb6 at h
     split at h
     · rename_i hb; rw [<- za3 hb, ho]; simp
     · exact zmc e t h
   · cases e
end Sy
end Go.Proofs.Ytlphgephdhadhaa
namespace Go.Proofs.Ytlphgephdhadhaa
namespace Sy
open Go Go.RowKit
set_option linter.unusedSimpArgs false
set_option linter.unusedVariables false
set_option linter.unusedSectionVars false
structure ydb (D : Nat -> Prop) (w : World) (μ : Mu) (O O1 : List (Nat × Ob)) (r : AV) (e : Ending) (v : Value) (w' : World) (D' : Nat -> Prop) (μ' : Mu) : Prop where
 ret : e = .returned v
 os : w'.os = w.os
 tape : w'.tape = w.tape
 output : w'.output = w.output
 size : w.heap.size <= w'.heap.size
 old : ∀ b, b < w.heap.size -> (∀ n z, μ n ≠ some (some (b, z))) -> w'.heap[b]? = w.heap[b]?
 up : ∀ b, D b -> D' b
 dn : ∀ b, D' b -> D b \/ (w.heap.size <= b /\ b < w'.heap.size) \/ ∃ n z, μ n = some (some (b, z))
 dom : ∀ n, μ' n = none ↔ za1 O1 n = none
 obs : ∀ n o x, za1 O1 n = some o -> μ' n = some x -> zf5 w'.heap D' μ' o x
 inj : ∀ n n' b z z', μ' n = some (some (b, z)) -> μ' n' = some (some (b, z')) -> n = n'
 own : ∀ n b z, μ' n = some (some (b, z)) -> b < w'.heap.size /\ ¬ D' b /\ (w.heap.size <= b \/ ∃ m z', μ m = some (some (b, z')))
 keep : ∀ n, za1 O n ≠ none -> za1 O1 n ≠ none -> μ' n = μ n
 val : R w'.heap D' μ' r v
def zbe (P : Program) (f : FuncId) (xs : List AV) (O : List (Nat × Ob)) (r : AV) (O1 : List (Nat × Ob)) : Prop :=
 ∀ (D : Nat -> Prop) (w : World) (μ : Mu) (vs : Array Value), (∀ b, D b -> b < w.heap.size) -> RL w.heap D μ xs vs ->
   (∀ n, μ n = none ↔ za1 O n = none) -> (∀ n o x, za1 O n = some o -> μ n = some x -> zf5 w.heap D μ o x) ->
   (∀ n n' b z z', μ n = some (some (b, z)) -> μ n' = some (some (b, z')) -> n = n') -> (∀ n b z, μ n = some (some (b, z)) -> b < w.heap.size /\ ¬ D b) -> GOk w -> (∀ n b z, μ n = some (some (b, z)) -> gN <= b) ->
   zer P f vs w fun e w' => ∃ v D' μ', ydb D w μ O O1 r e v w' D' μ'
structure zwk (g : Nat -> Option Ob) (c : Nat -> Bool) (raw : List AV) (F : List (Nat × Option Nat)) (fr : Nat) (T : yda) : Prop where
 len : raw.length = T.xs.length
 xs : ∀ h D μ vs, RL h D μ raw vs -> RL h D (zdh μ F) T.xs vs
 inj : Inj F
 dom : ∀ n x, za1 F n = some x -> za1 T.O n ≠ none
 obs : ∀ n o, za1 T.O n = some o -> ∃ x, za1 F n = some x /\ match x with
   | some id => c id = false /\ ∃ o', g id = some o' /\ o' ≠ .gone /\ ∀ h D μ y, zf5 h D μ o' y -> zf5 h D (zdh μ F) o y
   | none => ∀ h D μ, zf5 h D (zdh μ F) o none
 fresh : ∀ n o, za1 T.O1 n = some o -> (∀ id, za1 F n ≠ some (some id)) -> g (fr + n) = none
 unpin : ∀ n o, za1 T.O1 n = some o -> (∀ id, za1 F n ≠ some (some id)) -> ze6 (fr + n) = false
 ng : ∀ n, za1 T.O1 n ≠ some .gone
def mOs (F : List (Nat × Option Nat)) (fr : Nat) (T : yda) : List (Nat × Ob) := zb4 (zit F fr T.O1) (zen F T.O1 T.O)
theorem zd1 {α : Type} (os l : List (Nat × α)) (id : Nat) : za1 (zb4 os l) id = match za1 os id with | some o => some o | none => za1 l id := by
 induction os with
 | nil => rfl
 | cons x os ih =>
   obtain ⟨i, o⟩ := x
   simp only [zb4, za1]
   cases zae i id <;> simp [ih]
section
variable {F : List (Nat × Option Nat)} {fr : Nat} {h : Array Obj} {D : Nat -> Prop} {μ μ' : Mu}
theorem zgp (hμ : ∀ n y, μ n = some y -> μ' (tgt F fr n) = some y) {x : AV} {v : Value} (r : R h D μ x v) : R h D μ' (zr6 F fr x) v := by
 cases r with
 | dead v => exact .dead v
 | bool b => exact .bool b
 | int k n => exact .int k n
 | str l s e => exact .str l s e
 | nilp => exact .nilp
 | nilm => exact .nilm
 | nilf => exact .nilf
 | nils => exact .nils
 | nili => exact .nili
 | ifn => exact .ifn
 | ifs t p => exact .ifs t p
 | emp a cap => exact .emp a cap
 | emz a => exact .emz a
 | lst0 sz get a cap hn => exact .lst0 sz get a cap hn
 | lst sz n get b o cap vs hD hc hv h1 hr => exact .lst sz n get b o cap vs hD hc hv h1 hr
 | lstx sz n get a r => exact .lstx _ _ _ a (znp r)
 | iptr n get b o vs hD hv h1 hr => exact .iptr n get b o vs hD hv h1 hr
 | arr n get vs e h1 hr => exact .arr n get vs e h1 hr
 | ref id off b z m hm => exact .ref _ off b z m (hμ _ _ hm)
 | eref id sz i off b z m hm hi => exact .eref _ sz i off b z m (hμ _ _ hm) hi
 | slv id sz a hm => exact .slv _ sz a (hμ _ _ hm)
 | sl0 id sz off b z m o hm ho => exact .sl0 _ sz off b z m o (hμ _ _ hm) ho
 | sl id sz off n b z m cap hm hn hz ho => exact .sl _ sz off n b z m cap (hμ _ _ hm) hn hz ho
 | slcv id sz a hm => exact .slcv _ sz a (hμ _ _ hm)
 | slc0 id sz off b z m o hm ho => exact .slc0 _ sz off b z m o (hμ _ _ hm) ho
 | slc id sz off n cap b z m hm hn hz ho => exact .slc _ sz off n cap b z m (hμ _ _ hm) hn hz ho
 | fn f xs ys vs us e1 e2 h1 h2 =>
   simp only [zr6]
   split
   · rename_i hf; exact (zcl (.fn f xs ys vs us e1 e2 h1 h2) hf).free
   · exact .dead _
 | agg cs vs e h1 hr => exact .dead _
 | tup cs vs e hr => exact .dead _
 | mp id b z m hm => exact .mp _ b z m (hμ _ _ hm)
 | bidx id off n i b z m hm hi => exact .bidx _ off n i b z m (hμ _ _ hm) hi
 | mpi kk n has val b es clock kf hD hb hn hk hr => exact .mpi kk n has val b es clock kf hD hb hn hk hr
theorem zew {α β : Type} (k : α -> β) (l : List α) (i : Nat) : (zbm k l)[i]? = l[i]?.map k := by
 induction l generalizing i with
 | nil => rfl
 | cons x l ih => cases i with
   | zero => rfl
   | succ i => simp [zbm, ih]
theorem ze5 {α β : Type} (k : α -> β) (l : List α) : (zbm k l).length = l.length := by
 induction l with
 | nil => rfl
 | cons x l ih => simp [zbm, ih]
theorem yec (hμ : ∀ n y, μ n = some y -> μ' (tgt F fr n) = some y) {x : AV} {v : Value} (r : R h D μ x v) : R h D μ' (yed F fr x) v := by
 unfold yed
 split
 · obtain ⟨us, rfl, o1, s1, hr⟩ := r.inv_agg
   refine .agg _ _ (by rw [ze5]; exact s1) o1 fun i x v hx hv => ?_
   rw [zew] at hx
   obtain ⟨y, hy, rfl⟩ := Option.map_eq_some_iff.1 hx
   exact zgp hμ (hr i y v hy hv)
 · obtain ⟨us, rfl, l1, hr⟩ := r.inv_tup
   refine .tup _ _ (by rw [ze5]; exact l1) fun i x v hx hv => ?_
   rw [zew] at hx
   obtain ⟨y, hy, rfl⟩ := Option.map_eq_some_iff.1 hx
   exact zgp hμ (hr i y v hy hv)
 · split
   · rename_i hf; exact (zcl r hf).free
   · cases r with
     | fn f xs ys vs us e1 e2 h1 h2 =>
       refine .fn _ _ _ _ _ (by rw [ze5]; exact e1) (by rw [ze5]; exact e2) (fun i x v hx hv => ?_) (fun i x v hx hv => ?_)
       · rw [zew] at hx
         obtain ⟨y, hy, rfl⟩ := Option.map_eq_some_iff.1 hx
         exact zgp hμ (h1 i y v hy hv)
       · rw [zew] at hx
         obtain ⟨y, hy, rfl⟩ := Option.map_eq_some_iff.1 hx
         exact zgp hμ (h2 i y v hy hv)
 · exact zgp hμ r
theorem zxn (hμ : ∀ n y, μ n = some y -> μ' (tgt F fr n) = some y) {o : Ob} {x : Option (Nat × Nat × Nat)} (k : zf5 h D μ o x) : zf5 h D μ' (zr5 F fr o) x := by
 match o, x, k with
 | .box ty cs, some (b, z, m), ⟨c, t, q, e, r1, r2, r3, r4, r5⟩ =>
   refine ⟨c, t, q, e, r1, r2, r3, by rw [ze5]; exact r4, fun i x v hx hv => ?_⟩
   rw [zew] at hx
   obtain ⟨y, hy, rfl⟩ := Option.map_eq_some_iff.1 hx
   exact zgp hμ (r5 i y v hy hv)
 | .row ty sz n get, some (b, z, m), k => exact k
 | .spr ty cs, some (b, z, m), ⟨c, t, q, e, r1, r2, r3, r4⟩ =>
   refine ⟨c, t, q, e, r1, r2, by rw [ze5]; exact r3, fun i x hx => ?_⟩
   rw [zew] at hx
   obtain ⟨y, hy, rfl⟩ := Option.map_eq_some_iff.1 hx
   obtain ⟨v, v1, v2, v3⟩ := r4 i y hy
   exact ⟨v, v1, v2, zgp hμ v3⟩
 | .map kk n has val, some (b, z), k => exact k
 | .mapq e, some (b, z), k => exact k
 | .mapl kk l, some (b, z), ⟨es, clock, kf, e, r1, r2, r3, r4⟩ =>
   have hm : ∀ l : List (Ky × AV), (zbm (fun x => (x.1, zr6 F fr x.2)) l).map Prod.fst = l.map Prod.fst := by
     intro l
     induction l with
     | nil => rfl
     | cons x l ih => simp [zbm, ih]
   have hk : ∀ (l : List (Ky × AV)) q, zat (zbm (fun x => (x.1, zr6 F fr x.2)) l) q = (zat l q).map (zr6 F fr) := by
     intro l q
     induction l with
     | nil => rfl
     | cons x l ih => obtain ⟨k, x⟩ := x; simp only [zbm, zat]; split <;> simp [ih]
   refine ⟨es, clock, kf, e, by rw [ze5]; exact r1, ?_, by rw [hm]; exact r3, fun i e' he' => ?_⟩
   · simp only [hk, Option.isSome_map]; exact r2
   · obtain ⟨y, y1, y2⟩ := r4 i e' he'
     exact ⟨_, by rw [hk, y1]; rfl, zgp hμ y2⟩
 | .row _ _ n _, none, k => exact k
 | .spr _ cs, none, k =>
   have k : cs = [] := k
   subst k
   rfl
 | .gone, _, _ => exact trivial
end
theorem zhx {F : List (Nat × Option Nat)} {fr : Nat} : ∀ {O1 : List (Nat × Ob)} {i : Nat} {ob : Ob}, za1 (zit F fr O1) i = some ob -> ∃ n o, (n, o) ∈ O1 /\ tgt F fr n = i /\ ob = zr5 F fr o
 | [], i, ob, h => by cases h
 | (n, o) :: r, i, ob, h => by
   unfold zit za1 at h
   split at h
   · rename_i e; cases h; exact ⟨n, o, by simp, za3 e, rfl⟩
   · obtain ⟨m, o', h1, h2, h3⟩ := zhx h
     exact ⟨m, o', List.mem_cons_of_mem _ h1, h2, h3⟩
theorem zkf {F : List (Nat × Option Nat)} {fr : Nat} : ∀ {O1 : List (Nat × Ob)} (_ : ∀ n n', za1 O1 n ≠ none -> za1 O1 n' ≠ none -> tgt F fr n = tgt F fr n' -> n = n') {n : Nat} {o : Ob}, za1 O1 n = some o -> za1 (zit F fr O1) (tgt F fr n) = some (zr5 F fr o)
 | [], hi, n, o, h => by cases h
 | (m, o') :: r, hi, n, o, h => by
   have h0 := h
   unfold za1 at h
   unfold zit za1
   cases e : zae m n with
   | true =>
     have := za3 e; subst this
     rw [e] at h; cases h
     simp [za4]
   | false =>
     rw [e] at h
     simp only at h
     have hne : m ≠ n := by rintro rfl; rw [za4] at e; cases e
     have : zae (tgt F fr m) (tgt F fr n) = false := za9 fun x => hne (hi m n (by simp [za1, za4]) (by rw [h0]; simp) x)
     rw [this]
     refine zkf (O1 := r) (fun k k' h1 h2 h3 => hi k k' ?_ ?_ h3) h
     · unfold za1; split
       · simp
       · exact h1
     · unfold za1; split
       · simp
       · exact h2
theorem zkh {α : Type} : ∀ {l : List (Nat × α)} {n : Nat} {o : α}, (n, o) ∈ l -> za1 l n ≠ none
 | (m, o') :: r, n, o, h => by
   unfold za1
   split
   · simp
   · rename_i e
     rcases List.mem_cons.1 h with h | h
     · cases h; rw [za4] at e; cases e
     · exact zkh h
theorem zjj {F : List (Nat × Option Nat)} {O1 : List (Nat × Ob)} : ∀ {O : List (Nat × Ob)} {i : Nat} {ob : Ob}, za1 (zen F O1 O) i = some ob -> ob = .gone /\ ∃ n, za1 O n ≠ none /\ za1 O1 n = none /\ za1 F n = some (some i)
 | [], i, ob, h => by cases h
 | (n, o) :: r, i, ob, h => by
   have up : ∀ {m}, za1 r m ≠ none -> za1 ((n, o) :: r) m ≠ none := by
     intro m hm
     unfold za1
     split
     · simp
     · exact hm
   have down : za1 (zen F O1 r) i = some ob -> ob = .gone /\ ∃ m, za1 ((n, o) :: r) m ≠ none /\ za1 O1 m = none /\ za1 F m = some (some i) := fun h => by
     obtain ⟨h1, m, h2, h3, h4⟩ := zjj h
     exact ⟨h1, m, up h2, h3, h4⟩
   unfold zen at h
   split at h
   · exact down h
   · rename_i h1
     split at h
     · rename_i id hid
       unfold za1 at h
       split at h
       · rename_i e
         cases h
         exact ⟨rfl, n, by simp [za1, za4], h1, by rw [hid, za3 e]⟩
       · exact down h
     · exact down h
theorem zi9 {F : List (Nat × Option Nat)} {O1 : List (Nat × Ob)} : ∀ {O : List (Nat × Ob)} {n i : Nat}, za1 O n ≠ none -> za1 O1 n = none -> za1 F n = some (some i) -> za1 (zen F O1 O) i = some .gone
 | [], n, i, h, _, _ => by simp [za1] at h
 | (m, o) :: r, n, i, h, h1, h2 => by
   unfold zen
   unfold za1 at h
   cases e : zae m n with
   | true =>
     have := za3 e; subst this
     rw [h1, h2]
     simp [za1, za4]
   | false =>
     rw [e] at h
     have ih := zi9 (O := r) h h1 h2
     split
     · exact ih
     · split
       · unfold za1; split
         · rfl
         · exact ih
       · exact ih
section
variable {P : Program} {base : Nat} {M : Two} {W : World} {nt : Nat} {f : Nat -> Option AV} {g : Nat -> Option Ob} {c : Nat -> Bool} {a : Act} {w : World} {D : Nat -> Prop} {μ : Mu}
variable {raw : List AV} {F : List (Nat × Option Nat)} {fr : Nat} {T : yda}
theorem zwk.tgt_inj (hm : zwk g c raw F fr T) : ∀ n n', za1 T.O1 n ≠ none -> za1 T.O1 n' ≠ none -> tgt F fr n = tgt F fr n' -> n = n' := by
 have key : ∀ n n' id, za1 T.O1 n' ≠ none -> za1 F n = some (some id) -> (∀ id, za1 F n' ≠ some (some id)) -> id ≠ fr + n' := by
   intro n n' id h1 h2 h3 e
   obtain ⟨o, ho⟩ := Option.ne_none_iff_exists'.1 (hm.dom n _ h2)
   obtain ⟨x, hx, hx2⟩ := hm.obs n o ho
   rw [h2] at hx; cases hx
   obtain ⟨_, o', ho', _⟩ := hx2
   obtain ⟨o1, ho1⟩ := Option.ne_none_iff_exists'.1 h1
   rw [e, hm.fresh n' o1 ho1 h3] at ho'
   cases ho'
 have no : ∀ {n}, ¬ (∃ id, za1 F n = some (some id)) -> (∀ id, za1 F n ≠ some (some id)) /\ tgt F fr n = fr + n := by
   intro n h
   refine ⟨fun id e => h ⟨id, e⟩, ?_⟩
   unfold tgt
   split
   · rename_i id e; exact absurd ⟨id, e⟩ h
   · rfl
 have yes : ∀ {n id}, za1 F n = some (some id) -> tgt F fr n = id := by
   intro n id h; unfold tgt; rw [h]
 intro n n' h1 h2 h3
 by_cases e : ∃ id, za1 F n = some (some id) <;> by_cases e' : ∃ id, za1 F n' = some (some id)
 · obtain ⟨id, e⟩ := e
   obtain ⟨id', e'⟩ := e'
   rw [yes e, yes e'] at h3
   subst h3
   exact hm.inj _ _ _ e e'
 · obtain ⟨id, e⟩ := e
   obtain ⟨q1, q2⟩ := no e'
   rw [yes e, q2] at h3
   exact absurd h3 (key n n' id h2 e q1)
 · obtain ⟨id, e'⟩ := e'
   obtain ⟨q1, q2⟩ := no e
   rw [yes e', q2] at h3
   exact absurd h3.symm (key n' n id h1 e' q1)
 · rw [(no e).2, (no e').2] at h3
   omega
theorem zwk.asks (hm : zwk g c raw F fr T) (h : Sim base M W nt f g c a w D μ) :
   (∀ n, zdh μ F n = none ↔ za1 T.O n = none) /\ (∀ n o x, za1 T.O n = some o -> zdh μ F n = some x -> zf5 w.heap D (zdh μ F) o x) /\
   (∀ n n' b z z', zdh μ F n = some (some (b, z)) -> zdh μ F n' = some (some (b, z')) -> n = n') /\ (∀ n b z, zdh μ F n = some (some (b, z)) -> b < w.heap.size /\ ¬ D b /\ ∃ id o, za1 F n = some (some id) /\ μ id = some (some (b, z)) /\ g id = some o /\ o ≠ .gone /\ c id = false) := by
 have own : ∀ n b z, zdh μ F n = some (some (b, z)) -> ∃ id o, za1 F n = some (some id) /\ μ id = some (some (b, z)) /\ g id = some o /\ o ≠ .gone /\ c id = false := by
   intro n b z hn
   unfold zdh at hn
   split at hn
   · rename_i id hid
     obtain ⟨o, ho⟩ := Option.ne_none_iff_exists'.1 (hm.dom n _ hid)
     obtain ⟨x, hx, hx2⟩ := hm.obs n o ho
     rw [hid] at hx; cases hx
     obtain ⟨c1, o', ho', ho2, _⟩ := hx2
     exact ⟨id, o', hid, hn, ho', ho2, c1⟩
   · cases hn
   · cases hn
 refine ⟨fun n => ⟨fun hn => ?_, fun hn => ?_⟩, fun n o x ho hx => ?_, fun n n' b z z' h1 h2 => ?_, fun n b z h1 => ?_⟩
 · refine Classical.byContradiction fun hne => ?_
   obtain ⟨o, ho⟩ := Option.ne_none_iff_exists'.1 hne
   obtain ⟨x, hx, hx2⟩ := hm.obs n o ho
   unfold zdh at hn
   rw [hx] at hn
   cases x with
   | none => cases hn
   | some id =>
     obtain ⟨_, o', ho', _⟩ := hx2
     rw [(h.dom id).1 hn] at ho'
     cases ho'
 · unfold zdh
   split
   · rename_i e; exact absurd hn (hm.dom n _ e)
   · rename_i e; exact absurd hn (hm.dom n _ e)
   · rfl
 · obtain ⟨y, hy, hy2⟩ := hm.obs n o ho
   unfold zdh at hx
   rw [hy] at hx
   cases y with
   | none => cases hx; exact hy2 _ _ _
   | some id =>
     obtain ⟨_, o', ho', _, ho3⟩ := hy2
     exact ho3 _ _ _ _ (h.obs id o' x ho' hx)
 · obtain ⟨id, o, q1, q2, q3, q4, q5⟩ := own n b z h1
   obtain ⟨id', o', r1, r2, r3, r4, r5⟩ := own n' b z' h2
   have := h.inj id id' b z z' o o' q2 r2 q3 r3 q4 r4
   subst this
   exact hm.inj _ _ _ q1 r1
 · obtain ⟨id, o, q1, q2, q3, q4, q5⟩ := own n b z h1
   exact ⟨(h.own id b z q2).1, (h.kd id b z o q2 q3 q4).2 q5, id, o, q1, q2, q3, q4, q5⟩
open Classical in
noncomputable def muM (μ μ1 : Mu) (F : List (Nat × Option Nat)) (fr : Nat) (O1 : List (Nat × Ob)) : Mu := fun i =>
 if e : ∃ n, za1 O1 n ≠ none /\ tgt F fr n = i then μ1 (Classical.choose e) else μ i
theorem ybt (hm : zwk g c raw F fr T) (μ1 : Mu) {n : Nat} (hn : za1 T.O1 n ≠ none) : muM μ μ1 F fr T.O1 (tgt F fr n) = μ1 n := by
 unfold muM
 have e : ∃ m, za1 T.O1 m ≠ none /\ tgt F fr m = tgt F fr n := ⟨n, hn, rfl⟩
 rw [dif_pos e]
 have := Classical.choose_spec e
 rw [hm.tgt_inj _ _ this.1 hn this.2]
theorem zue {μ1 : Mu} {O1 : List (Nat × Ob)} {i : Nat} (hn : ¬ ∃ n, za1 O1 n ≠ none /\ tgt F fr n = i) : muM μ μ1 F fr O1 i = μ i := by
 unfold muM; rw [dif_neg hn]
theorem Sim.mcall (h : Sim base M W nt f g c a w D μ) (hm : zwk g c raw F fr T) {e : Ending} {v : Value} {w' : World} {D' : Nat -> Prop} {μ1 : Mu} (he : ydb D w (zdh μ F) T.O T.O1 T.r e v w' D' μ1) :
   ∃ μ', Sim base M W nt f (zao g (mOs F fr T)) c a w' D' μ' /\ R w'.heap D' μ' (yed F fr T.r) v := by
 obtain ⟨a1, a2, a3, a4⟩ := hm.asks h
 have tin := hm.tgt_inj
 obtain ⟨μ', hμ'⟩ : ∃ μ', μ' = muM μ μ1 F fr T.O1 := ⟨_, rfl⟩
 have m1 : ∀ n, za1 T.O1 n ≠ none -> μ' (tgt F fr n) = μ1 n := fun n hn => by rw [hμ']; exact ybt hm μ1 hn
 have m2 : ∀ i, (¬ ∃ n, za1 T.O1 n ≠ none /\ tgt F fr n = i) -> μ' i = μ i := fun i hn => by rw [hμ']; exact zue hn
 have m3 : ∀ n y, μ1 n = some y -> μ' (tgt F fr n) = some y := fun n y hy => by
   rw [m1 n (fun e => by rw [(he.dom n).2 e] at hy; cases hy), hy]
 have ext : ∀ id x, μ id = some x -> μ' id = some x := by
   intro id x hx
   by_cases e : ∃ n, za1 T.O1 n ≠ none /\ tgt F fr n = id
   · obtain ⟨n, hn, rfl⟩ := e
     rw [m1 n hn]
     by_cases e2 : ∃ id, za1 F n = some (some id)
     · obtain ⟨id, hid⟩ := e2
       have ht : tgt F fr n = id := by unfold tgt; rw [hid]
       rw [ht] at hx
       rw [he.keep n (hm.dom n _ hid) hn]
       unfold zdh; rw [hid]; exact hx
     · have hno : ∀ id, za1 F n ≠ some (some id) := fun id e => e2 ⟨id, e⟩
       have ht : tgt F fr n = fr + n := by
         unfold tgt
         split
         · rename_i id e; exact absurd e (hno id)
         · rfl
       obtain ⟨o, ho⟩ := Option.ne_none_iff_exists'.1 hn
       rw [ht, (h.dom _).2 (hm.fresh n o ho hno)] at hx
       cases hx
   · rw [m2 id e]; exact hx
 have hos1 : ∀ n o, za1 T.O1 n = some o -> zao g (mOs F fr T) (tgt F fr n) = some (zr5 F fr o) := by
   intro n o ho
   unfold zao mOs
   rw [zd1, zkf tin ho]
 have hos2 : ∀ i, (¬ ∃ n, za1 T.O1 n ≠ none /\ tgt F fr n = i) -> (∃ n, za1 T.O n ≠ none /\ za1 T.O1 n = none /\ za1 F n = some (some i)) -> zao g (mOs F fr T) i = some .gone := by
   rintro i hn ⟨n, h1, h2, h3⟩
   unfold zao mOs
   rw [zd1]
   cases e : za1 (zit F fr T.O1) i with
   | some ob =>
     obtain ⟨m, o, q1, q2, _⟩ := zhx e
     exact absurd ⟨m, zkh q1, q2⟩ hn
   | none => simp only; rw [zi9 h1 h2 h3]
 have hos3 : ∀ i, (¬ ∃ n, za1 T.O1 n ≠ none /\ tgt F fr n = i) -> (¬ ∃ n, za1 T.O n ≠ none /\ za1 T.O1 n = none /\ za1 F n = some (some i)) -> zao g (mOs F fr T) i = g i := by
   intro i hn hn2
   unfold zao mOs
   rw [zd1]
   cases e : za1 (zit F fr T.O1) i with
   | some ob =>
     obtain ⟨m, o, q1, q2, _⟩ := zhx e
     exact absurd ⟨m, zkh q1, q2⟩ hn
   | none =>
     simp only
     cases e2 : za1 (zen F T.O1 T.O) i with
     | none => rfl
     | some ob => exact absurd (zjj e2).2 hn2
 have alive : ∀ i o, zao g (mOs F fr T) i = some o -> o ≠ .gone -> (∃ n o1, za1 T.O1 n = some o1 /\ tgt F fr n = i /\ o = zr5 F fr o1) \/ (g i = some o /\ μ' i = μ i /\ ∀ n, za1 F n ≠ some (some i)) := by
   intro i o ho hng
   by_cases e : ∃ n, za1 T.O1 n ≠ none /\ tgt F fr n = i
   · obtain ⟨n, hn, rfl⟩ := e
     obtain ⟨o1, ho1⟩ := Option.ne_none_iff_exists'.1 hn
     rw [hos1 n o1 ho1] at ho
     cases ho
     exact .inl ⟨n, o1, ho1, rfl, rfl⟩
   · by_cases e2 : ∃ n, za1 T.O n ≠ none /\ za1 T.O1 n = none /\ za1 F n = some (some i)
     · rw [hos2 i e e2] at ho; cases ho; exact absurd rfl hng
     · rw [hos3 i e e2] at ho
       refine .inr ⟨ho, m2 i e, fun n hn => ?_⟩
       by_cases e3 : za1 T.O1 n = none
       · exact e2 ⟨n, hm.dom n _ hn, e3, hn⟩
       · exact e ⟨n, e3, by unfold tgt; rw [hn]⟩
 have other : ∀ i o b z, g i = some o -> o ≠ .gone -> μ i = some (some (b, z)) -> (∀ n, za1 F n ≠ some (some i)) -> ∀ n z', zdh μ F n ≠ some (some (b, z')) := by
   intro i o b z hi hng hb hno n z' hn
   obtain ⟨_, _, id, o', q1, q2, q3, q4, q5⟩ := a4 n b z' hn
   have := h.inj i id b z z' o o' hb q2 hi q3 hng q4
   subst this
   exact hno n q1
 have hD : ∀ b, D b -> w'.heap[b]? = w.heap[b]? := fun b hb => he.old b (h.dlt b hb) fun n z hn => (a4 n b z hn).2.1 hb
 refine ⟨μ', ?_, yec m3 he.val⟩
 exact {
   os := he.os.trans h.os
   tape := he.tape.trans h.tape
   output := he.output.trans h.output
   size := Nat.le_trans h.size he.size
   bs := Nat.le_trans h.bs he.size
   old := fun b h1 h2 => (he.old b (by have := h.bs; omega) fun n z hn => by
     obtain ⟨_, _, id, o', q1, q2, _⟩ := a4 n b z hn
     rcases (h.own id b z q2).2 with q | q
     · omega
     · exact h2 q).trans (h.old b h1 h2)
   defers := h.defers
   tmps := h.tmps
   slots := fun t v hv => (h.slots t v hv).mono hD he.up ext
   dlt := fun b hb => by
     rcases he.dn b hb with q | q | ⟨n, z, q⟩
     · exact Nat.lt_of_lt_of_le (h.dlt b q) he.size
     · exact q.2
     · exact Nat.lt_of_lt_of_le (a4 n b z q).1 he.size
   low := fun b hb hlt => by
     rcases he.dn b hb with q | q | ⟨n, z, q⟩
     · exact h.low b q hlt
     · have := h.bs; omega
     · obtain ⟨_, _, id, o', q1, q2, _⟩ := a4 n b z q
       rcases (h.own id b z q2).2 with q | q
       · omega
       · exact .inr q
   dom := fun i => by
     by_cases e : ∃ n, za1 T.O1 n ≠ none /\ tgt F fr n = i
     · obtain ⟨n, hn, rfl⟩ := e
       obtain ⟨o1, ho1⟩ := Option.ne_none_iff_exists'.1 hn
       rw [m1 n hn, hos1 n o1 ho1, he.dom n, ho1]
       simp
     · rw [m2 i e]
       by_cases e2 : ∃ n, za1 T.O n ≠ none /\ za1 T.O1 n = none /\ za1 F n = some (some i)
       · rw [hos2 i e e2]
         obtain ⟨n, h1, h2, h3⟩ := e2
         obtain ⟨o, ho⟩ := Option.ne_none_iff_exists'.1 h1
         obtain ⟨x, hx, hx2⟩ := hm.obs n o ho
         rw [h3] at hx; cases hx
         obtain ⟨_, o', ho', _⟩ := hx2
         rw [h.dom i, ho']; simp
       · rw [hos3 i e e2]; exact h.dom i
   obs := fun i o x ho hx => by
     by_cases hg : o = .gone
     · subst hg; cases x <;> exact trivial
     rcases alive i o ho hg with ⟨n, o1, q1, rfl, rfl⟩ | ⟨q1, q2, q3⟩
     · rw [m1 n (by rw [q1]; simp)] at hx
       exact zxn m3 (he.obs n o1 x q1 hx)
     · rw [q2] at hx
       exact (h.obs i o x q1 hx).mono hD he.up ext (fun b z hx2 _ => he.old b (h.own i b z (by rw [hx, hx2])).1 (other i o b z q1 hg (by rw [hx, hx2]) q3))
   inj := fun i i' b z z' o o' h1 h2 h3 h4 h5 h6 => by
     rcases alive i o h3 h5 with ⟨n, o1, q1, rfl, rfl⟩ | ⟨q1, q2, q3⟩ <;> rcases alive i' o' h4 h6 with ⟨n', o1', q1', rfl, rfl⟩ | ⟨q1', q2', q3'⟩
     · rw [m1 n (by rw [q1]; simp)] at h1
       rw [m1 n' (by rw [q1']; simp)] at h2
       rw [he.inj n n' b z z' h1 h2]
     · rw [m1 n (by rw [q1]; simp)] at h1
       rw [q2'] at h2
       rcases (he.own n b z h1).2.2 with q | ⟨m, z2, q⟩
       · have := (h.own i' b z' h2).1; omega
       · exact absurd q (other i' o' b z' q1' h6 h2 q3' m z2)
     · rw [m1 n' (by rw [q1']; simp)] at h2
       rw [q2] at h1
       rcases (he.own n' b z' h2).2.2 with q | ⟨m, z2, q⟩
       · have := (h.own i b z h1).1; omega
       · exact absurd q (other i o b z q1 h5 h1 q3 m z2)
     · rw [q2] at h1; rw [q2'] at h2
       exact h.inj i i' b z z' o o' h1 h2 q1 q1' h5 h6
   own := fun i b z h1 => by
     by_cases e : ∃ n, za1 T.O1 n ≠ none /\ tgt F fr n = i
     · obtain ⟨n, hn, rfl⟩ := e
       rw [m1 n hn] at h1
       obtain ⟨k1, k2, k3⟩ := he.own n b z h1
       refine ⟨k1, ?_⟩
       rcases k3 with q | ⟨m, z2, q⟩
       · have := h.bs; exact .inl (by omega)
       · obtain ⟨_, _, id, o', q1, q2, _⟩ := a4 m b z2 q
         exact (h.own id b z2 q2).2
     · rw [m2 i e] at h1
       exact ⟨Nat.lt_of_lt_of_le (h.own i b z h1).1 he.size, (h.own i b z h1).2⟩
   kd := fun i b z o h1 h2 h3 => by
     rcases alive i o h2 h3 with ⟨n, o1, q1, rfl, rfl⟩ | ⟨q1, q2, q3⟩
     · rw [m1 n (by rw [q1]; simp)] at h1
       have k := (he.own n b z h1).2.1
       have hc : c (tgt F fr n) = false := by
         by_cases e2 : ∃ id, za1 F n = some (some id)
         · obtain ⟨id, hid⟩ := e2
           have ht : tgt F fr n = id := by unfold tgt; rw [hid]
           obtain ⟨o, ho⟩ := Option.ne_none_iff_exists'.1 (hm.dom n _ hid)
           obtain ⟨x, hx, hx2⟩ := hm.obs n o ho
           rw [hid] at hx; cases hx
           rw [ht]; exact hx2.1
         · have hno : ∀ id, za1 F n ≠ some (some id) := fun id e => e2 ⟨id, e⟩
           have ht : tgt F fr n = fr + n := by
             unfold tgt
             split
             · rename_i id e; exact absurd e (hno id)
             · rfl
           rw [ht]
           cases hc : c (fr + n) with
           | false => rfl
           | true => exact absurd (hm.fresh n o1 q1 hno) (h.icy _ hc)
       exact ⟨fun hx => (by rw [hc] at hx; cases hx), fun _ => k⟩
     · rw [q2] at h1
       obtain ⟨k1, k2⟩ := h.kd i b z o h1 q1 h3
       refine ⟨fun hc => he.up b (k1 hc), fun hc hd => ?_⟩
       rcases he.dn b hd with q | q | ⟨n, z2, q⟩
       · exact k2 hc q
       · have := (h.own i b z h1).1; omega
       · exact other i o b z q1 h3 h1 q3 n z2 q
   ntb := h.ntb
   gl := h.gl
   pin := fun i y hp hy => by
     by_cases e : ∃ n, za1 T.O1 n ≠ none /\ tgt F fr n = i
     · obtain ⟨n, hn, rfl⟩ := e
       by_cases e2 : ∃ id, za1 F n = some (some id)
       · obtain ⟨id, hid⟩ := e2
         have ht : tgt F fr n = id := by unfold tgt; rw [hid]
         rw [m1 n hn, he.keep n (hm.dom n _ hid) hn] at hy
         unfold zdh at hy; rw [hid] at hy
         rw [ht] at hp |-
         exact h.pin id y hp hy
       · have hno : ∀ id, za1 F n ≠ some (some id) := fun id e => e2 ⟨id, e⟩
         have ht : tgt F fr n = fr + n := by
           unfold tgt
           split
           · rename_i id e; exact absurd e (hno id)
           · rfl
         obtain ⟨o1, ho1⟩ := Option.ne_none_iff_exists'.1 hn
         rw [ht, hm.unpin n o1 ho1 hno] at hp; cases hp
     · rw [m2 i e] at hy; exact h.pin i y hp hy
   icy := fun i hi => by
     have := h.icy i hi
     by_cases e : ∃ n, za1 T.O1 n ≠ none /\ tgt F fr n = i
     · obtain ⟨n, hn, rfl⟩ := e
       obtain ⟨o1, ho1⟩ := Option.ne_none_iff_exists'.1 hn
       rw [hos1 n o1 ho1]; simp
     · by_cases e2 : ∃ n, za1 T.O n ≠ none /\ za1 T.O1 n = none /\ za1 F n = some (some i)
       · rw [hos2 i e e2]; simp
       · rw [hos3 i e e2]; exact this }
end
theorem zdu {α : Type} : ∀ (xs : List α) (i t : Nat), za1 (zrb i xs) t = if i <= t then xs[t - i]? else none
 | [], i, t => by simp [zrb, za1]
 | x :: xs, i, t => by
   unfold zrb za1
   cases e : zae i t with
   | true => have := za3 e; subst this; simp
   | false =>
     have hne : i ≠ t := by rintro rfl; rw [za4] at e; cases e
     simp only
     rw [zdu xs (i + 1) t]
     by_cases h : i <= t
     · rw [if_pos (by omega), if_pos h]
       obtain ⟨k, hk⟩ : ∃ k, t - i = k + 1 := ⟨t - i - 1, by omega⟩
       rw [hk, show t - (i + 1) = k by omega]
       simp
     · rw [if_neg (by omega), if_neg h]
theorem ze7 {objs : List (Nat × Ob)} {F : List (Nat × Option Nat)} {fr : Nat} : ∀ {O1 : List (Nat × Ob)}, zgi objs F fr O1 = true -> ∀ n o, za1 O1 n = some o -> (∀ id, za1 F n ≠ some (some id)) -> za1 objs (fr + n) = none /\ ze6 (fr + n) = false
 | [], _, n, o, h, _ => by cases h
 | (m, o') :: r, e, n, o, h, hno => by
   unfold zgi at e
   unfold za1 at h
   split at e
   · rename_i id hid
     split at h
     · rename_i hb
       rw [za3 hb] at hid
       exact absurd hid (hno id)
     · exact ze7 e n o h hno
   · split at e
     · rename_i hf hp
       split at h
       · rename_i hb; rw [za3 hb] at hf hp; exact ⟨hf, hp⟩
       · exact ze7 e n o h hno
     · cases e
theorem zcd : ∀ {O1 : List (Nat × Ob)}, zp6 O1 = true -> ∀ n, za1 O1 n ≠ some .gone
 | [], _, n => by simp [za1]
 | (m, o) :: r, e, n => by
   unfold za1
   unfold zp6 at e
   cases o with
   | gone => cases e
   | box _ _ =>
     split
     · simp
     · exact zcd e n
   | row _ _ _ _ =>
     split
     · simp
     · exact zcd e n
   | spr _ _ =>
     split
     · simp
     · exact zcd e n
   | map _ _ _ _ =>
     split
     · simp
     · exact zcd e n
   | mapl _ _ =>
     split
     · simp
     · exact zcd e n
   | mapq _ =>
     split
     · simp
     · exact zcd e n
theorem zya {s : St} {raw : List AV} {T : yda} {m : zc8} {fr : Nat} (e : ybv s raw T = some m) (hf : zgi s.objs m.ids fr T.O1 = true) (hp : ∀ p, p ∈ m.ps -> p) : zwk (za1 s.objs) (zb6 s.ice) raw m.ids fr T := by
 unfold ybv at e
 split at e
 · rename_i hlen
   have hlen := za3 hlen
   rw [za8, za8] at hlen
   split at e
   · rename_i m1 e1
     split at e
     · rename_i m2 e2
       split at e
       · rename_i h3 h4
         cases e
         have x1 := fun h D μ a => zdb (h := h) (D := D) (μ := μ) (a := a) e1
         have x2 := fun h D μ => zce (h := h) (D := D) (μ := μ) e2
         have F0 : Fin m m.ids := ⟨fun _ _ h => h, hp⟩
         have X1 := (x1 #[] (fun _ => False) zan ⟨#[], []⟩).1
         have X2 := (x2 #[] (fun _ => False) zan).1
         refine { len := hlen, xs := fun h D μ vs hr => ?_, inj := X2.inj (X1.inj (fun t t' id h => by cases h)), dom := fun n x hx => zfx h3 n x hx, obs := fun n o ho => ?_, fresh := fun n o h1 h2 => (ze7 hf n o h1 h2).1, unpin := fun n o h1 h2 => (ze7 hf n o h1 h2).2, ng := zcd h4 }
         · refine ⟨by rw [<- hlen]; exact hr.1, fun i x v hx hv => ?_⟩
           have := (x1 h D μ ⟨vs, []⟩).2 m.ids (F0.of X2) (fun t u hu => by
             rw [zdu, if_pos (by omega), Nat.sub_zero] at hu
             have hlt : t < vs.size := by rw [<- hr.1]; exact (List.getElem?_eq_some_iff.1 hu).1
             have h1 : vs[t]? = some vs[t] := by simp [hlt]
             have h2 : vs.getD t undef = vs[t] := by rw [Array.getD_eq_getD_getElem?, h1]; rfl
             rw [h2]
             exact hr.2 t u _ hu h1) i x (by rw [zdu, if_pos (by omega), Nat.sub_zero]; exact hx)
           have h2 : vs.getD i undef = v := by rw [Array.getD_eq_getD_getElem?, hv]; rfl
           rw [h2] at this
           exact this
         · obtain ⟨x, hx, _⟩ := ((x2 #[] (fun _ => False) zan).2 m.ids F0 n o ho).pair
           refine ⟨x, hx, ?_⟩
           cases x with
           | none =>
             intro h D μ
             obtain ⟨y, hy, hy2⟩ := ((x2 h D μ).2 m.ids F0 n o ho).pair
             rw [hx] at hy; cases hy; exact hy2
           | some id =>
             have hh := fun h D μ => ((x2 h D μ).2 m.ids F0 n o ho).pair
             obtain ⟨y, hy, hy2⟩ := hh #[] (fun _ => False) zan
             rw [hx] at hy; cases hy
             obtain ⟨q1, o', q2, q3, _⟩ := hy2
             refine ⟨?_, o', q2, q3, fun h D μ z hz => ?_⟩
             · cases hc : zb6 s.ice id with
               | false => rfl
               | true => exact absurd (q1 hc) (by simp [zb6])
             · obtain ⟨y, hy, hy2⟩ := hh h D μ
               rw [hx] at hy; cases hy
               obtain ⟨_, o2, r2, _, r4⟩ := hy2
               rw [q2] at r2; cases r2
               exact r4 z hz
       · cases e
     · cases e
   · cases e
 · cases e
def yad (P : Program) (f : Nat -> Option AV) (g : Nat -> Option Ob) (c : Nat -> Bool) (o : Oper) (v : AV) (os : List (Nat × Ob)) : Prop :=
 ∃ fo xs ts k first caps zs F fr T, o.op = .call { callee := .value fo, args := xs, argTypes := ts } /\ zbm (evf f []) (zb3 o.op) = .fn k first caps :: zs /\ zbe P k T.xs T.O T.r T.O1 /\
   zwk g c (zb4 first (zb4 zs caps)) F fr T /\ v = yed F fr T.r /\ os = mOs F fr T
theorem zko : ∀ {os : List (Nat × Ob)} {id : Nat}, za1 os id ≠ none -> id ∈ zpt os
 | [], id, h => by simp [za1] at h
 | (i, o) :: r, id, h => by
   unfold za1 at h
   unfold zpt
   split at h
   · rename_i e; rw [za3 e]; simp
   · exact List.mem_cons_of_mem _ (zko h)
theorem zwk.congr {g g' : Nat -> Option Ob} {c c' : Nat -> Bool} {raw : List AV} {F : List (Nat × Option Nat)} {fr : Nat} {T : yda} (hm : zwk g c raw F fr T) (hg : ∀ id, id ∈ zpt (mOs F fr T) -> g' id = g id) (hc : ∀ id, id ∈ zpt (mOs F fr T) -> c' id = c id) : zwk g' c' raw F fr T := by
 have tin := hm.tgt_inj
 have k1 : ∀ n, za1 T.O1 n ≠ none -> tgt F fr n ∈ zpt (mOs F fr T) := by
   intro n hn
   obtain ⟨o1, ho1⟩ := Option.ne_none_iff_exists'.1 hn
   refine zko ?_
   unfold mOs
   rw [zd1, zkf tin ho1]; simp
 have k2 : ∀ n id, za1 F n = some (some id) -> id ∈ zpt (mOs F fr T) := by
   intro n id hid
   by_cases e : za1 T.O1 n = none
   · refine zko ?_
     unfold mOs
     rw [zd1]
     cases za1 (zit F fr T.O1) id with
     | some _ => simp
     | none => simp only; rw [zi9 (hm.dom n _ hid) e hid]; simp
   · have := k1 n e
     unfold tgt at this
     rwa [hid] at this
 refine { len := hm.len, xs := hm.xs, inj := hm.inj, dom := hm.dom, obs := fun n o ho => ?_, fresh := fun n o ho hno => ?_, unpin := hm.unpin, ng := hm.ng }
 · obtain ⟨x, hx, hx2⟩ := hm.obs n o ho
   refine ⟨x, hx, ?_⟩
   cases x with
   | none => exact hx2
   | some id =>
     have := k2 n id hx
     show c' id = false /\ ∃ o', g' id = some o' /\ _
     rw [hg id this, hc id this]
     exact hx2
 · have : tgt F fr n = fr + n := by
     unfold tgt
     split
     · rename_i id e; exact absurd e (hno id)
     · rfl
   have k := k1 n (by rw [ho]; simp)
   rw [this] at k
   rw [hg _ k]
   exact hm.fresh n o ho hno
section
variable {P : Program} {base : Nat} {M : Two} {W : World} {nt : Nat} {f : Nat -> Option AV} {g : Nat -> Option Ob} {c : Nat -> Bool} {a : Act} {w : World} {D : Nat -> Prop} {μ : Mu} {o : Oper}
theorem yic (h : Sim base M W nt f g c a w D μ) (hd : ∀ d, o.dst = some d -> d < nt) (hpl : ∀ x ∈ zb3 o.op, ∀ v, x = .const v -> zfl v = true) {v : AV} {os : List (Nat × Ob)} (hh : yad P f g c o v os) : Adv P base M W nt f g c o a w v os [] := by
 obtain ⟨fo, xs, ts, k, first, caps, zs, F, fr, T, e, hvals, hM, hm, rfl, rfl⟩ := hh
 have hv : ∀ l : List Operand, (∀ x ∈ l, ∀ v, x = .const v -> zfl v = true) -> Ops w.heap D μ a l (zbm (evf f []) l) := by
   intro l
   induction l with
   | nil => intro _; trivial
   | cons x l ih => intro hp; exact ⟨yci h (fun t b ht => by simp [za1] at ht) x (fun v hv => hp x (by simp) v hv), ih (fun y hy => hp y (by simp [hy]))⟩
 have hv := hv _ hpl
 rw [hvals] at hv
 rw [e] at hv
 simp only [zb3] at hv
 obtain ⟨hf, hv⟩ := hv
 intro K Q hK
 obtain ⟨o1, o2⟩ := zp2 hv
 obtain ⟨vs, us, hfv, e1, e2, r1, r2⟩ : ∃ vs us, a.eval fo = .func (.func k) vs us /\ first.length = vs.size /\ caps.length = us.size /\ (∀ (i : Nat) x v, first[i]? = some x -> vs[i]? = some v -> R w.heap D μ x v) /\ (∀ (i : Nat) x v, caps[i]? = some x -> us[i]? = some v -> R w.heap D μ x v) := by
   generalize a.eval fo = u at hf
   cases hf with
   | fn _ _ _ vs us e1 e2 h1 h2 => exact ⟨vs, us, rfl, e1, e2, h1, h2⟩
 have hl : zs.length = xs.size := by rw [o1]; simp
 have hsz : (zb4 first (zb4 zs caps)).length = ((vs ++ xs.map a.eval) ++ us).size := by rw [zad, zad]; simp [e1, e2, hl]
 have hraw : ∀ (i : Nat) y v, (zb4 first (zb4 zs caps))[i]? = some y -> ((vs ++ xs.map a.eval) ++ us)[i]? = some v -> R w.heap D μ y v := by
   intro i x v hx hv'
   rw [zad, zad] at hx
   rw [Array.append_assoc] at hv'
   by_cases i1 : i < first.length
   · rw [List.getElem?_append_left i1] at hx
     rw [Array.getElem?_append_left (by omega)] at hv'
     exact r1 i x v hx hv'
   · rw [List.getElem?_append_right (by omega)] at hx
     rw [Array.getElem?_append_right (by omega)] at hv'
     rw [e1] at hx
     by_cases i2 : i - vs.size < zs.length
     · rw [List.getElem?_append_left i2] at hx
       rw [Array.getElem?_append_left (by simp; omega)] at hv'
       have i3 : i - vs.size < xs.size := by omega
       simp [i3] at hv'
       subst hv'
       exact o2 _ x _ hx (by simp [i3])
     · rw [List.getElem?_append_right (by omega)] at hx
       rw [Array.getElem?_append_right (by simp; omega)] at hv'
       simp only [Array.size_map, <- hl] at hv'
       exact r2 _ x v hx hv'
 have hRL : RL w.heap D (zdh μ F) T.xs ((vs ++ xs.map a.eval) ++ us) := hm.xs _ _ _ _ ⟨hsz, hraw⟩
 obtain ⟨a1, a2, a3, a4⟩ := hm.asks h
 have hcall := hM D w _ _ h.dlt hRL a1 a2 a3 (fun n b z hn => ⟨(a4 n b z hn).1, (a4 n b z hn).2.1⟩) h.gok (fun n b z hn => by
   obtain ⟨_, _, id, _, _, hid, _⟩ := a4 n b z hn
   exact h.gown hid)
 have fin : ∀ e v w' D' μ1, ydb D w (zdh μ F) T.O T.O1 T.r e v w' D' μ1 -> K (a.put o.dst v) w' := by
   intro e v w' D' μ1 he
   obtain ⟨μ', h', hr⟩ := h.mcall hm he
   exact hK _ _ ⟨_, _, h'.put hd hr⟩
 unfold Oper.wp
 have hrun : (execOp a.eval o).run P w = (callFunc k ((vs ++ xs.map a.eval) ++ us)).run P w := by
   unfold execOp
   rw [e]
   simp [resolve, hfv, Deferred.ofValue, invoke]
 rw [hrun]
 unfold zer at hcall
 split at hcall
 · rename_i f' args' w' hcf
   rw [hcf, Oper.upon_enter]
   refine hcall.mono fun en w'' hen => ?_
   obtain ⟨v, D', μ1, he⟩ := hen
   obtain rfl := he.ret
   exact fin _ v w'' D' μ1 he
 · rename_i v w' hcf
   rw [hcf, Oper.upon_value]
   obtain ⟨v', D', μ1, he⟩ := hcall
   have := he.ret
   cases this
   exact fin _ _ w' D' μ1 he
 · exact hcall.elim
end
end Sy
end Go.Proofs.Ytlphgephdhadhaa
namespace Go.Proofs.Ytlphgephdhadhaa
namespace Sy
open Go Go.RowKit
set_option linter.unusedSimpArgs false
set_option linter.unusedVariables false
set_option linter.unusedSectionVars false
def zfg {β : Type} (L : Nat -> Bool) (hit : Nat -> Option β) (s : Option β) : Nat -> Option β
 | 0 => s
 | n + 1 => if L n = true then (match hit n with | some x => some x | none => zfg L hit s n) else zfg L hit s n
theorem zi1 {β : Type} (L : Nat -> Bool) (hit : Nat -> Option β) (s : Option β) (n : Nat) : zfg L hit s (n + 1) = if L n = true then (match hit n with | some x => some x | none => zfg L hit s n) else zfg L hit s n := rfl
theorem zbt {β : Type} {L L' : Nat -> Bool} {hit : Nat -> Option β} {s : Option β} : ∀ n, (∀ j, j < n -> hit j ≠ none -> L j = L' j) -> zfg L hit s n = zfg L' hit s n
 | 0, _ => rfl
 | n + 1, h => by
   unfold zfg
   have ih := zbt n (fun j hj => h j (by omega)) (s := s)
   cases e : hit n with
   | none => simp [ih]
   | some x =>
     rw [h n (by omega) (by rw [e]; simp), ih]
theorem zfv {β : Type} {L : Nat -> Bool} {hit : Nat -> Option β} {s : Option β} (i : Nat) : ∀ n, (∀ j, i <= j -> j < n -> L j = true -> hit j = none) -> i <= n -> zfg L hit s n = zfg L hit s i
 | 0, _, hi => by have : i = 0 := by omega
                  rw [this]
 | n + 1, h, hi => by
   by_cases e : i = n + 1
   · rw [e]
   · have ih := zfv i n (fun j h1 h2 => h j h1 (by omega)) (by omega) (s := s)
     rw [zi1]
     by_cases hL : L n = true
     · rw [if_pos hL, h n (by omega) (by omega) hL]; exact ih
     · rw [if_neg hL]; exact ih
theorem zi2 {β : Type} {hit : Nat -> Option β} {s : Option β} (i : Nat) : ∀ n, i <= n -> zfg (fun j => decide (j < i)) hit s n = zfg (fun _ => true) hit s i := fun n hn => by
 rw [zfv i n (fun j h1 _ h3 => by simp at h3; omega) hn]
 exact zbt i (fun j hj _ => by simp [hj])
theorem zkn {β : Type} {L L' : Nat -> Bool} {hit : Nat -> Option β} {s : Option β} {i : Nat} (hi : L' i = true) (hL : L i = false) (hne : ∀ j, j ≠ i -> L' j = L j) : ∀ n, i < n ->
   (hit i ≠ none -> ∀ j, i < j -> j < n -> L j = true -> hit j = none) -> zfg L' hit s n = (match hit i with | some x => some x | none => zfg L hit s n)
 | 0, h, _ => by omega
 | n + 1, h, hc => by
   by_cases e : n = i
   · subst e
     have : zfg L' hit s n = zfg L hit s n := zbt n (fun j hj _ => hne j (by omega))
     unfold zfg
     rw [if_pos hi, hL, this]
     simp
   · have ih := zkn hi hL hne n (by omega) (fun h1 j h2 h3 => hc h1 j h2 (by omega)) (s := s)
     unfold zfg
     rw [hne n e, ih]
     cases hh : hit i with
     | none => rfl
     | some x =>
       simp only
       by_cases hLn : L n = true
       · rw [if_pos hLn, hc (by rw [hh]; simp) n (by omega) (by omega) hLn]
       · rw [if_neg hLn]
def ziy (L : Nat -> Bool) (p : Nat -> Bool) (s : Bool) : Nat -> Bool
 | 0 => s
 | n + 1 => (L n && p n) || ziy L p s n
theorem zms (L p : Nat -> Bool) (s : Bool) (n : Nat) : ziy L p s (n + 1) = ((L n && p n) || ziy L p s n) := rfl
theorem zdt {L L' p : Nat -> Bool} {s : Bool} : ∀ n, (∀ j, j < n -> p j = true -> L j = L' j) -> ziy L p s n = ziy L' p s n
 | 0, _ => rfl
 | n + 1, h => by
   unfold ziy
   rw [zdt n (fun j hj => h j (by omega))]
   cases e : p n with
   | false => simp
   | true => rw [h n (by omega) e]
theorem zik {L p : Nat -> Bool} {s : Bool} (i : Nat) : ∀ n, (∀ j, i <= j -> j < n -> L j = false) -> i <= n -> ziy L p s n = ziy L p s i
 | 0, _, hi => by have : i = 0 := by omega
                  rw [this]
 | n + 1, h, hi => by
   by_cases e : i = n + 1
   · rw [e]
   · rw [zms, h n (by omega) (by omega), zik i n (fun j h1 h2 => h j h1 (by omega)) (by omega)]
     simp
theorem zwb {p : Nat -> Bool} {s : Bool} (i : Nat) : ∀ n, i <= n -> ziy (fun j => decide (j < i)) p s n = ziy (fun _ => true) p s i := fun n hn => by
 rw [zik i n (fun j h1 _ => by simp; omega) hn]
 exact zdt i (fun j hj _ => by simp [hj])
theorem zq8 {L L' p : Nat -> Bool} {s : Bool} {i : Nat} (hi : L' i = true) (hL : L i = false) (hne : ∀ j, j ≠ i -> L' j = L j) : ∀ n, i < n -> ziy L' p s n = (p i || ziy L p s n)
 | 0, h => by omega
 | n + 1, h => by
   by_cases e : n = i
   · subst e
     have : ziy L' p s n = ziy L p s n := zdt n (fun j hj _ => hne j (by omega))
     unfold ziy
     rw [hi, hL, this]; simp
   · unfold ziy
     rw [hne n e, zq8 hi hL hne n (by omega)]
     cases L n && p n <;> cases p i <;> simp
theorem zhk {T : TT} {L : zab} {f f' : Nat -> Option AV} {g g' : Nat -> Option Ob} {c c' : Nat -> Bool} {kn kn' : List (Nat × Bool)} {o : Oper} (hv : zbm (evf f kn) (zb3 o.op) = zbm (evf f' kn') (zb3 o.op))
   (hg : ∀ id, id ∈ zbw (zbm (evf f' kn') (zb3 o.op)) -> g id = g' id) (hn : zbr o.op = true -> ∀ d, o.dst = some d -> g d = g' d)
   (hc : zjw o.op = true -> ∀ id, id ∈ zyu (zbm (evf f' kn') (zb3 o.op)) -> c id = c' id) : zgx T L f g c kn o = zgx T L f' g' c' kn' o := by
 unfold zgx
 rw [hv]
 have e1 : ydg g (zbw (zbm (evf f' kn') (zb3 o.op))) = ydg g' (zbw (zbm (evf f' kn') (zb3 o.op))) := by
   funext id
   unfold ydg
   split
   · rename_i h; exact hg id (zbh.1 h)
   · rfl
 have e2 : zro c o.op (zbm (evf f' kn') (zb3 o.op)) = zro c' o.op (zbm (evf f' kn') (zb3 o.op)) := by
   funext id
   unfold zro
   split
   · rename_i h
     split
     · rename_i h2; exact hc h id (zbh.1 h2)
     · rfl
   · rfl
 have e3 : zcg g o.op o.dst = zcg g' o.op o.dst := by
   unfold zcg
   split
   · rename_i h
     split
     · rename_i d hd; rw [hn h d hd]
     · rfl
   · rfl
 rw [e1, e2, e3]
def ziz (f : Nat -> Option AV) (kn : List (Nat × Bool)) : Prop := ∀ t b, za1 kn t = some b -> f t = some (.bool b)
theorem ya6 {f : Nat -> Option AV} {kn : List (Nat × Bool)} (h : ziz f kn) (x : Operand) : evf f kn x = evf f [] x := by
 unfold evf
 cases x with
 | tmp t =>
   simp only [za1]
   cases e : za1 kn t with
   | none => rfl
   | some b => simp [h t b e]
 | _ => rfl
theorem zex {α β : Type} {k k' : α -> β} : ∀ {l : List α}, (∀ x ∈ l, k x = k' x) -> zbm k l = zbm k' l
 | [], _ => rfl
 | x :: l, h => by simp [zbm, h x (by simp), zex (l := l) (fun y hy => h y (by simp [hy]))]
inductive Holds (P : Program) : zby -> AV -> List (Nat × Ob) -> List Nat -> Prop
 | ok (v : AV) (os : List (Nat × Ob)) (ice : List Nat) : Holds P (.ok v os ice) v os ice
 | okIf (b : Bool) (v : AV) (os : List (Nat × Ob)) (ice : List Nat) (h : b = true) : Holds P (.okIf b v os ice) v os ice
 | okP (p : Prop) (v : AV) (os : List (Nat × Ob)) (ice : List Nat) (h : p) : Holds P (.okP p v os ice) v os ice
 | call (k : FuncId) (xs : List AV) (ice : List Nat) (r : AV) (h : zbf P k xs r) : Holds P (.call k xs ice) r [] ice
 | alt1 (b : Bool) (v : AV) (os : List (Nat × Ob)) (q : Bool) (v' : AV) (os' : List (Nat × Ob)) (h : b = true) : Holds P (.alt b v os q v' os') v os []
 | alt2 (b : Bool) (v : AV) (os : List (Nat × Ob)) (q : Bool) (v' : AV) (os' : List (Nat × Ob)) (h : b = false) (hq : q = true) : Holds P (.alt b v os q v' os') v' os' []
theorem yg0 {P : Program} {base : Nat} {M : Two} {W : World} {nt : Nat} {f : Nat -> Option AV} {g : Nat -> Option Ob} {c : Nat -> Bool} {o : Oper} {a : Act} {w : World} {x : zby} {v : AV} {os : List (Nat × Ob)} {ice : List Nat}
   (h : Holds P x v os ice) (s : zbx P base M W nt f g c o a w x) : Adv P base M W nt f g c o a w v os ice := by
 cases h with
 | ok => exact s
 | okIf _ _ _ _ h => exact s h
 | okP _ _ _ _ h => exact s h
 | call _ _ _ _ h => exact s _ h
 | alt1 _ _ _ _ _ _ h => exact s.1 h
 | alt2 _ _ _ _ _ _ h hq => exact s.2 h hq
inductive Sat (P : Program) (Q : AV -> Prop) : zbd -> Prop
 | need {b : Bool} {k : zbd} (h : b = true) (hk : Sat P Q k) : Sat P Q (.need b k)
 | must {p : Prop} {k : zbd} (h : p) (hk : Sat P Q k) : Sat P Q (.must p k)
 | ite {b : Bool} {t e : zbd} (ht : b = true -> Sat P Q t) (he : b = false -> Sat P Q e) : Sat P Q (.ite b t e)
 | done {r : AV} (h : Q r) : Sat P Q (.done r)
 | yes : Sat P Q .yes
 | call {f : FuncId} {xs : List AV} {k : AV -> zbd} {r : AV} (h : zbf P f xs r) (hk : Sat P Q (k r)) : Sat P Q (.call f xs k)
 | ex {X : Type} {f : X -> zbd} (x : X) (h : Sat P Q (f x)) : Sat P Q (.ex X f)
 | all {X : Type} {f : X -> zbd} (h : ∀ x, Sat P Q (f x)) : Sat P Q (.all X f)
 | sup {p : Prop} {k : zbd} (h : p -> Sat P Q k) : Sat P Q (.sup p k)
 | and {a b : zbd} (h1 : Sat P Q a) (h2 : Sat P Q b) : Sat P Q (.and a b)
structure zd3 (P : Program) (S : zl9) : Prop where
 fz : ∀ f xs p r, S.fz f xs = some (p, r) -> p -> zbf P f xs r
 mt : ∀ f m, S.mt f = some m -> ∀ raw ob T, m raw ob = some T -> T.p -> zbe P f T.xs T.O T.r T.O1
theorem zfj {P : Program} {Q : AV -> Prop} {next : zbd} : ∀ {ps : List Prop}, Sat P Q (zy2 ps next) -> (∀ p, p ∈ ps -> p) /\ Sat P Q next
 | [], h => ⟨fun p hp => by simp at hp, h⟩
 | p :: r, h => by
   cases h with
   | must h hk =>
     obtain ⟨h1, h2⟩ := zfj hk
     exact ⟨fun q hq => by rcases List.mem_cons.1 hq with rfl | hq; exact h; exact h1 q hq, h2⟩
theorem zyj {P : Program} {T : TT} {f : Nat -> Option AV} {g : Nat -> Option Ob} {c : Nat -> Bool} {kn : List (Nat × Bool)} {o : Oper} {b : Bool} (h : zm2 kn o.op = some b) {v : AV} {os : List (Nat × Ob)} {ice : List Nat}
   (hh : Holds P (zgx T std f g c kn o) v os ice) : v = .bool b := by
 have lit : ∀ x b, litOf kn x = some b -> evf f kn x = .bool b := by
   intro x b hx
   unfold litOf at hx
   split at hx
   · cases hx; rfl
   · rename_i t
     simp [evf, hx]
   · cases hx
 unfold zm2 at h
 unfold zgx yi0 at hh
 split at h
 · rename_i x e
   rw [e] at hh
   simp only [zb3, zbm, zvs, lit x b h] at hh
   cases hh; rfl
 · rename_i x e
   rw [e] at hh
   simp only [zb3, zbm, zvs, lit x b h] at hh
   cases hh; rfl
 · rename_i x y z e
   rw [e] at hh
   simp only [zb3, zbm] at hh
   split at h
   · rename_i hc
     rw [lit x _ hc, lit y b h] at hh
     simp only [zvr] at hh
     cases hh; rfl
   · rename_i hc
     rw [lit x _ hc, lit z b h] at hh
     simp only [zvr] at hh
     cases hh; rfl
   · cases h
 · cases h
theorem zmw {kn : List (Nat × Bool)} {d t : Nat} : za1 (yc0 kn d) t = if t = d then none else za1 kn t := by
 induction kn with
 | nil => simp [yc0, za1]
 | cons x kn ih =>
   obtain ⟨u, b⟩ := x
   unfold yc0
   cases e : zae u d with
   | true =>
     simp only [ih]
     have := za3 e; subst this
     by_cases ht : t = u
     · simp [ht]
     · have : zae u t = false := za9 fun h => ht h.symm
       simp [ht, za1, this]
   | false =>
     simp only [za1]
     cases e' : zae u t with
     | true =>
       have := za3 e'; subst this
       have : u ≠ d := by rintro rfl; rw [za4] at e; cases e
       simp [this]
     | false => simpa using ih
theorem zhf (s : St) (dst : Option Nat) (v : AV) : za1 (s.put dst v) = ziv (za1 s.slots) dst v := by
 funext t
 unfold St.put ziv
 cases dst with
 | none => rfl
 | some d =>
   simp only [za1]
   by_cases e : t = d
   · subst e; simp [za4]
   · have : zae d t = false := za9 fun h => e h.symm
     simp [this, e]
theorem zzc {α : Type} (os l : List (Nat × α)) (id : Nat) : za1 (zb4 os l) id = match za1 os id with | some o => some o | none => za1 l id := zd1 os l id
theorem zmx (os l : List (Nat × Ob)) : za1 (zb4 os l) = zao (za1 l) os := by
 funext id; rw [zzc]; unfold zao; cases za1 os id <;> rfl
theorem zyg (os l : List Nat) : ∀ id, zb6 (zb4 os l) id = (zb6 os id || zb6 l id) := by
 intro id
 induction os with
 | nil => simp [zb4, zb6]
 | cons x os ih =>
   simp only [zb4, zb6]
   cases zae x id <;> simp [ih]
theorem zm0 (os l : List Nat) : zb6 (zb4 os l) = zhc (zb6 l) os := by
 funext id; rw [zyg]; rfl
theorem zpr {f : Nat -> Option AV} {kn : List (Nat × Bool)} (h : ziz f kn) {dst : Option Nat} {v : AV} {x : Option Bool} (hx : ∀ b, x = some b -> v = .bool b) : ziz (ziv f dst v) (yf3 kn dst x) := by
 intro t b ht
 unfold yf3 at ht
 cases dst with
 | none => exact h t b ht
 | some d =>
   simp only [ziv]
   cases x with
   | none =>
     simp only at ht
     rw [zmw] at ht
     split at ht
     · cases ht
     · rename_i e; rw [if_neg e]; exact h t b ht
   | some y =>
     simp only [za1] at ht
     cases e : zae d t with
     | true =>
       rw [e] at ht
       have := za3 e; subst this
       cases ht
       rw [if_pos rfl, hx _ rfl]
     | false =>
       rw [e] at ht
       simp only at ht
       rw [zmw] at ht
       split at ht
       · cases ht
       · rename_i e; rw [if_neg e]; exact h t b ht
theorem zd0 {f : Nat -> Option AV} {kn : List (Nat × Bool)} (h : ziz f kn) {t : Nat} {b : Bool} (hx : f t = some (.bool b)) : ziz f ((t, b) :: kn) := by
 intro u y hu
 simp only [za1] at hu
 cases e : zae t u with
 | true =>
   rw [e] at hu
   have := za3 e; subst this
   cases hu; exact hx
 | false => rw [e] at hu; exact h u y hu
def zin (base : Nat) (M : Two) (W : World) (nt : Nat) (s : St) (a : Act) (w : World) : Prop :=
 zff base M W nt (za1 s.slots) (za1 s.objs) (zb6 s.ice) a w /\ ziz (za1 s.slots) s.kn
structure Ev where
 want : Bool
 v : AV
 os : List (Nat × Ob)
 ice : List Nat
 ent : Ent
def nothing : Ev := ⟨false, .tup [], [], [], ⟨[], []⟩⟩
def zmy (P : Program) (T : TT) (f : Nat -> Option AV) (g : Nat -> Option Ob) (c : Nat -> Bool) (o : Oper) (e : Ev) : Prop :=
 Holds P (zgx T std f g c [] o) e.v e.os e.ice \/ (yad P f g c o e.v e.os /\ e.ice = [])
structure yge (P : Program) (T : TT) (ops : List Oper) (f : Nat -> Option AV) (g : Nat -> Option Ob) (c : Nat -> Bool) (o : Oper) (e : Ev) : Prop where
 guard : match zfc ops o with
   | none => e.want = true
   | some (some t, w) => (∃ b, f t = some (.bool b) /\ e.want = (b == w)) \/ (f t = some (.tup []) /\ e.want = false)
   | some (none, _) => False
 no : e.want = false -> e.v = .tup [] /\ e.os = [] /\ e.ice = [] /\ e.ent = ⟨[], []⟩
 yes : e.want = true -> zmy P T f g c o e
def zzi (f : Nat -> Option AV) (o : Oper) (e : Ev) : Prop := e.want = true ->
 (∀ id, id ∈ zbw (zbm (evf f []) (zb3 o.op)) -> id ∈ e.ent.ids) /\ (zbr o.op = true -> ∀ d, o.dst = some d -> d ∈ e.ent.ids) /\ (∀ id, id ∈ e.ice -> id ∈ e.ent.ids) /\
 (∀ id, id ∈ zpt e.os -> id ∈ e.ent.wr) /\ (zjw o.op = true -> ∀ id, id ∈ zyu (zbm (evf f []) (zb3 o.op)) -> id ∈ e.ent.wr)
def zzf (ops : List Oper) (o : Oper) (e : Ev) (acc : List (Nat × Ent)) : Prop := e.want = true -> zgf ops o.after.toList e.ent acc = true
def zrd (acc : List (Nat × Ent)) (i : Nat) (e : Ev) : List (Nat × Ent) := if e.want = true then zp5 acc i e.ent else acc
def ydl (P : Program) (T : TT) (draw : Bool) (ops : List Oper) : List Oper -> Nat -> (Nat -> Option AV) -> (Nat -> Option Ob) -> (Nat -> Bool) -> List (Nat × Ent) -> List Ev -> (Nat -> Option AV) -> (Nat -> Option Ob) -> (Nat -> Bool) -> Prop
 | [], _, f, g, c, _, [], f', g', c' => f' = f /\ g' = g /\ c' = c
 | o :: r, i, f, g, c, acc, e :: es, f', g', c' => yge P T ops f g c o e /\ (draw = true -> zzi f o e /\ zzf ops o e acc) /\
     ydl P T draw ops r (i + 1) (ziv f o.dst e.v) (zao g e.os) (zhc c e.ice) (if draw = true then zrd acc i e else acc) es f' g' c'
 | _, _, _, _, _, _, _, _, _, _ => False
section
variable {P : Program} {T : TT} {S : zl9} {Q : AV -> Prop} {draw : Bool} {ops : List Oper}
theorem yap {f : Nat -> Option AV} {g : Nat -> Option Ob} {c : Nat -> Bool} {kn : List (Nat × Bool)} (h : ziz f kn) (L : zab) (o : Oper) : zgx T L f g c kn o = zgx T L f g c [] o :=
 zhk (zex fun x _ => ya6 h x) (fun _ _ => rfl) (fun _ _ _ => rfl) (fun _ _ _ => rfl)
theorem zru (hS : zd3 P S) {o : Oper} {i : Nat} {s : St} {acc : List (Nat × Ent)} {next : St -> List (Nat × Ent) -> zbd} (hk : ziz (za1 s.slots) s.kn)
   (h : Sat P Q (zml T std S draw ops o i s acc next)) : ∃ e : Ev, e.want = true /\ zmy P T (za1 s.slots) (za1 s.objs) (zb6 s.ice) o e /\ (draw = true -> zzi (za1 s.slots) o e /\ zzf ops o e acc) /\
     ∃ s', za1 s'.slots = ziv (za1 s.slots) o.dst e.v /\ za1 s'.objs = zao (za1 s.objs) e.os /\ zb6 s'.ice = zhc (zb6 s.ice) e.ice /\ ziz (za1 s'.slots) s'.kn /\ Sat P Q (next s' (if draw = true then zrd acc i e else acc)) := by
 have hval : zbm (evf (za1 s.slots) s.kn) (zb3 o.op) = zbm (evf (za1 s.slots) []) (zb3 o.op) := zex fun x _ => ya6 hk x
 have key : ∀ v os ice, (∀ ent, zmy P T (za1 s.slots) (za1 s.objs) (zb6 s.ice) o ⟨true, v, os, ice, ent⟩) -> (∀ b, zm2 s.kn o.op = some b -> v = .bool b) ->
     Sat P Q (zeq draw ops o i s acc (zrn draw s o) (ydn draw s o) v os ice next) -> ∃ e : Ev, e.want = true /\ zmy P T (za1 s.slots) (za1 s.objs) (zb6 s.ice) o e /\ (draw = true -> zzi (za1 s.slots) o e /\ zzf ops o e acc) /\
     ∃ s', za1 s'.slots = ziv (za1 s.slots) o.dst e.v /\ za1 s'.objs = zao (za1 s.objs) e.os /\ zb6 s'.ice = zhc (zb6 s.ice) e.ice /\ ziz (za1 s'.slots) s'.kn /\ Sat P Q (next s' (if draw = true then zrd acc i e else acc)) := by
   intro v os ice hh hl h
   refine ⟨⟨true, v, os, ice, ⟨zb4 ice (zrn draw s o), zb4 (ydn draw s o) (zpt os)⟩⟩, rfl, hh _, fun hd => ?_, s.eff o.dst v os ice (zm2 s.kn o.op), zhf .., zmx .., zm0 .., ?_, ?_⟩
   · subst hd
     refine ⟨fun _ => ⟨fun id hid => ?_, fun hc d hd => ?_, fun id hid => ?_, fun id hid => ?_, fun hw id hid => ?_⟩, fun _ => ?_⟩
     · simp only [zad, List.mem_append, zrn]; rw [hval]; exact .inr (.inr hid)
     · simp [zad, zrn, hc, hd]
     · simp only [zad, List.mem_append]; exact .inl hid
     · simp only [zad, List.mem_append]; exact .inr hid
     · simp only [zad, List.mem_append, ydn, hw]; rw [hval]; exact .inl hid
     · simp only [zeq] at h
       split at h
       · rename_i e; exact e
       · cases h
   · show ziz (za1 (s.put o.dst v)) (yf3 s.kn o.dst (zm2 s.kn o.op))
     rw [zhf]
     exact zpr hk hl
   · unfold zeq at h
     cases draw with
     | false => exact h
     | true =>
       simp only at h
       split at h
       · exact h
       · cases h
 have key1 : ∀ v os ice, Holds P (zgx T std (za1 s.slots) (za1 s.objs) (zb6 s.ice) s.kn o) v os ice -> (∀ ent, zmy P T (za1 s.slots) (za1 s.objs) (zb6 s.ice) o ⟨true, v, os, ice, ent⟩) /\ ∀ b, zm2 s.kn o.op = some b -> v = .bool b := by
   intro v os ice hh
   have hh' := hh
   rw [yap hk] at hh'
   exact ⟨fun _ => .inl hh', fun b hb => zyj hb hh⟩
 unfold zml at h
 split at h
 · rename_i m raw hsel
   obtain ⟨f, first, caps, zs, c1, c2, hm, rfl⟩ : ∃ f first caps zs, znt o.op = true /\ zbm (evf (za1 s.slots) s.kn) (zb3 o.op) = .fn f first caps :: zs /\ S.mt f = some m /\ raw = zb4 first (zb4 zs caps) := by
     split at hsel
     · rename_i c1
       split at hsel
       · rename_i f first caps zs c2
         split at hsel
         · rename_i m' hm; cases hsel; exact ⟨f, first, caps, zs, c1, c2, hm, rfl⟩
         · cases hsel
       · cases hsel
     · cases hsel
   obtain ⟨fo, ys, ts, e1⟩ : ∃ fo ys ts, o.op = .call { callee := .value fo, args := ys, argTypes := ts } := by
     unfold znt at c1
     split at c1
     · rename_i fo ys ts e1; exact ⟨_, _, _, e1⟩
     · cases c1
   unfold yfe at h
   split at h
   · rename_i T' hT'
     split at h
     · rename_i mt hmt
       split at h
       · rename_i hfr
         obtain ⟨hps, h⟩ := zfj h
         cases h with
         | must hp h =>
           refine key _ _ [] (fun ent => .inr ⟨⟨fo, ys, ts, f, first, caps, zs, mt.ids, _, T', e1, by rw [<- hval]; exact c2, hS.mt f m hm _ _ T' hT' hp, zya hmt hfr hps, rfl, rfl⟩, rfl⟩) (fun b hb => ?_) h
           rw [e1] at hb; cases hb
       · cases h
     · cases h
   · cases h
 unfold yff at h
 split at h
 · rename_i v os ice e; obtain ⟨k1, k2⟩ := key1 v os ice (by rw [e]; exact .ok ..); exact key v os ice k1 k2 h
 · rename_i b v os ice e; cases h with | need h hk => obtain ⟨k1, k2⟩ := key1 v os ice (by rw [e]; exact .okIf _ _ _ _ h); exact key v os ice k1 k2 hk
 · rename_i b v os ice e; cases h with | must h hk => obtain ⟨k1, k2⟩ := key1 v os ice (by rw [e]; exact .okP _ _ _ _ h); exact key v os ice k1 k2 hk
 · rename_i b v os q v' os' e
   cases hb : b with
   | true =>
     cases h with | ite ht he => obtain ⟨k1, k2⟩ := key1 v os [] (by rw [e]; exact .alt1 _ _ _ _ _ _ hb); exact key v os [] k1 k2 (ht hb)
   | false =>
     cases h with
     | ite ht he =>
       have h := he hb
       cases h with | need h hk => obtain ⟨k1, k2⟩ := key1 v' os' [] (by rw [e]; exact .alt2 _ _ _ _ _ _ hb h); exact key v' os' [] k1 k2 hk
 · rename_i f xs ice e
   split at h
   · rename_i p r hs
     cases h with | must h hk => obtain ⟨k1, k2⟩ := key1 r [] ice (by rw [e]; exact .call _ _ _ _ (hS.fz f _ p r hs h)); exact key r [] ice k1 k2 hk
   · rename_i hs
     cases h with | call h hk => obtain ⟨k1, k2⟩ := key1 _ [] ice (by rw [e]; exact .call _ _ _ _ h); exact key _ [] ice k1 k2 hk
 · cases h
theorem zdk (hS : zd3 P S) {k : St -> zbd} : ∀ (r : List Oper) (i : Nat) (s : St) (acc : List (Nat × Ent)), ziz (za1 s.slots) s.kn -> Sat P Q (zc9 T std S draw ops r i s acc k) ->
   ∃ es s', ydl P T draw ops r i (za1 s.slots) (za1 s.objs) (zb6 s.ice) acc es (za1 s'.slots) (za1 s'.objs) (zb6 s'.ice) /\ ziz (za1 s'.slots) s'.kn /\ Sat P Q (k s')
 | [], i, s, acc, hk, h => ⟨[], s, ⟨rfl, rfl, rfl⟩, hk, h⟩
 | o :: r, i, s, acc, hk, h => by
   have yes : ∀ s1 : St, s1.slots = s.slots -> s1.objs = s.objs -> s1.ice = s.ice -> ziz (za1 s1.slots) s1.kn ->
       (match zfc ops o with
         | none => true = true
         | some (some t, w) => (∃ b, za1 s.slots t = some (.bool b) /\ true = (b == w)) \/ (za1 s.slots t = some (.tup []) /\ true = false)
         | some (none, _) => False) -> Sat P Q (zml T std S draw ops o i s1 acc (fun s acc => zc9 T std S draw ops r (i + 1) s acc k)) ->
       ∃ es s', ydl P T draw ops (o :: r) i (za1 s.slots) (za1 s.objs) (zb6 s.ice) acc es (za1 s'.slots) (za1 s'.objs) (zb6 s'.ice) /\ ziz (za1 s'.slots) s'.kn /\ Sat P Q (k s') := by
     intro s1 e1 e2 e3 hk1 hg h
     obtain ⟨e, hw, hh, he, s2, h1, h2, h3, h4, h5⟩ := zru hS hk1 h
     obtain ⟨es, s', hW, hk', h'⟩ := zdk hS r (i + 1) s2 _ h4 h5
     rw [h1, h2, h3, e1, e2, e3] at hW
     rw [e1, e2, e3] at hh
     rw [e1] at he
     refine ⟨e :: es, s', ⟨⟨?_, fun h => (by rw [hw] at h; cases h), fun _ => hh⟩, he, hW⟩, hk', h'⟩
     rw [hw]; exact hg
   have no : ∀ s1 : St, s1.slots = s.slots -> s1.objs = s.objs -> s1.ice = s.ice -> ziz (za1 s1.slots) s1.kn ->
       (match zfc ops o with
         | none => false = true
         | some (some t, w) => (∃ b, za1 s.slots t = some (.bool b) /\ false = (b == w)) \/ (za1 s.slots t = some (.tup []) /\ false = false)
         | some (none, _) => False) -> Sat P Q (zc9 T std S draw ops r (i + 1) (s1.eff o.dst (.tup []) [] [] none) acc k) ->
       ∃ es s', ydl P T draw ops (o :: r) i (za1 s.slots) (za1 s.objs) (zb6 s.ice) acc es (za1 s'.slots) (za1 s'.objs) (zb6 s'.ice) /\ ziz (za1 s'.slots) s'.kn /\ Sat P Q (k s') := by
     intro s1 e1 e2 e3 hk1 hg h
     have h4 : ziz (za1 (s1.eff o.dst (.tup []) [] [] none).slots) (s1.eff o.dst (.tup []) [] [] none).kn := by
       show ziz (za1 (s1.put o.dst (.tup []))) (yf3 s1.kn o.dst none)
       rw [zhf]
       exact zpr hk1 fun b hb => by cases hb
     obtain ⟨es, s', hW, hk', h'⟩ := zdk hS r (i + 1) _ _ h4 h
     have q1 : za1 (s1.eff o.dst (.tup []) [] [] none).slots = ziv (za1 s.slots) o.dst (.tup []) := by rw [<- e1]; exact zhf ..
     have q2 : za1 (s1.eff o.dst (.tup []) [] [] none).objs = zao (za1 s.objs) [] := by rw [<- e2]; exact zmx ..
     have q3 : zb6 (s1.eff o.dst (.tup []) [] [] none).ice = zhc (zb6 s.ice) [] := by rw [<- e3]; exact zm0 ..
     rw [q1, q2, q3] at hW
     refine ⟨nothing :: es, s', ⟨⟨hg, fun _ => ⟨rfl, rfl, rfl, rfl⟩, fun h => by cases h⟩, fun _ => ⟨fun h => by simp [nothing] at h, fun h => by simp [nothing] at h⟩, ?_⟩, hk', h'⟩
     simpa [zrd, nothing] using hW
   unfold zc9 at h
   split at h
   · rename_i e; exact yes s rfl rfl rfl hk (by rw [e]) h
   · cases h
   · rename_i t w e
     rw [e] at yes no
     split at h
     · rename_i b hb
       have hf := hk t b hb
       split at h
       · exact yes s rfl rfl rfl hk (.inl ⟨true, hf, rfl⟩) h
       · exact yes s rfl rfl rfl hk (.inl ⟨false, hf, rfl⟩) h
       · rename_i h1 h2
         refine no s rfl rfl rfl hk (.inl ⟨b, hf, ?_⟩) h
         cases b <;> cases w <;> simp_all
     · split at h
       · rename_i hb
         exact no s rfl rfl rfl hk (.inr ⟨hb, rfl⟩) h
       · rename_i b hb
         split at h
         · cases h with | ite h1 h2 =>
           cases b with
           | true => exact yes (s.know t true) rfl rfl rfl (zd0 hk hb) (.inl ⟨true, hb, rfl⟩) (h1 rfl)
           | false => exact no (s.know t false) rfl rfl rfl (zd0 hk hb) (.inl ⟨false, hb, rfl⟩) (h2 rfl)
         · cases h with | ite h1 h2 =>
           cases b with
           | true => exact no (s.know t true) rfl rfl rfl (zd0 hk hb) (.inl ⟨true, hb, rfl⟩) (h1 rfl)
           | false => exact yes (s.know t false) rfl rfl rfl (zd0 hk hb) (.inl ⟨false, hb, rfl⟩) (h2 rfl)
       · cases h
end
end Sy
end Go.Proofs.Ytlphgephdhadhaa
namespace Go.Proofs.Ytlphgephdhadhaa
namespace Sy
open Go Go.RowKit
set_option linter.unusedSimpArgs false
set_option linter.unusedVariables false
set_option linter.unusedSectionVars false
def zn6 : List Operand -> List Nat
 | [] => []
 | .tmp t :: r => t :: zn6 r
 | _ :: r => zn6 r
def yh8 (nt : Nat) (o : Oper) : Bool :=
 (match o.dst with | some d => zba d nt | none => true) && (zb3 o.op).all fun x => match x with | .const v => zfl v | _ => true
def zlr (i : Nat) (o : Oper) (ts : List Nat) : Nat -> List Oper -> Bool
 | _, [] => true
 | j, o' :: r => (match o'.dst with
   | none => true
   | some d => (zae j i || (match o.dst with | some d' => !zae d' d | none => true)) &&
     (!zb6 ts d || (zba j i && zaf o.after.toList j) || (zba i j && zaf o'.after.toList i))) && zlr i o ts (j + 1) r
def zif (ops : List Oper) : Nat -> List Oper -> Bool
 | _, [] => true
 | i, o :: r => (o.after.toList.all fun e => !Region.binds .any e || zba e.on i) && (match o.guard with | none => true | some (g, _) => zaf o.after.toList g) &&
   zlr i o (zn6 (zb3 o.op)) 0 ops && zif ops (i + 1) r
structure yac (nt : Nat) (o : Oper) : Prop where
 dst : ∀ d, o.dst = some d -> d < nt
 pl : ∀ x ∈ zb3 o.op, ∀ v, x = .const v -> zfl v = true
theorem zu7 {nt : Nat} {o : Oper} (h : yh8 nt o = true) : yac nt o := by
 unfold yh8 at h
 simp only [Bool.and_eq_true] at h
 refine ⟨fun d hd => ?_, fun x hx v hv => ?_⟩
 · have h1 := h.1
   rw [hd] at h1
   exact zc6 h1
 · have h2 := List.all_eq_true.1 h.2 x hx
   rw [hv] at h2
   exact h2
theorem zuh {l : List Operand} {t : Nat} (h : Operand.tmp t ∈ l) : t ∈ zn6 l := by
 induction l with
 | nil => cases h
 | cons x l ih =>
   rcases List.mem_cons.1 h with rfl | h'
   · simp [zn6]
   · cases x <;> simp [zn6, ih h']
structure zio (ops : List Oper) : Prop where
 back : ∀ (i : Nat) (o : Oper) (e : Edge), ops[i]? = some o -> e ∈ o.after -> Region.binds .any e = true -> e.on < i
 guard : ∀ (i : Nat) (o : Oper) g b, ops[i]? = some o -> o.guard = some (g, b) -> zaf o.after.toList g = true
 once : ∀ (i j : Nat) (o o' : Oper) d, ops[i]? = some o -> ops[j]? = some o' -> o.dst = some d -> o'.dst = some d -> i = j
 reads : ∀ (i j : Nat) (o o' : Oper) d, ops[i]? = some o -> ops[j]? = some o' -> o'.dst = some d -> Operand.tmp d ∈ zb3 o.op ->
   (j < i /\ zaf o.after.toList j = true) \/ (i < j /\ zaf o'.after.toList i = true)
theorem zht {i : Nat} {o : Oper} {ts : List Nat} : ∀ (l : List Oper) (j : Nat), zlr i o ts j l = true -> ∀ (k : Nat) (o' : Oper), l[k]? = some o' -> ∀ d, o'.dst = some d ->
   (zae (j + k) i || (match o.dst with | some d' => !zae d' d | none => true)) = true /\ (!zb6 ts d || (zba (j + k) i && zaf o.after.toList (j + k)) || (zba i (j + k) && zaf o'.after.toList i)) = true
 | [], _, _, k, o', hk, _, _ => by simp at hk
 | x :: l, j, h, k, o', hk, d, hd => by
   unfold zlr at h
   rw [Bool.and_eq_true] at h
   cases k with
   | zero =>
     simp only [List.getElem?_cons_zero, Option.some.injEq] at hk
     subst hk
     have h1 := h.1
     rw [hd] at h1
     simp only [Bool.and_eq_true] at h1
     exact h1
   | succ k =>
     have := zht l (j + 1) h.2 k o' (by simpa using hk) d hd
     rw [show j + 1 + k = j + (k + 1) by omega] at this
     exact this
theorem zmo {ops : List Oper} : ∀ (l : List Oper) (i : Nat), zif ops i l = true -> ∀ (k : Nat) (o : Oper), l[k]? = some o ->
   ((o.after.toList.all fun e => !Region.binds .any e || zba e.on (i + k)) && (match o.guard with | none => true | some (g, _) => zaf o.after.toList g)) = true /\ zlr (i + k) o (zn6 (zb3 o.op)) 0 ops = true
 | [], _, _, k, o, hk => by simp at hk
 | x :: l, i, h, k, o, hk => by
   unfold zif at h
   rw [Bool.and_eq_true, Bool.and_eq_true] at h
   cases k with
   | zero =>
     simp only [List.getElem?_cons_zero, Option.some.injEq] at hk
     subst hk
     exact ⟨h.1.1, h.1.2⟩
   | succ k =>
     have := zmo l (i + 1) h.2 k o (by simpa using hk)
     rw [show i + 1 + k = i + (k + 1) by omega] at this
     exact this
theorem zmn {ops : List Oper} (h : zif ops 0 ops = true) : zio ops := by
 have H := zmo ops 0 h
 simp only [Nat.zero_add] at H
 refine ⟨fun i o e ho he hb => ?_, fun i o g b ho hg => ?_, fun i j o o' d ho ho' hd hd' => ?_, fun i j o o' d ho ho' hd hr => ?_⟩
 · have h1 := (H i o ho).1
   rw [Bool.and_eq_true, List.all_eq_true] at h1
   have h2 := h1.1 e (Array.mem_toList_iff.2 he)
   rw [hb] at h2
   exact zc6 (by simpa using h2)
 · have h1 := (H i o ho).1
   rw [Bool.and_eq_true] at h1
   have h2 := h1.2
   rw [hg] at h2
   exact h2
 · have h1 := (zht ops 0 (H i o ho).2 j o' ho' d hd').1
   rw [hd, Nat.zero_add] at h1
   simp only [za4, Bool.not_true, Bool.or_false] at h1
   exact (za3 h1).symm
 · have h1 := (zht ops 0 (H i o ho).2 j o' ho' d hd).2
   rw [Nat.zero_add, zbh.2 (zuh hr)] at h1
   simp only [Bool.not_true, Bool.false_or, Bool.or_eq_true, Bool.and_eq_true] at h1
   rcases h1 with h1 | h1
   · exact .inl ⟨zc6 h1.1, h1.2⟩
   · exact .inr ⟨zc6 h1.1, h1.2⟩
section
variable {P : Program} {T : TT} {base : Nat} {M : Two} {W : World} {nt : Nat} {ops : List Oper}
theorem zse {f : Nat -> Option AV} {g : Nat -> Option Ob} {c : Nat -> Bool} {a : Act} {w : World} {o : Oper} {e : Ev} (hs : zff base M W nt f g c a w) (hops : ∀ o ∈ ops, yac nt o)
   (hg : match zfc ops o with
     | none => e.want = true
     | some (some t, w) => (∃ b, f t = some (.bool b) /\ e.want = (b == w)) \/ (f t = some (.tup []) /\ e.want = false)
     | some (none, _) => False) : Region.wanted o (yielded ops.toArray a.tmps) = e.want := by
 obtain ⟨D, μ, h⟩ := hs
 unfold Region.wanted
 unfold zfc at hg
 cases e1 : o.guard with
 | none => rw [e1] at hg; simp only at hg |-; exact hg.symm
 | some x =>
   obtain ⟨j, wt⟩ := x
   rw [e1] at hg
   simp only at hg |-
   cases e2 : ops[j]? with
   | none => rw [e2] at hg; exact hg.elim
   | some o' =>
     rw [e2] at hg
     simp only at hg
     cases e3 : o'.dst with
     | none => rw [e3] at hg; exact hg.elim
     | some t =>
       rw [e3] at hg
       simp only at hg
       rcases hg with ⟨b, hb, hw⟩ | ⟨hb, hw⟩
       rotate_left
       · have ht : t < a.tmps.size := by rw [h.tmps]; exact (hops o' (List.mem_of_getElem? e2)).dst t e3
         obtain ⟨us, hu, l1, _⟩ := (h.slots t _ hb).inv_tup
         have hus : us = #[] := Array.eq_empty_of_size_eq_zero (by simpa using l1.symm)
         have hx : a.tmps[t]? = some (.tuple #[]) := by
           rw [hus] at hu
           rw [<- hu]; simp [ht]
         unfold yielded
         simp only [List.getElem?_toArray, e2, Option.bind_some, e3, hx]
         rw [hw]; cases wt <;> rfl
       have ht : t < a.tmps.size := by rw [h.tmps]; exact (hops o' (List.mem_of_getElem? e2)).dst t e3
       have hr := (h.slots t _ hb).inv_bool
       have hx : a.tmps[t]? = some (.bool b) := by rw [<- hr]; simp [ht]
       unfold yielded
       simp only [List.getElem?_toArray, e2, Option.bind_some, e3, hx]
       rw [hw]
       cases b <;> cases wt <;> rfl
theorem zkc {f : Nat -> Option AV} {g : Nat -> Option Ob} {c : Nat -> Bool} {a : Act} {w : World} {o : Oper} {e : Ev} {i : Nat} {Q : Exit -> Act -> World -> Prop} {K : Act -> World -> Prop} (hT : zb7 P T)
   (hs : zff base M W nt f g c a w) (hops : ∀ o ∈ ops, yac nt o) (ho : ops[i]? = some o) (he : yge P T ops f g c o e)
   (hK : ∀ a' w', zff base M W nt (ziv f o.dst e.v) (zao g e.os) (zhc c e.ice) a' w' -> K a' w') : wpOp P ops.toArray Q i K a w := by
 have hw := zse hs hops he.guard
 have hok := hops o (List.mem_of_getElem? ho)
 obtain ⟨D, μ, h⟩ := hs
 unfold wpOp
 rw [List.getElem?_toArray, ho]
 simp only
 rw [hw]
 cases e1 : e.want with
 | true =>
   rw [if_pos rfl]
   rcases he.yes e1 with h1 | ⟨h1, h2⟩
   · exact .inl (yg0 h1 (says h hok.dst hT hok.pl (fun t b ht => by simp [za1] at ht)) K Q hK)
   · rw [h2] at hK
     exact .inl (yic h hok.dst hok.pl h1 K Q hK)
 | false =>
   rw [if_neg (by simp)]
   obtain ⟨h1, h2, h3, _⟩ := he.no e1
   rw [h1, h2, h3] at hK
   exact hK _ _ ⟨D, μ, h.put hok.dst (.tup [] #[] rfl (fun i x v hx => by simp at hx))⟩
theorem zsj (hT : zb7 P T) (hops : ∀ o ∈ ops, yac nt o) {Q : Exit -> Act -> World -> Prop} {draw : Bool} : ∀ (r : List Oper) (i : Nat) (f : Nat -> Option AV) (g : Nat -> Option Ob) (c : Nat -> Bool) (acc : List (Nat × Ent)) (es : List Ev) (f' : Nat -> Option AV) (g' : Nat -> Option Ob) (c' : Nat -> Bool) (a : Act) (w : World),
   (∀ k, r[k]? = ops[i + k]?) -> ydl P T draw ops r i f g c acc es f' g' c' -> zff base M W nt f g c a w -> (∀ a' w', zff base M W nt f' g' c' a' w' -> Q .normal a' w') ->
   wpOps P ops.toArray Q (List.range' i r.length) a w
 | [], i, f, g, c, acc, es, f', g', c', a, w, hr, hW, hs, hQ => by
   cases es with
   | nil => obtain ⟨rfl, rfl, rfl⟩ := hW; exact hQ a w hs
   | cons _ _ => exact hW.elim
 | o :: r, i, f, g, c, acc, [], f', g', c', a, w, hr, hW, hs, hQ => hW.elim
 | o :: r, i, f, g, c, acc, e :: es, f', g', c', a, w, hr, hW, hs, hQ => by
   have ho : ops[i]? = some o := by have := hr 0; simpa using this.symm
   rw [List.length_cons, List.range'_succ, wpOps_cons]
   exact zkc hT hs hops ho hW.1 fun a' w' hs' => zsj hT hops r (i + 1) _ _ _ _ es f' g' c' a' w' (fun k => by have := hr (k + 1); rw [List.getElem?_cons_succ] at this; rw [this]; congr 1; omega) hW.2.2 hs' hQ
def zs9 (ops : List Oper) (E : Nat -> Ev) (t : Nat) (j : Nat) : Option AV := match ops[j]? with
 | some o => if o.dst = some t then some (E j).v else none
 | none => none
theorem zq0 (f : Nat -> Option AV) (o : Oper) (v : AV) (t : Nat) : ziv f o.dst v t = match (if o.dst = some t then some v else none) with | some x => some x | none => f t := by
 unfold ziv
 cases e : o.dst with
 | none => simp
 | some d =>
   by_cases h : t = d
   · subst h; simp
   · simp [h]; rw [if_neg (fun h' => h h'.symm)]
section
variable (ops : List Oper) (E : Nat -> Ev) (f0 : Nat -> Option AV) (g0 : Nat -> Option Ob) (c0 : Nat -> Bool)
def fL (L : Nat -> Bool) (n : Nat) : Nat -> Option AV := fun t => zfg L (zs9 ops E t) (f0 t) n
def gL (L : Nat -> Bool) (n : Nat) : Nat -> Option Ob := fun id => zfg L (fun j => za1 (E j).os id) (g0 id) n
def cL (L : Nat -> Bool) (n : Nat) : Nat -> Bool := fun id => ziy L (fun j => zb6 (E j).ice id) (c0 id) n
end
abbrev zea : Nat -> Bool := fun _ => true
variable {E : Nat -> Ev} {f0 : Nat -> Option AV} {g0 : Nat -> Option Ob} {c0 : Nat -> Bool}
theorem ych {i : Nat} {o : Oper} (ho : ops[i]? = some o) : fL ops E f0 zea (i + 1) = ziv (fL ops E f0 zea i) o.dst (E i).v := by
 funext t
 rw [zq0]
 show zfg zea (zs9 ops E t) (f0 t) (i + 1) = _
 rw [zi1, if_pos rfl]
 have : zs9 ops E t i = if o.dst = some t then some (E i).v else none := by unfold zs9; rw [ho]
 rw [this]
 cases (if o.dst = some t then some (E i).v else none) <;> rfl
theorem ycf {i : Nat} : gL E g0 zea (i + 1) = zao (gL E g0 zea i) (E i).os := by
 funext id
 show zfg zea _ (g0 id) (i + 1) = _
 rw [zi1, if_pos rfl]
 unfold zao
 cases za1 (E i).os id <;> rfl
theorem ycy {i : Nat} : cL E c0 zea (i + 1) = zhc (cL E c0 zea i) (E i).ice := by
 funext id
 show ziy zea _ (c0 id) (i + 1) = _
 rw [zms]
 rfl
def zxy (E : Nat -> Ev) (acc : List (Nat × Ent)) (i : Nat) : Prop := ∀ k, k < i -> (E k).ent = ⟨[], []⟩ \/ (k, (E k).ent) ∈ acc
theorem zrc {acc : List (Nat × Ent)} {i : Nat} (h : zxy E acc i) (hno : (E i).want = false -> (E i).ent = ⟨[], []⟩) : zxy E (zrd acc i (E i)) (i + 1) := by
 intro k hk
 unfold zrd
 by_cases hi : k = i
 · subst hi
   cases hw : (E k).want with
   | false => exact .inl (hno hw)
   | true =>
     rw [if_pos rfl]
     unfold zp5
     generalize (E k).ent = x
     obtain ⟨a, b⟩ := x
     cases a with
     | nil => cases b with
       | nil => exact .inl rfl
       | cons _ _ => exact .inr (by simp)
     | cons _ _ => exact .inr (by simp)
 · rcases h k (by omega) with h | h
   · exact .inl h
   · refine .inr ?_
     split
     · unfold zp5
       split
       · split
         · exact h
         · exact List.mem_cons_of_mem _ h
       · exact List.mem_cons_of_mem _ h
     · exact h
structure At (P : Program) (T : TT) (ops : List Oper) (E : Nat -> Ev) (f0 : Nat -> Option AV) (g0 : Nat -> Option Ob) (c0 : Nat -> Bool) (j : Nat) (o : Oper) : Prop where
 ev : yge P T ops (fL ops E f0 zea j) (gL E g0 zea j) (cL E c0 zea j) o (E j)
 ent : zzi (fL ops E f0 zea j) o (E j)
 ord : ∃ acc, zxy E acc j /\ zzf ops o (E j) acc
theorem zsf : ∀ (r : List Oper) (i : Nat) (f : Nat -> Option AV) (g : Nat -> Option Ob) (c : Nat -> Bool) (acc : List (Nat × Ent)) (es : List Ev) (f' : Nat -> Option AV) (g' : Nat -> Option Ob) (c' : Nat -> Bool),
   (∀ k, r[k]? = ops[i + k]?) -> (∀ k e, es[k]? = some e -> E (i + k) = e) -> f = fL ops E f0 zea i -> g = gL E g0 zea i -> c = cL E c0 zea i -> zxy E acc i -> ydl P T true ops r i f g c acc es f' g' c' ->
   (∀ j o, i <= j -> ops[j]? = some o -> At P T ops E f0 g0 c0 j o) /\ f' = fL ops E f0 zea (i + r.length) /\ g' = gL E g0 zea (i + r.length) /\ c' = cL E c0 zea (i + r.length)
 | [], i, f, g, c, acc, es, f', g', c', hr, hE, ef, eg, ec, hn, hW => by
   cases es with
   | nil =>
     obtain ⟨rfl, rfl, rfl⟩ := hW
     refine ⟨fun j o hj ho => ?_, ef, eg, ec⟩
     have := hr (j - i)
     rw [show i + (j - i) = j by omega, ho] at this
     simp at this
   | cons _ _ => exact hW.elim
 | o :: r, i, f, g, c, acc, [], f', g', c', hr, hE, ef, eg, ec, hn, hW => hW.elim
 | o :: r, i, f, g, c, acc, e :: es, f', g', c', hr, hE, ef, eg, ec, hn, hW => by
   have ho : ops[i]? = some o := by have := hr 0; simpa using this.symm
   obtain ⟨h1, h2, h3⟩ := hW
   obtain ⟨h2, h2'⟩ := h2 rfl
   have hEi : E i = e := hE 0 e rfl
   rw [if_pos rfl] at h3
   have ih := zsf r (i + 1) _ _ _ _ es f' g' c' (fun k => by have := hr (k + 1); rw [List.getElem?_cons_succ] at this; rw [this]; congr 1; omega) (fun k x hx => by rw [show i + 1 + k = i + (k + 1) by omega]; exact hE (k + 1) x (by simpa using hx))
     (by rw [ych ho, hEi, ef]) (by rw [ycf, hEi, eg]) (by rw [ycy, hEi, ec]) (by rw [<- hEi]; exact zrc hn (by rw [hEi]; exact fun hw => (h1.no hw).2.2.2)) h3
   obtain ⟨i1, i2, i3, i4⟩ := ih
   rw [show i + 1 + r.length = i + (o :: r).length by simp; omega] at i2 i3 i4
   refine ⟨fun j o' hj ho' => ?_, i2, i3, i4⟩
   by_cases e1 : j = i
   · subst e1
     rw [ho] at ho'
     cases ho'
     subst hEi; subst ef; subst eg; subst ec
     exact ⟨h1, h2, acc, hn, h2'⟩
   · exact i1 j o' (by omega) ho'
theorem zlx {xs ys : List Nat} {id : Nat} (h1 : id ∈ xs) (h2 : id ∈ ys) : zuj xs ys = true := by
 induction xs with
 | nil => cases h1
 | cons x xs ih =>
   unfold zuj
   rcases List.mem_cons.1 h1 with rfl | h1
   · rw [zbh.2 h2]
   · split
     · rfl
     · exact ih h1
theorem ycp {a b : Ent} {id : Nat} (h1 : id ∈ a.wr) (h2 : id ∈ b.ids \/ id ∈ b.wr) : zo8 a b = true := by
 unfold zo8
 rw [zlx h1 (by rw [zad, List.mem_append]; exact h2)]
theorem yco {a b : Ent} {id : Nat} (h1 : id ∈ b.wr) (h2 : id ∈ a.ids) : zo8 a b = true := by
 unfold zo8
 split
 · rfl
 · exact zlx h1 h2
theorem znl {es : List Edge} {x : Ent} {acc : List (Nat × Ent)} (h : zgf ops es x acc = true) {k : Nat} {y : Ent} (hm : (k, y) ∈ acc) (hc : zo8 x y = true) : ahead ops 4 es k = true := by
 induction acc with
 | nil => cases hm
 | cons z acc ih =>
   obtain ⟨j, z⟩ := z
   unfold zgf at h
   rcases List.mem_cons.1 hm with e | hm
   · cases e
     rw [hc] at h
     simp only at h
     split at h
     · assumption
     · cases h
   · refine ih ?_ hm
     split at h
     · split at h
       · exact h
       · cases h
     · exact h
def zju (ops : List Oper) (L : Nat -> Bool) : Prop := ∀ (k : Nat) (o : Oper) (e : Edge), ops[k]? = some o -> L k = true -> e ∈ o.after -> Region.binds .any e = true -> L e.on = true
theorem zep {L : Nat -> Bool} {es : List Edge} {j : Nat} (h : ∀ e ∈ es, Region.binds .any e = true -> L e.on = true) (hd : zaf es j = true) : L j = true := by
 induction es with
 | nil => simp [zaf] at hd
 | cons e es ih =>
   have ih := ih fun x hx => h x (by simp [hx])
   unfold zaf at hd
   split at hd
   · rename_i hb
     split at hd
     · rename_i he
       rw [<- za3 he]; exact h e (by simp) hb
     · exact ih hd
   · exact ih hd
theorem zl6 {L : Nat -> Bool} (hc : zju ops L) {j : Nat} : ∀ (n : Nat) (es : List Edge), (∀ e ∈ es, Region.binds .any e = true -> L e.on = true) -> ahead ops n es j = true -> L j = true
 | 0, es, h, hd => zep h hd
 | n + 1, es, h, hd => by
   unfold ahead at hd
   split at hd
   · rename_i h'; exact zep h h'
   · rw [List.any_eq_true] at hd
     obtain ⟨e, he, hd⟩ := hd
     split at hd
     · rename_i hb
       split at hd
       · cases hd
       · split at hd
         · rename_i o ho
           exact zl6 hc n o.after.toList (fun x hx hxb => hc e.on o x ho (h e he hb) (Array.mem_toList_iff.1 hx) hxb) hd
         · cases hd
     · cases hd
structure zwh (ops : List Oper) (L : Nat -> Bool) (i : Nat) (o : Oper) : Prop where
 at_ : ops[i]? = some o
 not : L i = false
 go : ∀ e ∈ o.after.toList, Region.binds .any e = true -> L e.on = true
variable {L : Nat -> Bool} {i : Nat} {o : Oper}
theorem yfk (h : At P T ops E f0 g0 c0 i o) {id : Nat} (hid : id ∈ (E i).ent.ids \/ id ∈ (E i).ent.wr) : (E i).want = true := by
 cases hw : (E i).want with
 | true => rfl
 | false =>
   have := (h.ev.no hw).2.2.2
   rw [this] at hid
   simp at hid
theorem zp0 (hA : ∀ j o, ops[j]? = some o -> At P T ops E f0 g0 c0 j o) {j k : Nat} {o : Oper} (ho : ops[k]? = some o) (hjk : j < k) {id : Nat} (h : (id ∈ (E k).ent.wr /\ (id ∈ (E j).ent.ids \/ id ∈ (E j).ent.wr)) \/ (id ∈ (E j).ent.wr /\ id ∈ (E k).ent.ids)) : ahead ops 4 o.after.toList j = true := by
 have A := hA k o ho
 have hw : (E k).want = true := yfk A (id := id) (by rcases h with h | h; exact .inr h.1; exact .inl h.2)
 obtain ⟨acc, hn, ho'⟩ := A.ord
 have hor := ho' hw
 have hcl : zo8 (E k).ent (E j).ent = true := by
   rcases h with h | h
   · exact ycp h.1 h.2
   · exact yco h.1 h.2
 rcases hn j hjk with h0 | h0
 · rw [h0] at h; simp at h
 · exact znl hor h0 hcl
theorem yg7 (hA : ∀ j o, ops[j]? = some o -> At P T ops E f0 g0 c0 j o) (hC : zju ops L) (hR : zwh ops L i o) {j : Nat} (hj : j < ops.length) {id : Nat}
   (h : (id ∈ (E j).ent.wr /\ (id ∈ (E i).ent.ids \/ id ∈ (E i).ent.wr)) \/ (id ∈ (E i).ent.wr /\ id ∈ (E j).ent.ids)) : L j = decide (j < i) := by
 obtain ⟨oj, hoj⟩ : ∃ oj, ops[j]? = some oj := ⟨_, List.getElem?_eq_getElem hj⟩
 rcases Nat.lt_trichotomy j i with hlt | heq | hgt
 · have := zp0 hA hR.at_ hlt (id := id) (by
     rcases h with ⟨h1, h2 | h2⟩ | ⟨h1, h2⟩
     · exact .inr ⟨h1, h2⟩
     · exact .inl ⟨h2, .inr h1⟩
     · exact .inl ⟨h1, .inl h2⟩)
   rw [zl6 hC 4 _ hR.go this]; simp [hlt]
 · subst heq
   rw [hR.not]; simp
 · have := zp0 hA hoj hgt (id := id) (by
     rcases h with ⟨h1, h2 | h2⟩ | ⟨h1, h2⟩
     · exact .inl ⟨h1, .inl h2⟩
     · exact .inl ⟨h1, .inr h2⟩
     · exact .inr ⟨h1, h2⟩)
   have hn : L j = false := by
     cases hL : L j with
     | false => rfl
     | true =>
       have h2 := zl6 hC 4 _ (fun e he hb => hC j oj e hoj hL (Array.mem_toList_iff.1 he) hb) this
       rw [hR.not] at h2; cases h2
   rw [hn]; simp; omega
theorem ya5 (hD : zio ops) (hC : zju ops L) (hR : zwh ops L i o) {t : Nat} (ht : Operand.tmp t ∈ zb3 o.op \/ ∃ g b og, o.guard = some (g, b) /\ ops[g]? = some og /\ og.dst = some t) : fL ops E f0 L ops.length t = fL ops E f0 zea i t := by
 have hi : i < ops.length := (List.getElem?_eq_some_iff.1 hR.at_).1
 show zfg L (zs9 ops E t) (f0 t) ops.length = zfg zea (zs9 ops E t) (f0 t) i
 rw [<- zi2 i ops.length (by omega)]
 refine zbt _ fun j hj hh => ?_
 obtain ⟨oj, hoj⟩ : ∃ oj, ops[j]? = some oj := ⟨_, List.getElem?_eq_getElem hj⟩
 have hdj : oj.dst = some t := by
   unfold zs9 at hh
   rw [hoj] at hh
   simp only at hh
   split at hh
   · assumption
   · exact absurd rfl hh
 rcases ht with ht | ⟨g, b, og, h1, h2, h3⟩
 · rcases hD.reads i j o oj t hR.at_ hoj hdj ht with h | h
   · rw [zep hR.go h.2]; simp [h.1]
   · have hn : L j = false := by
       cases hL : L j with
       | false => rfl
       | true =>
         have h2 := zep (fun e he hb => hC j oj e hoj hL (Array.mem_toList_iff.1 he) hb) h.2
         rw [hR.not] at h2; cases h2
     rw [hn]; simp; omega
 · have := hD.once j g oj og t hoj h2 hdj h3
   subst this
   have hd := hD.guard i o j b hR.at_ h1
   rw [zep hR.go hd]
   have : j < i := by
     have key : ∀ es : List Edge, (∀ e ∈ es, Region.binds .any e = true -> e.on < i) -> zaf es j = true -> j < i := by
       intro es
       induction es with
       | nil => intro _ h; simp [zaf] at h
       | cons e es ih =>
         intro h hd
         have ih := ih fun x hx => h x (by simp [hx])
         unfold zaf at hd
         split at hd
         · rename_i hb
           split at hd
           · rename_i he; rw [<- za3 he]; exact h e (by simp) hb
           · exact ih hd
         · exact ih hd
     exact key _ (fun e he hb => hD.back i o e hR.at_ (Array.mem_toList_iff.1 he) hb) hd
   simp [this]
theorem zyp {α : Type} {l : List (Nat × α)} {id : Nat} (h : za1 l id ≠ none) : id ∈ zpt l := by
 induction l with
 | nil => simp [za1] at h
 | cons x l ih =>
   obtain ⟨k, v⟩ := x
   unfold za1 at h
   unfold zpt
   cases e : zae k id with
   | true => simp [za3 e]
   | false => rw [e] at h; simp [ih h]
theorem zxw (h : At P T ops E f0 g0 c0 i o) {id : Nat} (hh : za1 (E i).os id ≠ none) : id ∈ (E i).ent.wr := by
 cases hw : (E i).want with
 | true => exact (h.ent hw).2.2.2.1 id (zyp hh)
 | false => rw [(h.ev.no hw).2.1] at hh; simp [za1] at hh
theorem yc8 (h : At P T ops E f0 g0 c0 i o) {id : Nat} (hh : zb6 (E i).ice id = true) : id ∈ (E i).ent.ids := by
 cases hw : (E i).want with
 | true => exact (h.ent hw).2.2.1 id (zbh.1 hh)
 | false => rw [(h.ev.no hw).2.2.1] at hh; simp [zb6] at hh
theorem yfg (hD : zio ops) (hA : ∀ j o, ops[j]? = some o -> At P T ops E f0 g0 c0 j o) (hC : zju ops L) (hR : zwh ops L i o) :
   yge P T ops (fL ops E f0 L ops.length) (gL E g0 L ops.length) (cL E c0 L ops.length) o (E i) := by
 have A := hA i o hR.at_
 have hi : i < ops.length := (List.getElem?_eq_some_iff.1 hR.at_).1
 refine ⟨?_, A.ev.no, fun hw => ?_⟩
 · have hg := A.ev.guard
   unfold zfc at hg |-
   cases e1 : o.guard with
   | none => rw [e1] at hg; exact hg
   | some x =>
     obtain ⟨j, b⟩ := x
     rw [e1] at hg
     simp only at hg |-
     cases e2 : ops[j]? with
     | none => rw [e2] at hg; exact hg
     | some o' =>
       rw [e2] at hg
       simp only at hg |-
       cases e3 : o'.dst with
       | none => rw [e3] at hg; exact hg
       | some t =>
         rw [e3] at hg
         simp only at hg |-
         rw [ya5 hD hC hR (.inr ⟨j, b, o', e1, e2, e3⟩)]
         exact hg
 · have h1 := A.ev.yes hw
   obtain ⟨n1, n2, n3, n4, n5⟩ := A.ent hw
   have hv : zbm (evf (fL ops E f0 L ops.length) []) (zb3 o.op) = zbm (evf (fL ops E f0 zea i) []) (zb3 o.op) := by
     refine zex fun x hx => ?_
     cases x with
     | tmp t => simp only [evf, za1]; rw [ya5 hD hC hR (.inl hx)]
     | _ => rfl
   have hg : ∀ id, id ∈ (E i).ent.ids -> gL E g0 L ops.length id = gL E g0 zea i id := by
     intro id hid
     show zfg L _ (g0 id) ops.length = zfg zea _ (g0 id) i
     rw [<- zi2 i ops.length (by omega)]
     refine zbt _ fun j hj hh => ?_
     obtain ⟨oj, hoj⟩ : ∃ oj, ops[j]? = some oj := ⟨_, List.getElem?_eq_getElem hj⟩
     exact yg7 hA hC hR hj (id := id) (.inl ⟨zxw (hA j oj hoj) hh, .inl hid⟩)
   have hgw : ∀ id, id ∈ (E i).ent.wr -> gL E g0 L ops.length id = gL E g0 zea i id := by
     intro id hid
     show zfg L _ (g0 id) ops.length = zfg zea _ (g0 id) i
     rw [<- zi2 i ops.length (by omega)]
     refine zbt _ fun j hj hh => ?_
     obtain ⟨oj, hoj⟩ : ∃ oj, ops[j]? = some oj := ⟨_, List.getElem?_eq_getElem hj⟩
     exact yg7 hA hC hR hj (id := id) (.inl ⟨zxw (hA j oj hoj) hh, .inr hid⟩)
   have hc : ∀ id, id ∈ (E i).ent.wr -> cL E c0 L ops.length id = cL E c0 zea i id := by
     intro id hid
     show ziy L _ (c0 id) ops.length = ziy zea _ (c0 id) i
     rw [<- zwb i ops.length (by omega)]
     refine zdt _ fun j hj hh => ?_
     obtain ⟨oj, hoj⟩ : ∃ oj, ops[j]? = some oj := ⟨_, List.getElem?_eq_getElem hj⟩
     exact yg7 hA hC hR hj (id := id) (.inr ⟨hid, yc8 (hA j oj hoj) hh⟩)
   rcases h1 with h1 | ⟨h1, h2⟩
   · left
     rw [zhk (f' := fL ops E f0 zea i) (g' := gL E g0 zea i) (c' := cL E c0 zea i) (kn' := []) hv (fun id hid => hg id (n1 id hid)) (fun hcr d hd => hg d (n2 hcr d hd)) (fun hwr id hid => hc id (n5 hwr id hid))]
     exact h1
   · right
     refine ⟨?_, h2⟩
     obtain ⟨fo, xs, ts, k, first, caps, zs, F, fr, T', e, hvals, hM, hm, q1, q2⟩ := h1
     refine ⟨fo, xs, ts, k, first, caps, zs, F, fr, T', e, by rw [hv]; exact hvals, hM, hm.congr (fun id hid => hgw id (n4 id (by rw [q2]; exact hid))) (fun id hid => hc id (n4 id (by rw [q2]; exact hid))), q1, q2⟩
theorem yd6 (hD : zio ops) (hA : ∀ j o, ops[j]? = some o -> At P T ops E f0 g0 c0 j o) (hC : zju ops L) (hR : zwh ops L i o) {L' : Nat -> Bool} (h1 : L' i = true) (hne : ∀ j, j ≠ i -> L' j = L j) :
   ziv (fL ops E f0 L ops.length) o.dst (E i).v = fL ops E f0 L' ops.length /\ zao (gL E g0 L ops.length) (E i).os = gL E g0 L' ops.length /\ zhc (cL E c0 L ops.length) (E i).ice = cL E c0 L' ops.length := by
 have A := hA i o hR.at_
 have hi : i < ops.length := (List.getElem?_eq_some_iff.1 hR.at_).1
 refine ⟨?_, ?_, ?_⟩
 · funext t
   rw [zq0]
   have hf : zs9 ops E t i = if o.dst = some t then some (E i).v else none := by unfold zs9; rw [hR.at_]
   have := zkn (hit := zs9 ops E t) (s := f0 t) h1 hR.not hne ops.length hi (fun hh j hij hj hLj => by
     rw [hf] at hh
     have hd : o.dst = some t := by
       split at hh
       · assumption
       · exact absurd rfl hh
     obtain ⟨oj, hoj⟩ : ∃ oj, ops[j]? = some oj := ⟨_, List.getElem?_eq_getElem hj⟩
     unfold zs9
     rw [hoj]
     simp only
     rw [if_neg]
     intro hdj
     have := hD.once i j o oj t hR.at_ hoj hd hdj
     omega)
   rw [hf] at this
   show _ = zfg L' (zs9 ops E t) (f0 t) ops.length
   rw [this]
   cases (if o.dst = some t then some (E i).v else none) <;> rfl
 · funext id
   have := zkn (hit := fun j => za1 (E j).os id) (s := g0 id) h1 hR.not hne ops.length hi (fun hh j hij hj hLj => by
     refine Decidable.byContradiction fun hjn => ?_
     obtain ⟨oj, hoj⟩ : ∃ oj, ops[j]? = some oj := ⟨_, List.getElem?_eq_getElem hj⟩
     have := yg7 hA hC hR hj (id := id) (.inl ⟨zxw (hA j oj hoj) (by intro e; rw [e] at hjn; exact hjn rfl), .inr (zxw A hh)⟩)
     rw [hLj] at this
     simp at this
     omega)
   show _ = zfg L' (fun j => za1 (E j).os id) (g0 id) ops.length
   rw [this]
   unfold zao
   cases za1 (E i).os id <;> rfl
 · funext id
   have := zq8 (p := fun j => zb6 (E j).ice id) (s := c0 id) h1 hR.not hne ops.length hi
   show _ = ziy L' _ (c0 id) ops.length
   rw [this]
   rfl
def left (L : Array Bool) : Nat := L.toList.count false
theorem zyi {L : Array Bool} {i : Nat} (h : L.getD i true = false) (hi : i < L.size) : left (L.setIfInBounds i true) + 1 = left L := by
 have hget : L[i] = false := by simpa [hi] using h
 unfold left
 have hc : 0 < List.count false L.toList := List.count_pos_iff.2 (by rw [<- hget]; simp)
 have h2 := List.count_set (a := true) (b := false) (l := L.toList) (i := i) (by simpa using hi)
 rw [Array.toList_setIfInBounds, h2]
 have e1 : (L.toList[i]'(by simpa using hi)) = false := by simpa using hget
 rw [e1]
 have e2 : ((false == false) = true) := rfl
 have e3 : ¬ ((true == false) = true) := by decide
 rw [if_pos e2, if_neg e3]
 omega
theorem znz {L : Array Bool} {i : Nat} (h : i < L.size) (d d' : Bool) : L.getD i d = L.getD i d' := by simp [h]
theorem zmu (hD : zio ops) {L : Array Bool} (hs : L.size = ops.length) (hn : Region.ready .any ops.toArray L = []) : ∀ j, j < ops.length -> L.getD j true = true := by
 intro j
 induction j using Nat.strongRecOn with
 | _ j ih =>
   intro hj
   refine Decidable.byContradiction fun h => ?_
   have hm : j ∈ Region.ready .any ops.toArray L := by
     rw [mem_ready]
     refine ⟨by simpa using h, ops[j], by simp [hj], fun e he hb => ?_⟩
     have hlt := hD.back j ops[j] e (List.getElem?_eq_getElem hj) he hb
     rw [znz (by omega) false true]
     exact ih e.on hlt (by omega)
   rw [hn] at hm; cases hm
structure InvA (base : Nat) (M : Two) (W : World) (nt : Nat) (ops : List Oper) (E : Nat -> Ev) (f0 : Nat -> Option AV) (g0 : Nat -> Option Ob) (c0 : Nat -> Bool) (L : Array Bool) (a : Act) (w : World) : Prop where
 size : L.size = ops.length
 closed : zju ops (fun i => L.getD i false)
 sim : zff base M W nt (fL ops E f0 (fun i => L.getD i false) ops.length) (gL E g0 (fun i => L.getD i false) ops.length) (cL E c0 (fun i => L.getD i false) ops.length) a w
theorem zme {L : Array Bool} (hs : L.size = ops.length) (h : ∀ j, j < ops.length -> L.getD j true = true) :
   fL ops E f0 (fun i => L.getD i false) ops.length = fL ops E f0 zea ops.length /\ gL E g0 (fun i => L.getD i false) ops.length = gL E g0 zea ops.length /\ cL E c0 (fun i => L.getD i false) ops.length = cL E c0 zea ops.length := by
 have hj : ∀ j, j < ops.length -> L.getD j false = zea j := fun j hj => by rw [znz (by omega) false true]; exact h j hj
 exact ⟨funext fun t => zbt _ fun j h _ => hj j h, funext fun t => zbt _ fun j h _ => hj j h, funext fun t => zdt _ fun j h _ => hj j h⟩
theorem yaa (hT : zb7 P T) (hops : ∀ o ∈ ops, yac nt o) (hD : zio ops) (hA : ∀ j o, ops[j]? = some o -> At P T ops E f0 g0 c0 j o) {Q : Exit -> Act -> World -> Prop}
   (hQ : ∀ a w, zff base M W nt (fL ops E f0 zea ops.length) (gL E g0 zea ops.length) (cL E c0 zea ops.length) a w -> Q .normal a w) :
   ∀ (fuel : Nat) (L : Array Bool) (a : Act) (w : World), left L <= fuel -> InvA base M W nt ops E f0 g0 c0 L a w -> wpAny P .any ops.toArray Q fuel L a w
 | 0, L, a, w, hf, I => by
   have hall : ∀ j, j < ops.length -> L.getD j true = true := fun j hj => by
     refine Decidable.byContradiction fun h => ?_
     have hm : false ∈ L.toList := by
       have hjL : j < L.size := by rw [I.size]; exact hj
       have : L[j] = false := by simpa [hjL] using h
       rw [<- this]; simp
     have := List.count_pos_iff.2 hm
     unfold left at hf; omega
   obtain ⟨e1, e2, e3⟩ := zme (E := E) (f0 := f0) (g0 := g0) (c0 := c0) I.size hall
   refine ⟨?_, hQ a w (by have := I.sim; rwa [e1, e2, e3] at this)⟩
   refine List.eq_nil_iff_forall_not_mem.2 fun j hj => ?_
   rw [mem_ready] at hj
   obtain ⟨h1, o, ho, _⟩ := hj
   have hj : j < ops.length := by
     rw [List.getElem?_toArray] at ho
     exact (List.getElem?_eq_some_iff.1 ho).1
   rw [hall j hj] at h1; cases h1
 | fuel + 1, L, a, w, hf, I => by
   refine ⟨fun hn => ?_, fun i hi => ?_⟩
   · obtain ⟨e1, e2, e3⟩ := zme (E := E) (f0 := f0) (g0 := g0) (c0 := c0) I.size (zmu hD I.size hn)
     exact hQ a w (by have := I.sim; rwa [e1, e2, e3] at this)
   · rw [mem_ready] at hi
     obtain ⟨hun, o, ho, hed⟩ := hi
     rw [List.getElem?_toArray] at ho
     have hil : i < ops.length := (List.getElem?_eq_some_iff.1 ho).1
     have hiL : i < L.size := by rw [I.size]; exact hil
     have hR : zwh ops (fun i => L.getD i false) i o := ⟨ho, by rw [znz hiL false true]; exact hun, fun e he hb => hed e (Array.mem_toList_iff.1 he) hb⟩
     have hleft := zyi hun hiL
     have h1 : (fun j => (L.setIfInBounds i true).getD j false) i = true := by simp [hiL]
     have hne : ∀ j, j ≠ i -> (fun j => (L.setIfInBounds i true).getD j false) j = (fun j => L.getD j false) j := fun j hj => by
       simp only [Array.getD_eq_getD_getElem?, Array.getElem?_setIfInBounds_ne (fun e => hj e.symm)]
     obtain ⟨q1, q2, q3⟩ := yd6 hD hA I.closed hR h1 hne
     refine zkc hT I.sim hops ho (yfg hD hA I.closed hR) fun a' w' hs => yaa hT hops hD hA hQ fuel _ a' w' (by omega) ⟨by simpa using I.size, ?_, ?_⟩
     · intro k ok e hk hL he hb
       by_cases hki : k = i
       · subst hki
         rw [ho] at hk; cases hk
         have := hR.go e (Array.mem_toList_iff.2 he) hb
         by_cases hei : e.on = k
         · rw [hei]; exact h1
         · have := hne e.on hei; simp only at this |-; rw [this]; exact hR.go e (Array.mem_toList_iff.2 he) hb
       · have h2 := hne k hki
         simp only at h2 hL
         rw [h2] at hL
         have := I.closed k ok e hk hL he hb
         by_cases hei : e.on = i
         · rw [hei]; exact h1
         · have h3 := hne e.on hei; simp only at h3 |-; rw [h3]; exact this
     · rw [q1, q2, q3] at hs
       exact hs
theorem zd9 {L : Array Bool} {i : Nat} (h : i ∈ Region.ready .any ops.toArray L) : ∃ o, ops[i]? = some o /\ L.getD i true = false /\ ∀ j, zaf o.after.toList j = true -> L.getD j false = true := by
 rw [mem_ready] at h
 obtain ⟨h1, o, ho, h2⟩ := h
 rw [List.getElem?_toArray] at ho
 refine ⟨o, ho, h1, fun j hj => ?_⟩
 have : ∀ es : List Edge, zaf es j = true -> ∃ e, e ∈ es /\ Region.binds .any e = true /\ e.on = j := by
   intro es
   induction es with
   | nil => intro h; cases h
   | cons x es ih =>
     intro h
     unfold zaf at h
     split at h
     · rename_i hb
       split at h
       · rename_i he; exact ⟨x, by simp, hb, za3 he⟩
       · obtain ⟨e, e1, e2, e3⟩ := ih h; exact ⟨e, by simp [e1], e2, e3⟩
     · obtain ⟨e, e1, e2, e3⟩ := ih h; exact ⟨e, by simp [e1], e2, e3⟩
 obtain ⟨e, e1, e2, e3⟩ := this _ hj
 rw [<- e3]
 exact h2 e (Array.mem_toList_iff.1 e1) e2
theorem zvn {o0 o1 o2 o3 : Oper} (hT : zb7 P T) (hops : ∀ o ∈ [o0, o1, o2, o3], yac nt o) (hD : zio [o0, o1, o2, o3])
   (d1 : zaf o1.after.toList 0 = true) (d2 : zaf o2.after.toList 0 = true) (d3 : zaf o3.after.toList 1 = true) (d4 : zaf o3.after.toList 2 = true) {Q : Exit -> Act -> World -> Prop}
   {f f1 f2 f3 f4 f2' f3' f4' : Nat -> Option AV} {g g1 g2 g3 g4 g2' g3' g4' : Nat -> Option Ob} {c c1 c2 c3 c4 c2' c3' c4' : Nat -> Bool}
   (h0 : ∀ a w K, zff base M W nt f g c a w -> (∀ a w, zff base M W nt f1 g1 c1 a w -> K a w) -> wpOp P [o0, o1, o2, o3].toArray Q 0 K a w)
   (h1 : ∀ a w K, zff base M W nt f1 g1 c1 a w -> (∀ a w, zff base M W nt f2 g2 c2 a w -> K a w) -> wpOp P [o0, o1, o2, o3].toArray Q 1 K a w)
   (h2 : ∀ a w K, zff base M W nt f2 g2 c2 a w -> (∀ a w, zff base M W nt f3 g3 c3 a w -> K a w) -> wpOp P [o0, o1, o2, o3].toArray Q 2 K a w)
   (h3 : ∀ a w K, zff base M W nt f3 g3 c3 a w -> (∀ a w, zff base M W nt f4 g4 c4 a w -> K a w) -> wpOp P [o0, o1, o2, o3].toArray Q 3 K a w)
   (h1' : ∀ a w K, zff base M W nt f1 g1 c1 a w -> (∀ a w, zff base M W nt f2' g2' c2' a w -> K a w) -> wpOp P [o0, o1, o2, o3].toArray Q 2 K a w)
   (h2' : ∀ a w K, zff base M W nt f2' g2' c2' a w -> (∀ a w, zff base M W nt f3' g3' c3' a w -> K a w) -> wpOp P [o0, o1, o2, o3].toArray Q 1 K a w)
   (h3' : ∀ a w K, zff base M W nt f3' g3' c3' a w -> (∀ a w, zff base M W nt f4' g4' c4' a w -> K a w) -> wpOp P [o0, o1, o2, o3].toArray Q 3 K a w)
   (hQ : ∀ a w, zff base M W nt f4 g4 c4 a w -> Q .normal a w) (hQ' : ∀ a w, zff base M W nt f4' g4' c4' a w -> Q .normal a w)
   {a : Act} {w : World} (hs : zff base M W nt f g c a w) : wpAny P .any [o0, o1, o2, o3].toArray Q 4 #[false, false, false, false] a w := by
 have nd : ∀ (L : Array Bool), L.size = 4 -> (∃ j, j < 4 /\ L.getD j true = false) -> Region.ready .any [o0, o1, o2, o3].toArray L = [] -> False := by
   intro L hL hj hn
   obtain ⟨j, hj1, hj2⟩ := hj
   have := zmu hD (L := L) hL hn j hj1
   rw [this] at hj2; cases hj2
 have four : ∀ {i : Nat} {o : Oper}, [o0, o1, o2, o3][i]? = some o -> (i = 0 /\ o = o0) \/ (i = 1 /\ o = o1) \/ (i = 2 /\ o = o2) \/ (i = 3 /\ o = o3) := by
   intro i o h
   match i, h with
   | 0, h => cases h; simp
   | 1, h => cases h; simp
   | 2, h => cases h; simp
   | 3, h => cases h; simp
   | i + 4, h => simp at h
 refine ⟨fun hn => (nd _ rfl ⟨0, by omega, rfl⟩ hn).elim, fun i hi => ?_⟩
 obtain ⟨o, ho, hL, hd⟩ := zd9 hi
 rcases four ho with ⟨rfl, rfl⟩ | ⟨rfl, rfl⟩ | ⟨rfl, rfl⟩ | ⟨rfl, rfl⟩
 rotate_left
 · cases hd 0 d1
 · cases hd 0 d2
 · cases hd 1 d3
 refine h0 a w _ hs fun a w hs => ?_
 refine ⟨fun hn => (nd _ rfl ⟨1, by omega, rfl⟩ hn).elim, fun i hi => ?_⟩
 obtain ⟨o, ho, hL, hd⟩ := zd9 hi
 rcases four ho with ⟨rfl, rfl⟩ | ⟨rfl, rfl⟩ | ⟨rfl, rfl⟩ | ⟨rfl, rfl⟩
 · cases hL
 · refine h1 a w _ hs fun a w hs => ?_
   refine ⟨fun hn => (nd _ rfl ⟨2, by omega, rfl⟩ hn).elim, fun i hi => ?_⟩
   obtain ⟨o, ho, hL, hd⟩ := zd9 hi
   rcases four ho with ⟨rfl, rfl⟩ | ⟨rfl, rfl⟩ | ⟨rfl, rfl⟩ | ⟨rfl, rfl⟩
   · cases hL
   · cases hL
   · refine h2 a w _ hs fun a w hs => ?_
     refine ⟨fun hn => (nd _ rfl ⟨3, by omega, rfl⟩ hn).elim, fun i hi => ?_⟩
     obtain ⟨o, ho, hL, hd⟩ := zd9 hi
     rcases four ho with ⟨rfl, rfl⟩ | ⟨rfl, rfl⟩ | ⟨rfl, rfl⟩ | ⟨rfl, rfl⟩
     · cases hL
     · cases hL
     · cases hL
     · refine h3 a w _ hs fun a w hs => ?_
       refine ⟨?_, hQ a w hs⟩
       refine List.eq_nil_iff_forall_not_mem.2 fun i hi => ?_
       obtain ⟨o, ho, hL, hd⟩ := zd9 hi
       rcases four ho with ⟨rfl, rfl⟩ | ⟨rfl, rfl⟩ | ⟨rfl, rfl⟩ | ⟨rfl, rfl⟩ <;> cases hL
   · cases hd 2 d4
 · refine h1' a w _ hs fun a w hs => ?_
   refine ⟨fun hn => (nd _ rfl ⟨1, by omega, rfl⟩ hn).elim, fun i hi => ?_⟩
   obtain ⟨o, ho, hL, hd⟩ := zd9 hi
   rcases four ho with ⟨rfl, rfl⟩ | ⟨rfl, rfl⟩ | ⟨rfl, rfl⟩ | ⟨rfl, rfl⟩
   · cases hL
   · refine h2' a w _ hs fun a w hs => ?_
     refine ⟨fun hn => (nd _ rfl ⟨3, by omega, rfl⟩ hn).elim, fun i hi => ?_⟩
     obtain ⟨o, ho, hL, hd⟩ := zd9 hi
     rcases four ho with ⟨rfl, rfl⟩ | ⟨rfl, rfl⟩ | ⟨rfl, rfl⟩ | ⟨rfl, rfl⟩
     · cases hL
     · cases hL
     · cases hL
     · refine h3' a w _ hs fun a w hs => ?_
       refine ⟨?_, hQ' a w hs⟩
       refine List.eq_nil_iff_forall_not_mem.2 fun i hi => ?_
       obtain ⟨o, ho, hL, hd⟩ := zd9 hi
       rcases four ho with ⟨rfl, rfl⟩ | ⟨rfl, rfl⟩ | ⟨rfl, rfl⟩ | ⟨rfl, rfl⟩ <;> cases hL
   · cases hL
   · cases hd 1 d3
 · cases hd 1 d3
def ztq (nt : Nat) (draw : Bool) (ops : List Oper) : Bool := ops.all (yh8 nt) && (!draw || zif ops 0 ops)
theorem zjd {Q1 : AV -> Prop} {v : Nat} {k : St -> zbd} {s : St} (hk : ziz (za1 s.slots) s.kn) (h : Sat P Q1 (zym v k s)) : ∃ s' : St, s'.slots = s.slots /\ s'.objs = s.objs /\ s'.ice = s.ice /\ ziz (za1 s'.slots) s'.kn /\ Sat P Q1 (k s') := by
 unfold zym at h
 split at h
 · rename_i b hb
   exact ⟨s.know v b, rfl, rfl, rfl, zd0 hk hb, h⟩
 · cases h
theorem zr7 {S : zl9} {Q1 : AV -> Prop} (hT : zb7 P T) (hS : zd3 P S) (hm : P.follows .mixedOrders = true) {draw : Bool} (hB : ztq nt draw ops = true) {id : Nat} {s : St} {a : Act} {w : World} (hs : zin base M W nt s a w)
   {k : St -> zbd} (h : Sat P Q1 (zc9 T std S draw ops ops 0 s [] k)) {Q : Exit -> Act -> World -> Prop} (hQ : ∀ s' a' w', zin base M W nt s' a' w' -> Sat P Q1 (k s') -> Q .normal a' w') :
   (Code.region id ops.toArray draw).wp P Q a w := by
 unfold ztq at hB
 rw [Bool.and_eq_true, List.all_eq_true] at hB
 have hops : ∀ o ∈ ops, yac nt o := fun o ho => zu7 (hB.1 o ho)
 obtain ⟨es, s', hW, hk', h'⟩ := zdk hS ops 0 s [] hs.2 h
 cases draw with
 | false =>
   refine wp_region ?_
   have := zsj (base := base) (M := M) (W := W) hT hops (Q := Q) ops 0 _ _ _ _ es _ _ _ a w (fun k => by simp) hW hs.1 fun a' w' hs' => hQ s' a' w' ⟨hs', hk'⟩ h'
   rw [List.range_eq_range']
   simpa using this
 | true =>
   refine wp_region_any hm ?_
   have hD := zmn (by simpa using hB.2 : zif ops 0 ops = true)
   obtain ⟨hA, e1, e2, e3⟩ := zsf (ops := ops) (E := fun j => es.getD j nothing) (f0 := za1 s.slots) (g0 := za1 s.objs) (c0 := zb6 s.ice) ops 0 _ _ _ _ es _ _ _ (fun k => by simp) (fun k e he => by simp [he]) rfl rfl rfl (fun k hk => by omega) hW
   rw [Nat.zero_add] at e1 e2 e3
   have hl : left (Array.replicate ops.length false) <= ops.toArray.size := by
     unfold left; simp
   have hsz : ops.toArray.size = ops.length := by simp
   rw [hsz] at hl |-
   refine yaa (E := fun j => es.getD j nothing) hT hops hD (fun j o ho => hA j o (by omega) ho) (fun a' w' hs' => hQ s' a' w' ⟨by rw [e1, e2, e3]; exact hs', hk'⟩ h') ops.length _ a _ hl ⟨by simp, ?_, ?_⟩
   · intro k o e hk hL _ _
     have hk : k < ops.length := (List.getElem?_eq_some_iff.1 hk).1
     simp [hk] at hL
   · have z : ∀ j, j < ops.length -> (fun i => (Array.replicate ops.length false).getD i false) j = false := fun j hj => by simp [hj]
     have h1 : fL ops (fun j => es.getD j nothing) (za1 s.slots) (fun i => (Array.replicate ops.length false).getD i false) ops.length = za1 s.slots := by
       funext t
       exact zfv 0 ops.length (fun j _ hj hL => by have := z j hj; simp only at this; rw [this] at hL; cases hL) (by omega)
     have h2 : gL (fun j => es.getD j nothing) (za1 s.objs) (fun i => (Array.replicate ops.length false).getD i false) ops.length = za1 s.objs := by
       funext t
       exact zfv 0 ops.length (fun j _ hj hL => by have := z j hj; simp only at this; rw [this] at hL; cases hL) (by omega)
     have h3 : cL (fun j => es.getD j nothing) (zb6 s.ice) (fun i => (Array.replicate ops.length false).getD i false) ops.length = zb6 s.ice := by
       funext t
       exact zik 0 ops.length (fun j _ hj => z j hj) (by omega)
     rw [h1, h2, h3]
     obtain ⟨D, μ, hs⟩ := hs.1
     exact ⟨D, μ, hs.drew⟩
theorem ztp {S : zl9} {Q1 : AV -> Prop} (hT : zb7 P T) (hS : zd3 P S) (hm : P.follows .mixedOrders = true) {draw : Bool} (hB : ztq nt draw ops = true) {id : Nat} {s : St} {a : Act} {w : World} (hs : zin base M W nt s a w)
   {k : St -> zbd} (h : Sat P Q1 (znf T std S draw ops s k)) {Q : Exit -> Act -> World -> Prop} (hQ : ∀ s' a' w', zin base M W nt s' a' w' -> Sat P Q1 (k s') -> Q .normal a' w') :
   (Code.region id ops.toArray draw).wp P Q a w := by
 unfold znf at h
 split at h
 rotate_left
 · exact zr7 hT hS hm hB hs h hQ
 rename_i v hch
 cases draw with
 | false => cases hch
 | true =>
   simp only [cond_true] at hch
   unfold zvo at hch
   split at hch
   rotate_left
   · cases hch
   rename_i o0 o1 o2 o3
   split at hch
   rotate_left
   · cases hch
   split at hch
   rotate_left
   · cases hch
   rename_i d1 d2 d3 d4 hng
   unfold ztq at hB
   rw [Bool.and_eq_true, List.all_eq_true] at hB
   have hops : ∀ o ∈ [o0, o1, o2, o3], yac nt o := fun o ho => zu7 (hB.1 o ho)
   have hD := zmn (by simpa using hB.2 : zif [o0, o1, o2, o3] 0 [o0, o1, o2, o3] = true)
   obtain ⟨n0, n1, n2, n3⟩ : o0.guard = none /\ o1.guard = none /\ o2.guard = none /\ o3.guard = none := by
     simp only [znm] at hng
     cases e0 : o0.guard <;> cases e1 : o1.guard <;> cases e2 : o2.guard <;> cases e3 : o3.guard <;> simp_all
   obtain ⟨es, s1, hW, hk1, h⟩ := zdk hS [o0] 0 s [] hs.2 h
   cases h with
   | and hA hB2 =>
     obtain ⟨esA, sA, hWA, hkA, hA⟩ := zdk hS [o1, o2, o3] 1 s1 [] hk1 hA
     obtain ⟨esB, sB, hWB, hkB, hB2⟩ := zdk hS [o2, o1, o3] 1 s1 [] hk1 hB2
     obtain ⟨sA', q1, q2, q3, hkA', hA⟩ := zjd hkA hA
     obtain ⟨sB', p1, p2, p3, hkB', hB2⟩ := zjd hkB hB2
     match es, hW with
     | [e0], ⟨x0, _, w0, w0', w0''⟩ =>
       match esA, hWA with
       | [a1, a2, a3], ⟨xa1, _, xa2, _, xa3, _, wa, wa', wa''⟩ =>
         match esB, hWB with
         | [b1, b2, b3], ⟨xb1, _, xb2, _, xb3, _, wb, wb', wb''⟩ =>
           refine wp_region_any hm ?_
           obtain ⟨D, μ, hs0⟩ := hs.1
           rw [w0, w0', w0''] at xa1 xa2 xa3 xb1 xb2 xb3
           rw [w0] at wa wb
           rw [w0'] at wa' wb'
           rw [w0''] at wa'' wb''
           refine zvn hT hops hD d1 d2 d3 d4
             (h0 := fun a w K hs hK => zkc hT hs hops rfl x0 hK)
             (h1 := fun a w K hs hK => zkc hT hs hops rfl xa1 hK)
             (h2 := fun a w K hs hK => zkc hT hs hops rfl xa2 hK)
             (h3 := fun a w K hs hK => zkc hT hs hops rfl xa3 hK)
             (h1' := fun a w K hs hK => zkc hT hs hops rfl xb1 hK)
             (h2' := fun a w K hs hK => zkc hT hs hops rfl xb2 hK)
             (h3' := fun a w K hs hK => zkc hT hs hops rfl xb3 hK)
             (hQ := fun a w hs => hQ sA' a w ⟨?_, hkA'⟩ hA) (hQ' := fun a w hs => hQ sB' a w ⟨?_, hkB'⟩ hB2) ⟨D, μ, hs0.drew⟩
           · rw [q1, q2, q3, wa, wa', wa'']; exact hs
           · rw [p1, p2, p3, wb, wb', wb'']; exact hs
end
end Sy
end Go.Proofs.Ytlphgephdhadhaa
namespace Go.Proofs.Ytlphgephdhadhaa
namespace Sy
open Go Go.RowKit
set_option linter.unusedSimpArgs false
set_option linter.unusedVariables false
set_option linter.unusedSectionVars false
section
variable {P : Program} {Q : AV -> Prop} {base : Nat} {M : Two} {W : World} {nt : Nat} {s tm : St} {a : Act} {w : World} {hold : List Nat} {next : zbd}
def frz (ice : List Nat) (objs : List (Nat × Ob)) (F : List (Nat × Option Nat)) : List Nat := match objs with
 | [] => []
 | (t, _) :: r => match za1 F t with
   | some (some id) => if zb6 ice t = true then id :: frz ice r F else frz ice r F
   | _ => frz ice r F
theorem zia {ice : List Nat} {F : List (Nat × Option Nat)} : ∀ {objs : List (Nat × Ob)} {id : Nat}, id ∈ frz ice objs F -> ∃ t, za1 F t = some (some id) /\ zb6 ice t = true /\ za1 objs t ≠ none
 | [], id, h => by cases h
 | (t, o) :: r, id, h => by
   unfold frz at h
   have up : ∀ {t'}, za1 r t' ≠ none -> za1 ((t, o) :: r) t' ≠ none := by
     intro t' h
     unfold za1
     split
     · simp
     · exact h
   split at h
   · rename_i k hk
     split at h
     · rename_i e
       rcases List.mem_cons.1 h with rfl | h
       · exact ⟨t, hk, e, by simp [za1, za4]⟩
       · obtain ⟨t', h1, h2, h3⟩ := zia h; exact ⟨t', h1, h2, up h3⟩
     · obtain ⟨t', h1, h2, h3⟩ := zia h; exact ⟨t', h1, h2, up h3⟩
   · obtain ⟨t', h1, h2, h3⟩ := zia h; exact ⟨t', h1, h2, up h3⟩
theorem zui {ice : List Nat} {F : List (Nat × Option Nat)} : ∀ {objs : List (Nat × Ob)} {id t : Nat}, za1 F t = some (some id) -> zb6 ice t = true -> za1 objs t ≠ none -> id ∈ frz ice objs F
 | [], id, t, _, _, h => by simp [za1] at h
 | (k, o) :: r, id, t, h1, h2, h3 => by
   unfold frz
   unfold za1 at h3
   cases e : zae k t with
   | true =>
     have := za3 e; subst this
     rw [h1]
     simp only
     rw [if_pos h2]
     simp
   | false =>
     rw [e] at h3
     have ih := zui (objs := r) h1 h2 h3
     split
     · split
       · exact List.mem_cons_of_mem _ ih
       · exact ih
     · exact ih
theorem zhs : ∀ {F : List (Nat × Option Nat)}, znh F = true -> ∀ t x, za1 F t = some x -> ze6 t = true -> x = some t
 | [], _, t, x, h, _ => by cases h
 | (k, y) :: r, e, t, x, h, hp => by
   unfold znh at e
   unfold za1 at h
   split at h
   · rename_i hb
     have hk := za3 hb; subst hk
     cases h
     rw [hp] at e
     simp only at e
     split at e
     · rename_i hi; exact zux hi
     · cases e
   · have e' : znh r = true := by
       split at e
       · split at e
         · exact e
         · cases e
       · exact e
     exact zhs e' t x h hp
theorem yei {pin : Nat -> Option (Nat × Nat × Nat)} {μ : Mu} {F : List (Nat × Option Nat)} (h : ∀ id y, ze6 id = true -> μ id = some y -> y = pin id) (hF : znh F = true) {id : Nat} {y : Option (Nat × Nat × Nat)} (hp : ze6 id = true) (hy : zdh μ F id = some y) : y = pin id := by
 unfold zdh at hy
 split at hy
 · rename_i k hk
   have := zhs hF id _ hk hp
   cases this
   exact h id y hp hy
 · rename_i hk
   have := zhs hF id _ hk hp
   cases this
 · cases hy
theorem zuk (hs : zin base M W nt s a w) (h : Sat P Q (zrf s tm hold next)) (hkn : tm.kn = []) : zin base M W nt tm a w /\ Sat P Q next := by
 unfold zrf at h
 split at h
 · rename_i m1 e1
   split at h
   · rename_i m2 e2
     split at h
     · rename_i hin hice hpin
       obtain ⟨hps, hnext⟩ := zfj h
       refine ⟨?_, hnext⟩
       obtain ⟨⟨D, μ, S⟩, _⟩ := hs
       let F := m2.ids
       obtain ⟨x2, -⟩ := zce (h := w.heap) (D := D) (μ := μ) e2
       obtain ⟨x1, -⟩ := zdb (h := w.heap) (D := D) (μ := μ) (a := a) e1
       have hF2 : Fin m2 F := ⟨fun _ _ h => h, hps⟩
       have hF1 : Fin m1 F := hF2.of x2
       have hInj : Inj F := x2.inj (x1.inj fun t t' id h1 h2 => by
         have q1 := zll h1; have q2 := zll h2
         simp only [Option.some.injEq] at q1 q2
         rw [<- q1, <- q2])
       have hal : ∀ id, id ∈ frz tm.ice tm.objs F -> ∃ o, za1 s.objs id = some o /\ o ≠ .gone := by
         intro id hid
         obtain ⟨t, h1, h2, h3⟩ := zia hid
         obtain ⟨o, ho⟩ := Option.ne_none_iff_exists'.1 h3
         obtain ⟨x2', r2⟩ := zce (h := w.heap) (D := D) (μ := μ) e2
         obtain ⟨x, hx, hp⟩ := (r2 F hF2 t o ho).pair
         rw [h1] at hx
         cases hx
         obtain ⟨_, o', ho', hne, _⟩ := hp
         exact ⟨o', ho', hne⟩
       have S' := S.freeze (frz tm.ice tm.objs F) hal
       obtain ⟨_, r1⟩ := zdb (h := w.heap) (D := fun b => D b \/ ∃ id z m, id ∈ frz tm.ice tm.objs F /\ μ id = some (some (b, z, m))) (μ := μ) (a := a) e1
       obtain ⟨_, r2⟩ := zce (h := w.heap) (D := fun b => D b \/ ∃ id z m, id ∈ frz tm.ice tm.objs F /\ μ id = some (some (b, z, m))) (μ := μ) e2
       generalize hDD : (fun b => D b \/ ∃ id z m, id ∈ frz tm.ice tm.objs F /\ μ id = some (some (b, z, m))) = D' at S' r1 r2
       have r1 := r1 F hF1 S'.slots
       have r2 := r2 F hF2
       have pl : ∀ tid b z, zdh μ F tid = some (some (b, z)) -> ∃ id, za1 F tid = some (some id) /\ μ id = some (some (b, z)) := by
         intro tid b z hm
         unfold zdh at hm
         split at hm
         · rename_i id hid; exact ⟨id, hid, hm⟩
         · cases hm
         · cases hm
       have obj : ∀ tid id, za1 F tid = some (some id) -> ∃ o', za1 s.objs id = some o' /\ o' ≠ .gone /\ (zb6 s.ice id = true -> zb6 tm.ice tid = true) := by
         intro tid id hid
         obtain ⟨o, ho⟩ := Option.ne_none_iff_exists'.1 (zfx hin tid _ hid)
         obtain ⟨x, hx, hp⟩ := (r2 tid o ho).pair
         rw [show za1 F tid = za1 m2.ids tid from rfl, hx] at hid
         cases hid
         obtain ⟨h1, o', ho', hne, _⟩ := hp
         exact ⟨o', ho', hne, h1⟩
       refine ⟨⟨D', zdh μ F, { S' with slots := r1, dom := fun id => ?_, obs := fun id o x h1 h2 => ?_, inj := ?_, own := fun id b z hm => ?_, kd := ?_, icy := fun id hc => zmc hice id hc, pin := fun id y hp hy => yei S.pin hpin hp hy }⟩, fun t b ht => by rw [hkn] at ht; cases ht⟩
       · constructor
         · intro hm
           refine Decidable.byContradiction fun ho => ?_
           obtain ⟨o, ho⟩ := Option.ne_none_iff_exists'.1 ho
           obtain ⟨x, hx, hp⟩ := (r2 id o ho).pair
           unfold zdh at hm
           rw [hx] at hm
           cases x with
           | none => cases hm
           | some k =>
             simp only at hm hp
             obtain ⟨_, o', ho', _, _⟩ := hp
             have := (S.dom k).1 hm
             rw [ho'] at this; cases this
         · intro ho
           unfold zdh
           cases hf : za1 F id with
           | none => rfl
           | some x => exact absurd ho (zfx hin id x hf)
       · obtain ⟨y, hy, hp⟩ := (r2 id o h1).pair
         unfold zdh at h2
         rw [hy] at h2
         cases y with
         | none => cases h2; exact hp
         | some k =>
           simp only at h2 hp
           obtain ⟨_, o', ho', _, hr⟩ := hp
           exact hr x (S'.obs k o' x ho' h2)
       · intro id id' b z z' o o' h1 h2 _ _ _ _
         obtain ⟨k, hk, hm⟩ := pl id b z h1
         obtain ⟨k', hk', hm'⟩ := pl id' b z' h2
         obtain ⟨q, hq, hqn, _⟩ := obj id k hk
         obtain ⟨q', hq', hqn', _⟩ := obj id' k' hk'
         have := S.inj k k' b z z' q q' hm hm' hq hq' hqn hqn'
         subst this
         exact hInj _ _ _ hk hk'
       · obtain ⟨k, hk, hm⟩ := pl id b z hm
         exact S.own k b z hm
       · intro id b z o h1 h2 h3
         obtain ⟨k, hk, hm⟩ := pl id b z h1
         obtain ⟨q, hq, hqn, hic⟩ := obj id k hk
         have K := S'.kd k b z q hm hq hqn
         refine ⟨fun hc => K.1 ?_, fun hc => K.2 ?_⟩
         · unfold zhc
           rw [zbh.2 (zui hk hc (by rw [h2]; simp))]; rfl
         · unfold zhc
           rw [Bool.or_eq_false_iff]
           refine ⟨?_, ?_⟩
           · cases hl : zb6 (frz tm.ice tm.objs F) k with
             | false => rfl
             | true =>
               obtain ⟨t, t1, t2, _⟩ := zia (zbh.1 hl)
               have := hInj _ _ _ t1 hk
               subst this
               rw [hc] at t2; cases t2
           · cases hl : zb6 s.ice k with
             | false => rfl
             | true => have := hic hl; rw [hc] at this; cases this
     · cases h
   · cases h
 · cases h
theorem zhz (hs : zin base M W nt s a w) (h : Sat P Q (zrf s tm hold next)) : ∀ n o, za1 tm.objs n = some o -> o ≠ .gone := by
 unfold zrf at h
 split at h
 · rename_i m1 e1
   split at h
   · rename_i m2 e2
     split at h
     · obtain ⟨hps, hnext⟩ := zfj h
       intro n o ho
       obtain ⟨x2, r2⟩ := zce (h := #[]) (D := fun _ => False) (μ := zan) e2
       exact (r2 m2.ids ⟨fun _ _ h => h, hps⟩ n o ho).live
     · cases h
   · cases h
 · cases h
end
end Sy
end Go.Proofs.Ytlphgephdhadhaa
namespace Go.Proofs.Ytlphgephdhadhaa
namespace Sy
open Go Go.RowKit
set_option linter.unusedSimpArgs false
set_option linter.unusedVariables false
set_option linter.unusedSectionVars false
def ydu : Ex -> Exit
 | .normal => .normal
 | .exit id => .exit id
 | .goto l => .goto l
 | .ret => .ret
def zeo : Code -> List Code
 | .seq a b => zeo a ++ zeo b
 | .skip => []
 | .label _ => []
 | c => [c]
def WPl (P : Program) : List Code -> (Exit -> Act -> World -> Prop) -> Act -> World -> Prop
 | [], Q, a, w => Q .normal a w
 | c :: cs, Q, a, w => c.wp P (Exit.then (WPl P cs Q) Q) a w
theorem zdx {P : Program} {Q : Exit -> Act -> World -> Prop} : Exit.then (WPl P [] Q) Q = Q := by
 funext e a w; cases e <;> rfl
theorem zsc {P : Program} {ys : List Code} {Q : Exit -> Act -> World -> Prop} : ∀ {xs : List Code}, WPl P (xs ++ ys) Q = WPl P xs (Exit.then (WPl P ys Q) Q)
 | [] => rfl
 | c :: xs => by
   funext a w
   show c.wp P (Exit.then (WPl P (xs ++ ys) Q) Q) a w = c.wp P (Exit.then (WPl P xs (Exit.then (WPl P ys Q) Q)) (Exit.then (WPl P ys Q) Q)) a w
   rw [zsc (xs := xs)]
   congr 1
   funext e a w
   cases e <;> rfl
theorem zsd {P : Program} {c : Code} {Q : Exit -> Act -> World -> Prop} {a : Act} {w : World} (h : WPl P [c] Q a w) : c.wp P Q a w := by
 have : c.wp P (Exit.then (WPl P [] Q) Q) a w := h
 rwa [zdx] at this
theorem zct {P : Program} : ∀ {c : Code} {Q : Exit -> Act -> World -> Prop} {a : Act} {w : World}, WPl P (zeo c) Q a w -> c.wp P Q a w := by
 intro c
 induction c with
 | seq x y ih1 ih2 =>
   intro Q a w h
   unfold zeo at h
   rw [zsc] at h
   refine wp_seq (wp_mono (ih1 h) fun e a w hq => ?_)
   cases e with
   | normal => exact ih2 hq
   | _ => exact hq
 | skip => intro Q a w h; exact wp_skip h
 | label l => intro Q a w h; exact wp_label h
 | _ => intro Q a w h; exact zsd h
def zgq : List Nat -> Bool
 | [] => true
 | x :: xs => !zb6 xs x && zgq xs
def zbc (nt : Nat) : Code -> Bool
 | .region _ ops d => ztq nt d ops.toList
 | .seq a b => zbc nt a && zbc nt b
 | .cond _ a b => zbc nt a && zbc nt b
 | .block _ b => zbc nt b
 | .loop b => zbc nt b
 | .scope b => zgq (zcf b) && zbc nt b
 | _ => true
theorem zkx : ∀ {c : Code} {l : Nat} {r : Code}, findLabel c l = some r -> l ∈ zcf c := by
 intro c
 induction c with
 | seq a b ih1 ih2 =>
   intro l r h
   unfold findLabel at h
   simp only [zcf, zad, List.mem_append]
   cases e : findLabel a l with
   | some x => exact .inl (ih1 e)
   | none => rw [e] at h; exact .inr (ih2 h)
 | label l' =>
   intro l r h
   unfold findLabel at h
   split at h
   · rename_i e; simp [zcf, beq_iff_eq.1 e]
   · cases h
 | _ => intro l r h; simp [findLabel] at h
theorem zvg {nt : Nat} : ∀ {c : Code} {l : Nat} {r : Code}, findLabel c l = some r -> zbc nt c = true -> zbc nt r = true := by
 intro c
 induction c with
 | seq a b ih1 ih2 =>
   intro l r h hc
   unfold zbc at hc
   rw [Bool.and_eq_true] at hc
   unfold findLabel at h
   cases e : findLabel a l with
   | some x =>
     rw [e] at h
     cases h
     unfold zbc
     rw [Bool.and_eq_true]
     exact ⟨ih1 e hc.1, hc.2⟩
   | none => rw [e] at h; exact ih2 h hc.2
 | label l' =>
   intro l r h _
   unfold findLabel at h
   split at h
   · cases h; rfl
   · cases h
 | _ => intro l r h; simp [findLabel] at h
theorem zuc {xs ys : List Nat} (h : zgq (xs ++ ys) = true) : zgq xs = true /\ zgq ys = true /\ ∀ l, l ∈ xs -> l ∉ ys := by
 induction xs with
 | nil => exact ⟨rfl, h, fun l hl => by cases hl⟩
 | cons x xs ih =>
   simp only [List.cons_append, zgq, Bool.and_eq_true, Bool.not_eq_true'] at h |-
   obtain ⟨h1, h2⟩ := h
   obtain ⟨i1, i2, i3⟩ := ih h2
   have hx : x ∉ xs ++ ys := fun hm => by rw [zbh.2 hm] at h1; cases h1
   simp only [List.mem_append, not_or] at hx
   refine ⟨⟨?_, i1⟩, i2, fun l hl => ?_⟩
   · cases e : zb6 xs x with
     | false => rfl
     | true => exact absurd (zbh.1 e) hx.1
   · rcases List.mem_cons.1 hl with rfl | hl
     · exact hx.2
     · exact i3 l hl
theorem zvh : ∀ {c : Code} {l0 l : Nat} {r c' : Code}, zgq (zcf c) = true -> findLabel c l0 = some r -> findLabel r l = some c' -> ∃ c'', findLabel c l = some c'' /\ zeo c'' = zeo c' := by
 intro c
 induction c with
 | seq a b ih1 ih2 =>
   intro l0 l r c' hn h h'
   simp only [zcf, zad] at hn
   obtain ⟨n1, n2, n3⟩ := zuc hn
   have none_of : ∀ {x}, findLabel b l = some x -> findLabel a l = none := by
     intro x hx
     cases e : findLabel a l with
     | none => rfl
     | some y => exact absurd (zkx hx) (n3 l (zkx e))
   unfold findLabel at h
   cases e : findLabel a l0 with
   | some x =>
     rw [e] at h
     cases h
     unfold findLabel at h'
     cases e' : findLabel x l with
     | some y =>
       rw [e'] at h'
       cases h'
       obtain ⟨c'', h1, h2⟩ := ih1 n1 e e'
       exact ⟨.seq c'' b, by simp [findLabel, h1], by simp [zeo, h2]⟩
     | none =>
       rw [e'] at h'
       exact ⟨c', by simp only [findLabel]; rw [none_of h']; exact h', rfl⟩
   | none =>
     rw [e] at h
     obtain ⟨c'', h1, h2⟩ := ih2 n2 h h'
     exact ⟨c'', by simp only [findLabel]; rw [none_of h1]; exact h1, h2⟩
 | label l' =>
   intro l0 l r c' _ h h'
   unfold findLabel at h
   split at h
   · cases h; simp [findLabel] at h'
   · cases h
 | _ => intro l0 l r c' _ h; simp [findLabel] at h
inductive ydm (P : Program) (Q : Exit -> Act -> World -> Prop) (body : Code) : Code -> Act -> World -> Prop
 | mk {c : Code} {a : Act} {w : World} (R : Exit -> Act -> World -> Prop) (h : c.wp P R a w)
     (hn : ∀ e a' w', R e a' w' -> (∀ l rest, e = .goto l -> findLabel body l = some rest -> False) -> Q e a' w')
     (hg : ∀ l rest a' w', R (.goto l) a' w' -> findLabel body l = some rest -> ydm P Q body rest a' w') : ydm P Q body c a w
def Qg (P : Program) (Q : Exit -> Act -> World -> Prop) (body : Code) : Exit -> Act -> World -> Prop
 | .goto l, a, w => match findLabel body l with
   | some rest => ydm P Q body rest a w
   | none => Q (.goto l) a w
 | e, a, w => Q e a w
theorem zv4 {P : Program} {Q : Exit -> Act -> World -> Prop} {body c : Code} {a : Act} {w : World} (h : c.wp P (Qg P Q body) a w) : ydm P Q body c a w := by
 refine .mk _ h (fun e a' w' hq hno => ?_) (fun l rest a' w' hq hf => ?_)
 · cases e with
   | goto l =>
     simp only [Qg] at hq
     split at hq
     · rename_i rest hf; exact (hno l rest rfl hf).elim
     · exact hq
   | _ => exact hq
 · simp only [Qg] at hq
   rw [hf] at hq
   exact hq
theorem ycb {P : Program} {Q : Exit -> Act -> World -> Prop} {body : Code} {c : Code} {a : Act} {w : World} (g : ydm P Q body c a w) :
   ∀ (b : Frame) (k : List Item) (cs : List Frame), ∃ e a' w', Q e a' w' /\ Arrives P (lone (b.at a (.code c :: .inScope body :: k)) cs w) b k cs e a' w' := by
 induction g with
 | mk R h hn hg ih =>
   intro b k cs
   obtain ⟨e, a₁, w₁, hq, harr⟩ := h b (.inScope body :: k) cs
   cases e with
   | normal => exact ⟨.normal, a₁, w₁, hn _ _ _ hq (fun _ _ h => by cases h), Steps.trans harr (.one step_inScope)⟩
   | exit id => exact ⟨.exit id, a₁, w₁, hn _ _ _ hq (fun _ _ h => by cases h), fun k' hk => harr k' (by simp [exitTo, hk])⟩
   | goto l =>
     cases hf : findLabel body l with
     | some rest =>
       obtain ⟨e₂, a₂, w₂, hq₂, harr₂⟩ := ih l rest a₁ w₁ hq hf b k cs
       exact ⟨e₂, a₂, w₂, hq₂, .of_steps (harr _ (by simp [gotoIn, hf])) harr₂⟩
     | none =>
       refine ⟨.goto l, a₁, w₁, hn _ _ _ hq (fun l' r h hf' => by cases h; rw [hf] at hf'; cases hf'), fun k' hk => harr k' (by simp [gotoIn, hf, hk])⟩
   | ret => exact ⟨_, a₁, w₁, hn _ _ _ hq (fun _ _ h => by cases h), harr⟩
   | panic ch => exact ⟨_, a₁, w₁, hn _ _ _ hq (fun _ _ h => by cases h), harr⟩
   | outgrown => exact ⟨_, a₁, w₁, hn _ _ _ hq (fun _ _ h => by cases h), harr⟩
theorem zjy {P : Program} {Q : Exit -> Act -> World -> Prop} {body : Code} {a : Act} {w : World} (g : ydm P Q body body a w) : (Code.scope body).wp P Q a w := by
 intro b k cs
 obtain ⟨e, a₁, w₁, hq, harr⟩ := ycb g b k cs
 exact ⟨e, a₁, w₁, hq, .of_steps (.one step_scope) harr⟩
section
variable {P : Program} {T : TT} {S : zl9} {lo lb : Nat -> St -> Option Ann} {base : Nat} {M : Two} {W : World} {nt : Nat} {Q1 : AV -> Prop}
def Kon (P : Program) (base : Nat) (M : Two) (W : World) (nt : Nat) (Q1 : AV -> Prop) (k : K) (Q : Exit -> Act -> World -> Prop) : Prop := ∀ e s a w, zin base M W nt s a w -> Sat P Q1 (k e s) -> Q (ydu e) a w
def yid (P : Program) (base : Nat) (M : Two) (W : World) (nt : Nat) (Q1 : AV -> Prop) (sc : Code -> St -> K -> zbd) : Prop :=
 ∀ body s k Q a w, zbc nt (.scope body) = true -> zin base M W nt s a w -> Sat P Q1 (sc body s k) -> Kon P base M W nt Q1 k Q -> (Code.scope body).wp P Q a w
theorem zdq {an : Ann} {ks : List (Nat × AV)} {ko : List (Nat × Ob)} {ice : List Nat} {m : Option Nat} {s : St} {a : Act} {w : World} (hs : zin base M W nt s a w) (h : Sat P Q1 (ze4 an ks ko ice m s)) :
   ∃ x, an.inv x /\ (∀ m0, m = some m0 -> an.mu x < m0) /\ zin base M W nt (an.st ks ko ice x) a w := by
 unfold ze4 at h
 cases h with
 | ex x h =>
   obtain ⟨h1, h2⟩ := zuk hs h rfl
   cases h2 with
   | must h3 h4 =>
     refine ⟨x, h3, fun m0 hm => ?_, h1⟩
     subst hm
     cases h4 with | must h5 _ => exact h5
theorem zte {sc : Code -> St -> K -> zbd} {A : Nat -> Bool} {id : Nat} {b : Code} (hb : ∀ body, b ≠ .loop body) {s : St} {k : K} :
   run T std S lo sc A (.block id b) s k = run T std S lo sc noL b s (fun e s' => match e with
   | .exit j => match zae j id with
     | true => k .normal s'
     | false => k (.exit j) s'
   | e => k e s') := by
 cases b <;> first | rfl | exact absurd rfl (hb _)
def yd8 (P : Program) (T : TT) (S : zl9) (lo : Nat -> St -> Option Ann) (base : Nat) (M : Two) (W : World) (nt : Nat) (Q1 : AV -> Prop) (sc : Code -> St -> K -> zbd) (c : Code) : Prop := zbc nt c = true ->
   ∀ (A : Nat -> Bool) (s : St) (k : K) (Q : Exit -> Act -> World -> Prop) (ys : List Code) (a : Act) (w : World), zin base M W nt s a w -> Sat P Q1 (run T std S lo sc A c s k) ->
   Kon P base M W nt Q1 k (Exit.then (WPl P ys Q) Q) ->
   (∀ l c' s' a' w', A l = true -> findLabel c l = some c' -> zin base M W nt s' a' w' -> Sat P Q1 (k (.goto l) s') -> WPl P (zeo c' ++ ys) Q a' w') -> WPl P (zeo c ++ ys) Q a w
theorem yb7 (hT : zb7 P T) (hS : zd3 P S) (hm : P.follows .mixedOrders = true) {sc : Code -> St -> K -> zbd} (hsc : yid P base M W nt Q1 sc) : ∀ (c : Code),
   yd8 P T S lo base M W nt Q1 sc c /\ (∀ body, c = .loop body -> yd8 P T S lo base M W nt Q1 sc body) := by
 intro c
 induction c with
 | skip => refine ⟨?_, fun body e => by cases e⟩; intro _ A s k Q ys a w hs h hk _; exact hk .normal s a w hs h
 | region id ops d =>
   refine ⟨?_, fun body e => by cases e⟩
   intro hc A s k Q ys a w hs h hk _
   show (Code.region id ops d).wp P (Exit.then (WPl P ys Q) Q) a w
   have := ztp (id := id) (Q := Exit.then (WPl P ys Q) Q) hT hS hm hc hs h (fun s' a' w' hs' h' => hk .normal s' a' w' hs' h')
   simpa using this
 | seq x y ih1 ih2 =>
   refine ⟨?_, fun body e => by cases e⟩
   intro hc A s k Q ys a w hs h hk hl
   unfold zbc at hc
   rw [Bool.and_eq_true] at hc
   show WPl P ((zeo x ++ zeo y) ++ ys) Q a w
   rw [List.append_assoc]
   refine ih1.1 hc.1 A s _ Q (zeo y ++ ys) a w hs h (fun e s' a' w' hs' h' => ?_) (fun l c' s' a' w' hA hf hs' h' => ?_)
   · cases e with
     | normal =>
       refine ih2.1 hc.2 _ s' k Q ys a' w' hs' h' hk (fun l c' s2 a2 w2 hA hf hs2 h2 => hl l c' s2 a2 w2 ?_ ?_ hs2 h2)
       · split at hA
         · cases hA
         · exact hA
       · split at hA
         · cases hA
         · rename_i e; simp only [findLabel]; rw [e]; exact hf
     | exit id => exact hk (.exit id) s' a' w' hs' h'
     | goto l => exact hk (.goto l) s' a' w' hs' h'
     | ret => exact hk .ret s' a' w' hs' h'
   · have := hl l (.seq c' y) s' a' w' hA (by simp [findLabel, hf]) hs' h'
     simpa [zeo] using this
 | cond x p q ih1 ih2 =>
   refine ⟨?_, fun body e => by cases e⟩
   intro hc A s k Q ys a w hs h hk _
   unfold zbc at hc
   rw [Bool.and_eq_true] at hc
   show (Code.cond x p q).wp P (Exit.then (WPl P ys Q) Q) a w
   have yes : ∀ (k1 : K) (s1 : St), zin base M W nt s1 a w -> Sat P Q1 (run T std S lo sc noL p s1 k1) -> Kon P base M W nt Q1 k1 (Exit.then (WPl P ys Q) Q) -> p.wp P (Exit.then (WPl P ys Q) Q) a w := fun k1 s1 h1 h2 hk1 => zct (by
     have := ih1.1 hc.1 noL s1 k1 (Exit.then (WPl P ys Q) Q) [] a w h1 h2 (by rw [zdx]; exact hk1) (fun l c' s' a' w' hA => by cases hA)
     simpa using this)
   have no : ∀ (k1 : K) (s1 : St), zin base M W nt s1 a w -> Sat P Q1 (run T std S lo sc noL q s1 k1) -> Kon P base M W nt Q1 k1 (Exit.then (WPl P ys Q) Q) -> q.wp P (Exit.then (WPl P ys Q) Q) a w := fun k1 s1 h1 h2 hk1 => zct (by
     have := ih2.1 hc.2 noL s1 k1 (Exit.then (WPl P ys Q) Q) [] a w h1 h2 (by rw [zdx]; exact hk1) (fun l c' s' a' w' hA => by cases hA)
     simpa using this)
   have lit : ∀ b, litOf s.kn x = some b -> a.eval x = .bool b := by
     intro b hb
     cases x with
     | tmp t =>
       obtain ⟨⟨D, μ, S⟩, hkn⟩ := hs
       exact (S.slots t _ (hkn t b hb)).inv_bool
     | const v => cases v <;> simp [litOf] at hb; subst hb; rfl
     | _ => simp [litOf] at hb
   have one : ∀ v : Bool, litOf s.kn x = some v -> ∀ k1 : K, Kon P base M W nt Q1 k1 (Exit.then (WPl P ys Q) Q) -> Sat P Q1 (match v with | true => run T std S lo sc noL p s k1 | false => run T std S lo sc noL q s k1) -> (Code.cond x p q).wp P (Exit.then (WPl P ys Q) Q) a w := by
     intro v e k1 hk1 h2
     cases v with
     | true => exact wp_cond_true (lit true e) (yes k1 s hs h2 hk1)
     | false => exact wp_cond_false (lit false e) (no k1 s hs h2 hk1)
   unfold run at h
   split at h
   · rename_i v e
     replace one := one v e
     clear e
     split at h
     · exact one k hk h
     · rename_i an _
       split at h
       · rename_i ks _
         split at h
         · rename_i ko _
           cases h with
           | and h1 h2 =>
             refine one _ (fun e s' a' w' hs' h' => ?_) h1
             cases e with
             | normal =>
               obtain ⟨y, hy, _, hsy⟩ := zdq hs' (show Sat P Q1 (ze4 an ks ko s.ice none s') from h')
               cases h2 with
               | all h2 => cases h2 y with
                 | sup h3 => exact hk .normal _ a' w' hsy (h3 hy)
             | exit j => exact hk (.exit j) s' a' w' hs' h'
             | goto l => exact hk (.goto l) s' a' w' hs' h'
             | ret => exact hk .ret s' a' w' hs' h'
         · cases h
       · cases h
   · split at h
     · rename_i t _ _
       split at h
       · rename_i b hb
         have he : a.eval (.tmp t) = .bool b := by
           obtain ⟨⟨D, μ, S⟩, hkn⟩ := hs
           exact (S.slots t _ hb).inv_bool
         have both : ∀ k1 : K, Kon P base M W nt Q1 k1 (Exit.then (WPl P ys Q) Q) -> Sat P Q1 (.ite b (run T std S lo sc noL p (s.know t true) k1) (run T std S lo sc noL q (s.know t false) k1)) -> (Code.cond (.tmp t) p q).wp P (Exit.then (WPl P ys Q) Q) a w := by
           intro k1 hk1 h
           cases h with
           | ite h1 h2 =>
             refine wp_cond_split he (fun ht => ?_) (fun hf => ?_)
             · subst ht
               exact yes k1 (s.know t true) ⟨hs.1, zd0 hs.2 hb⟩ (h1 rfl) hk1
             · subst hf
               exact no k1 (s.know t false) ⟨hs.1, zd0 hs.2 hb⟩ (h2 rfl) hk1
         split at h
         · exact both k hk h
         · rename_i an _
           split at h
           · rename_i ks _
             split at h
             · rename_i ko _
               cases h with
               | and h1 h2 =>
                 refine both _ (fun e s' a' w' hs' h' => ?_) h1
                 cases e with
                 | normal =>
                   obtain ⟨y, hy, _, hsy⟩ := zdq hs' h'
                   cases h2 with
                   | all h2 => cases h2 y with
                     | sup h3 => exact hk .normal _ a' w' hsy (h3 hy)
                 | exit j => exact hk (.exit j) s' a' w' hs' h'
                 | goto l => exact hk (.goto l) s' a' w' hs' h'
                 | ret => exact hk .ret s' a' w' hs' h'
             · cases h
           · cases h
       · cases h
     · cases h
 | block id b ih =>
   refine ⟨?_, fun body e => by cases e⟩
   intro hc A s k Q ys a w hs h hk _
   show (Code.block id b).wp P (Exit.then (WPl P ys Q) Q) a w
   generalize Exit.then (WPl P ys Q) Q = Q' at hk
   by_cases hb : ∃ body, b = .loop body
   · obtain ⟨body, rfl⟩ := hb
     have hbody := ih.2 body rfl hc
     unfold run at h
     split at h
     · rename_i an hlo
       split at h
       · rename_i ks hks
         split at h
         · rename_i ko hko
           cases h with
           | and h1 h2 =>
             obtain ⟨x0, i0, _, s0⟩ := zdq hs h1
             cases h2 with
             | all h2 =>
               refine wp_block (wp_loop_ghost (fun n a w => ∃ x, an.inv x /\ an.mu x = n /\ zin base M W nt (an.st ks ko s.ice x) a w) (an.mu x0) ⟨x0, i0, rfl, s0⟩ ?_)
               rintro n a1 w1 ⟨x, hx, rfl, hsx⟩
               refine zct ?_
               cases h2 x with
               | sup h3 =>
                 have := hbody noL _ _ (Exit.then (fun a' w' => ∃ n', n' < an.mu x /\ ∃ x, an.inv x /\ an.mu x = n' /\ zin base M W nt (an.st ks ko s.ice x) a' w') (Exit.inBlock id Q')) [] a1 w1 hsx (h3 hx) (fun e s' a' w' hs' h' => ?_) (fun l c' s' a' w' hA => by cases hA)
                 · simpa using this
                 · rw [zdx]
                   cases e with
                   | exit j =>
                     simp only at h'
                     show (if j = id then Q' .normal a' w' else Q' (.exit j) a' w')
                     cases e : zae j id with
                     | true => rw [e] at h'; rw [if_pos (za3 e)]; exact hk .normal s' a' w' hs' h'
                     | false =>
                       rw [e] at h'
                       rw [if_neg (by rintro rfl; rw [za4] at e; cases e)]
                       exact hk (.exit j) s' a' w' hs' h'
                   | normal =>
                     obtain ⟨x', i', m', s2⟩ := zdq hs' h'
                     exact ⟨an.mu x', m' _ rfl, x', i', rfl, s2⟩
                   | goto l => exact hk (.goto l) s' a' w' hs' h'
                   | ret => exact hk .ret s' a' w' hs' h'
         · cases h
       · cases h
     · cases h
   · rw [zte (fun body e => hb ⟨body, e⟩)] at h
     refine wp_block (zct ?_)
     have := ih.1 hc noL s _ (Exit.inBlock id Q') [] a w hs h (fun e s' a' w' hs' h' => ?_) (fun l c' s' a' w' hA => by cases hA)
     · simpa using this
     · rw [zdx]
       cases e with
       | exit j =>
         simp only at h'
         show (if j = id then Q' .normal a' w' else Q' (.exit j) a' w')
         cases e : zae j id with
         | true => rw [e] at h'; rw [if_pos (za3 e)]; exact hk .normal s' a' w' hs' h'
         | false =>
           rw [e] at h'
           rw [if_neg (by rintro rfl; rw [za4] at e; cases e)]
           exact hk (.exit j) s' a' w' hs' h'
       | normal => exact hk .normal s' a' w' hs' h'
       | goto l => exact hk (.goto l) s' a' w' hs' h'
       | ret => exact hk .ret s' a' w' hs' h'
 | exit id => refine ⟨?_, fun body e => by cases e⟩; intro _ A s k Q ys a w hs h hk _; exact wp_exit (hk (.exit id) s a w hs h)
 | goto l => refine ⟨?_, fun body e => by cases e⟩; intro _ A s k Q ys a w hs h hk _; exact wp_goto (hk (.goto l) s a w hs h)
 | ret => refine ⟨?_, fun body e => by cases e⟩; intro _ A s k Q ys a w hs h hk _; exact wp_ret (hk .ret s a w hs h)
 | label l =>
   refine ⟨?_, fun body e => by cases e⟩
   intro _ A s k Q ys a w hs h hk hl
   unfold run at h
   split at h
   · rename_i hA
     exact hl l .skip s a w hA (by simp [findLabel]) hs h
   · exact hk .normal s a w hs h
 | scope b ih =>
   refine ⟨?_, fun body e => by cases e⟩
   intro hc A s k Q ys a w hs h hk _
   exact hsc b s k _ a w hc hs h hk
 | loop b ih => exact ⟨fun _ A s k Q ys a w hs h hk _ => (by cases h), fun body e => by cases e; exact ih.1⟩
 | _ => refine ⟨?_, fun body e => by cases e⟩; intro _ A s k Q ys a w hs h hk _; cases h
theorem zzo (hT : zb7 P T) (hS : zd3 P S) (hm : P.follows .mixedOrders = true) {sc : Code -> St -> K -> zbd} (hsc : yid P base M W nt Q1 sc) (c : Code) : yd8 P T S lo base M W nt Q1 sc c := (yb7 hT hS hm hsc c).1
def yig (P : Program) (base : Nat) (M : Two) (W : World) (nt : Nat) (lb : Nat -> St -> Option Ann) (body : Code) (bs : St) (Q : Exit -> Act -> World -> Prop) (m : Option Nat) : Prop :=
 ∀ l an rest ks ko x a w, lb l bs = some an -> findLabel body l = some rest -> ziu bs.slots an.keep = some ks -> zkp bs.objs an.hold = some ko -> an.inv x -> (∀ m0, m = some m0 -> an.mu x < m0) ->
   zin base M W nt (an.st ks ko bs.ice x) a w -> WPl P (zeo rest) (Qg P Q body) a w
def yab (P : Program) (T : TT) (S : zl9) (lo lb : Nat -> St -> Option Ann) (base : Nat) (M : Two) (W : World) (nt : Nat) (Q1 : AV -> Prop) (n : Nat) : Prop :=
 ∀ body rest bs s k m Q a w, zgq (zcf body) = true -> zbc nt rest = true -> zbc nt body = true -> (rest = body \/ ∃ l, findLabel body l = some rest) -> zin base M W nt s a w -> Sat P Q1 (pass T std S lo lb n body rest s k m bs) ->
   Kon P base M W nt Q1 k Q -> yig P base M W nt lb body bs Q m -> WPl P (zeo rest) (Qg P Q body) a w
theorem zky {body : Code} {bs : St} {ps : Code -> St -> Nat -> zbd} {t : zbd} : ∀ {ls : List Nat}, Sat P Q1 (zdr lb body bs ps ls t) -> Sat P Q1 t /\
   ∀ l, l ∈ ls -> ∀ an rest ks ko, lb l bs = some an -> findLabel body l = some rest -> ziu bs.slots an.keep = some ks -> zkp bs.objs an.hold = some ko -> ∀ x, an.inv x -> Sat P Q1 (ps rest (an.st ks ko bs.ice x) (an.mu x))
 | [], h => ⟨h, fun l hl => by cases hl⟩
 | l0 :: ls, h => by
   unfold zdr at h
   split at h
   · rename_i an hlb
     split at h
     · rename_i rest hf
       split at h
       · rename_i ks hks
         split at h
         · rename_i ko hko
           cases h with
           | and h1 h2 =>
             obtain ⟨i1, i2⟩ := zky h2
             refine ⟨i1, fun l hl an' rest' ks' ko' q1 q2 q3 q4 x hx => ?_⟩
             rcases List.mem_cons.1 hl with rfl | hl
             · rw [hlb] at q1; cases q1
               rw [hf] at q2; cases q2
               rw [hks] at q3; cases q3
               rw [hko] at q4; cases q4
               cases h1 with
               | all h1 => cases h1 x with | sup h1 => exact h1 hx
             · exact i2 l hl an' rest' ks' ko' q1 q2 q3 q4 x hx
         · cases h
       · cases h
     · rename_i hf
       obtain ⟨i1, i2⟩ := zky h
       refine ⟨i1, fun l hl an' rest' ks' ko' q1 q2 => ?_⟩
       rcases List.mem_cons.1 hl with rfl | hl
       · rw [hf] at q2; cases q2
       · exact i2 l hl an' rest' ks' ko' q1 q2
   · rename_i hlb
     obtain ⟨i1, i2⟩ := zky h
     refine ⟨i1, fun l hl an' rest' ks' ko' q1 => ?_⟩
     rcases List.mem_cons.1 hl with rfl | hl
     · rw [hlb] at q1; cases q1
     · exact i2 l hl an' rest' ks' ko' q1
theorem zor (n : Nat) (hp : yab P T S lo lb base M W nt Q1 n) : yid P base M W nt Q1 (zj5 lb (pass T std S lo lb n)) := by
 intro body s k Q a w hc hs h hk
 unfold zbc at hc
 rw [Bool.and_eq_true] at hc
 unfold zj5 at h
 obtain ⟨h1, h2⟩ := zky h
 have lab : ∀ m, ∀ l an rest ks ko x a w, lb l s = some an -> findLabel body l = some rest -> ziu s.slots an.keep = some ks -> zkp s.objs an.hold = some ko -> an.inv x -> an.mu x = m ->
     zin base M W nt (an.st ks ko s.ice x) a w -> WPl P (zeo rest) (Qg P Q body) a w := by
   intro m
   induction m using Nat.strongRecOn with
   | _ m ih =>
     intro l an rest ks ko x a w q1 q2 q3 q4 hx hm hsx
     subst hm
     refine hp body rest s _ k (some (an.mu x)) Q a w hc.1 (zvg q2 hc.2) hc.2 (.inr ⟨l, q2⟩) hsx (h2 l (zkx q2) an rest ks ko q1 q2 q3 q4 x hx) hk ?_
     intro l' an' rest' ks' ko' x' a' w' p1 p2 p3 p4 hx' hlt hs'
     exact ih (an'.mu x') (hlt _ rfl) l' an' rest' ks' ko' x' a' w' p1 p2 p3 p4 hx' rfl hs'
 have := hp body body s s k none Q a w hc.1 hc.2 hc.2 (.inl rfl) hs h1 hk (fun l an rest ks ko x a w q1 q2 q3 q4 hx _ hsx => lab _ l an rest ks ko x a w q1 q2 q3 q4 hx rfl hsx)
 exact zjy (zv4 (zct this))
theorem zu0 (hT : zb7 P T) (hS : zd3 P S) (hm : P.follows .mixedOrders = true) : ∀ n, yab P T S lo lb base M W nt Q1 n
 | 0 => by intro body rest bs s k m Q a w _ _ _ _ _ h; cases h
 | n + 1 => by
   intro body rest bs s k m Q a w hn hr hb hsuf hs h hk hl
   have ih := zu0 hT hS hm n
   unfold pass at h
   have go : ∀ l rest' s' a' w', findLabel body l = some rest' -> zin base M W nt s' a' w' -> Sat P Q1 (jump lb (fun rest' s' => pass T std S lo lb n body rest' s' k m bs) body bs m k (.goto l) s') -> WPl P (zeo rest') (Qg P Q body) a' w' := by
     intro l rest' s' a' w' hf hs' h'
     simp only [jump, hf] at h'
     split at h'
     · rename_i an hlb
       split at h'
       · rename_i ks hks
         split at h'
         · rename_i ko hko
           obtain ⟨x, i1, i2, i3⟩ := zdq hs' h'
           exact hl l an rest' ks ko x a' w' hlb hf hks hko i1 i2 i3
         · cases h'
       · cases h'
     · exact ih body rest' bs s' k m Q a' w' hn (zvg hf hb) hb (.inr ⟨l, hf⟩) hs' h' hk hl
   have := zzo hT hS hm (zor n ih) rest hr _ s _ (Qg P Q body) [] a w hs h (fun e s' a' w' hs' h' => ?_) (fun l c' s' a' w' hA hf hs' h' => ?_)
   · simpa using this
   · rw [zdx]
     cases e with
     | goto l =>
       show Qg P Q body (.goto l) a' w'
       simp only [Qg]
       cases hf : findLabel body l with
       | some rest' => exact zv4 (zct (go l rest' s' a' w' hf hs' h'))
       | none =>
         simp only [jump, hf] at h'
         exact hk (.goto l) s' a' w' hs' h'
     | normal => exact hk .normal s' a' w' hs' h'
     | exit id => exact hk (.exit id) s' a' w' hs' h'
     | ret => exact hk .ret s' a' w' hs' h'
   · rw [List.append_nil]
     rcases hsuf with rfl | ⟨l0, h0⟩
     · exact go l c' s' a' w' hf hs' h'
     · obtain ⟨c'', e1, e2⟩ := zvh hn h0 hf
       rw [<- e2]
       exact go l c'' s' a' w' e1 hs' h'
theorem zvm (hT : zb7 P T) (hS : zd3 P S) (hm : P.follows .mixedOrders = true) {n : Nat} {c : Code} (hc : zbc nt c = true) {s : St} {k : K} {Q : Exit -> Act -> World -> Prop} {a : Act} {w : World} (hs : zin base M W nt s a w)
   (h : Sat P Q1 (run T std S lo (zj5 lb (pass T std S lo lb n)) noL c s k)) (hk : Kon P base M W nt Q1 k Q) : c.wp P Q a w := by
 refine zct ?_
 have := zzo hT hS hm (zor n (zu0 hT hS hm n)) c hc noL s k Q [] a w hs h (by rw [zdx]; exact hk) (fun l c' s' a' w' hA => by cases hA)
 simpa using this
end
end Sy
end Go.Proofs.Ytlphgephdhadhaa
namespace Go.Proofs.Ytlphgephdhadhaa
namespace Sy
open Go Go.RowKit
set_option linter.unusedSimpArgs false
set_option linter.unusedVariables false
set_option linter.unusedSectionVars false
def zmt : List Prop -> Prop
 | [] => True
 | p :: r => p /\ zmt r
def zb9 (r v : AV) : Prop := match zfr ⟨[], []⟩ r v with
 | some ⟨ps, []⟩ => zmt ps
 | _ => False
def zo3 : List AV -> List AV -> Prop
 | [], [] => True
 | x :: xs, y :: ys => zb9 x y /\ zo3 xs ys
 | _, _ => False
def ziw (r v : AV) : Prop := match r, v with
 | .tup rs, .tup vs => zo3 rs vs
 | r, v => zb9 r v
theorem zq9 : ∀ {l : List Prop}, zmt l -> ∀ p, p ∈ l -> p
 | [], _, p, h => by cases h
 | q :: l, ⟨h1, h2⟩, p, h => by
   rcases List.mem_cons.1 h with rfl | h
   · exact h1
   · exact zq9 h2 p h
theorem ybs (μ : Mu) : zdh μ [] = zan := rfl
theorem zve {h : Array Obj} {D : Nat -> Prop} {r v : AV} {x : Value} (f : zb9 r v) (hr : R h D zan v x) : R h D zan r x := by
 unfold zb9 at f
 split at f
 · rename_i ps e
   have := (zpf (h := h) (D := D) (μ := zan) e).2 [] x ⟨fun _ _ h => h, zq9 f⟩ hr
   rwa [ybs] at this
 · exact f.elim
theorem zvb {h : Array Obj} {D : Nat -> Prop} : ∀ {rs vs : List AV}, zo3 rs vs -> rs.length = vs.length /\ ∀ (i : Nat) r v x, rs[i]? = some r -> vs[i]? = some v -> R h D zan v x -> R h D zan r x
 | [], [], _ => ⟨rfl, fun i r v x h => by simp at h⟩
 | r :: rs, v :: vs, ⟨f1, f2⟩ => by
   obtain ⟨l1, h1⟩ := zvb (h := h) (D := D) f2
   refine ⟨by simp [l1], fun i r' v' x hr hv hx => ?_⟩
   cases i with
   | zero => simp at hr hv; subst hr; subst hv; exact zve f1 hx
   | succ i => exact h1 i r' v' x (by simpa using hr) (by simpa using hv) hx
 | [], _ :: _, f => f.elim
 | _ :: _, [], f => f.elim
theorem ya4 {h : Array Obj} {D : Nat -> Prop} {r v : AV} {x : Value} (f : ziw r v) (hr : R h D zan v x) : R h D zan r x := by
 unfold ziw at f
 split at f
 · rename_i rs vs
   obtain ⟨us, rfl, l1, h1⟩ := hr.inv_tup
   obtain ⟨l2, h2⟩ := zvb (h := h) (D := D) f
   refine .tup _ _ (by rw [l2, l1]) fun i r x hr hx => ?_
   obtain ⟨v, hv⟩ : ∃ v, vs[i]? = some v := ⟨_, List.getElem?_eq_getElem (by rw [<- l2]; exact (List.getElem?_eq_some_iff.1 hr).1)⟩
   exact h2 i r v x hr hv (h1 i v x hv hx)
 · exact zve f hr
theorem zry {α : Type} (x : Sem α) : x.bind .pure = x := by
 induction x <;> simp only [Sem.bind] <;> (try (congr 1; try funext _)) <;> (first | rfl | (rename_i ih; exact ih _) | (rename_i ih; exact ih) | (rename_i ih _; exact ih _))
theorem zof {α β γ : Type} (x : Sem α) (f : α -> Sem β) (g : β -> Sem γ) : (x.bind f).bind g = x.bind fun a => (f a).bind g := by
 induction x <;> simp only [Sem.bind] <;> (try (congr 1; try funext _)) <;> (first | rfl | (rename_i ih; exact ih _) | (rename_i ih; exact ih) | (rename_i ih _; exact ih _))
instance : LawfulMonad Sem := LawfulMonad.mk' Sem (fun x => zry x) (fun _ _ => rfl) (fun x f g => zof x f g)
theorem zph {α : Type} {P : Program} {w : World} {k : α -> Sem Value} : ∀ {zs : List α} {us : Nat -> Value}, (∀ (i : Nat) x, zs[i]? = some x -> (k x).run P w = .ok (us i) w) ->
   (zs.mapM k).run P w = .ok ((List.range zs.length).map us) w
 | [], us, h => by simp
 | z :: zs, us, h => by
   have ih := zph (zs := zs) (us := fun i => us (i + 1)) (fun i x hx => h (i + 1) x (by simpa using hx))
   rw [List.mapM_cons, Sem.run_bind, h 0 z rfl]
   simp only [Result.andThen_ok, Sem.run_bind, ih, Sem.run_pure]
   rw [List.length_cons, List.range_succ_eq_map]
   simp [Function.comp_def]
section
variable {P : Program} {T : TT} {base : Nat} {M : Two} {W : World} {nt : Nat} {s : St} {a : Act} {w : World} {D : Nat -> Prop} {μ : Mu}
def zr4 (tmps : Array Value) : ResultVar -> Sem Value
 | .tmp t => pure (tmps.getD t undef)
 | .cell a t => do loadVar t (<- asAddr (tmps.getD a undef))
theorem yeb (h : Sim base M W nt (za1 s.slots) (za1 s.objs) (zb6 s.ice) a w D μ) (hT : zb7 P T) {x : ResultVar} {v : AV} (e : yg8 T s x = some v) : ∃ u, (zr4 a.tmps x).run P w = .ok u w /\ R w.heap D μ v u := by
 have ev : ∀ t, R w.heap D μ (evf (za1 s.slots) [] (.tmp t)) (a.tmps.getD t undef) := fun t => yci h (fun t b ht => by simp [za1] at ht) (.tmp t) (fun v hv => by cases hv)
 cases x with
 | tmp t =>
   simp only [yg8, Option.some.injEq] at e
   subst e
   exact ⟨_, rfl, ev t⟩
 | cell p t =>
   simp only [yg8] at e
   have hl := zpk h hT (t := t) (ev p) (ob := za1 s.objs) (fun _ _ h => h)
   split at e
   · rename_i v' os ice hc
     rw [hc] at hl
     cases e
     obtain ⟨_, _, y, hy, r⟩ := hl
     refine ⟨y, ?_, r⟩
     simp only [zr4]
     generalize a.tmps.getD p undef = u at *
     unfold Instr.loadAt Instr.sureAddr at hy
     unfold asAddr
     split at hy
     · rename_i q; simpa using hy
     · simp [stuck] at hy
   · cases e
theorem zne (h : Sim base M W nt (za1 s.slots) (za1 s.objs) (zb6 s.ice) a w D μ) (hT : zb7 P T) : ∀ {rs : List ResultVar} {vs : List AV}, ztl T s rs = some vs ->
   vs.length = rs.length /\ ∃ us : Nat -> Value, (∀ (i : Nat) x, rs[i]? = some x -> (zr4 a.tmps x).run P w = .ok (us i) w) /\ ∀ (i : Nat) v, vs[i]? = some v -> R w.heap D μ v (us i)
 | [], vs, e => by cases e; exact ⟨rfl, fun _ => undef, fun i x hx => by simp at hx, fun i x hx => by simp at hx⟩
 | x :: rs, vs, e => by
   unfold ztl at e
   split at e
   · rename_i v hv
     split at e
     · rename_i l hl
       cases e
       obtain ⟨u, hu, r⟩ := yeb h hT hv
       obtain ⟨l1, us, h1, h2⟩ := zne h hT hl
       refine ⟨by simp [l1], fun i => match i with | 0 => u | i + 1 => us i, fun i x' hx => ?_, fun i v' hv' => ?_⟩
       · cases i with
         | zero => simp at hx; subst hx; exact hu
         | succ i => exact h1 i x' (by simpa using hx)
       · cases i with
         | zero => simp at hv'; subst hv'; exact r
         | succ i => exact h2 i v' (by simpa using hv')
     · cases e
   · cases e
theorem zhr {fn : Func} {tmps : Array Value} {us : Nat -> Value} (h : ∀ (i : Nat) x, fn.results.toList[i]? = some x -> (zr4 tmps x).run P w = .ok (us i) w) :
   (results fn tmps).run P w = .ok (if fn.results.size = 1 then us 0 else .tuple ((List.range fn.results.size).map us).toArray) w := by
 have h1 : (fn.results.mapM (zr4 tmps)).run P w = .ok ((List.range fn.results.size).map us).toArray w := by
   have e : fn.results = fn.results.toList.toArray := by simp
   rw [e, List.mapM_toArray, map_eq_pure_bind, Sem.run_bind, zph h]
   simp
 have h2 : results fn tmps = (do
     let vs <- fn.results.mapM (zr4 tmps)
     pure (if h : vs.size = 1 then vs[0] else .tuple vs)) := by
   unfold results
   congr 1
 rw [h2, Sem.run_bind, h1]
 simp only [Result.andThen_ok, Sem.run_pure]
 congr 1
 by_cases e : fn.results.size = 1
 · rw [if_pos e, dif_pos (by simp [e])]
   try simp
 · rw [if_neg e, dif_neg (by simp [e])]
end
theorem zim {α : Type} : ∀ (xs : List α) (i t : Nat), za1 (zhv i xs) t = if i <= t then xs[t - i]? else none
 | [], i, t => by simp [zhv, za1]
 | x :: xs, i, t => by
   unfold zhv za1
   cases e : zae i t with
   | true => have := za3 e; subst this; simp
   | false =>
     have hne : i ≠ t := by rintro rfl; rw [za4] at e; cases e
     simp only
     rw [zim xs (i + 1) t]
     by_cases h : i <= t
     · rw [if_pos (by omega), if_pos h]
       obtain ⟨k, hk⟩ : ∃ k, t - i = k + 1 := ⟨t - i - 1, by omega⟩
       rw [hk, show t - (i + 1) = k by omega]
       simp
     · rw [if_neg (by omega), if_neg h]
theorem zbu {P : Program} {f : FuncId} {fn : Func} {args : Array Value} {w : World} (hf : P.funcs[f]? = some fn) (hn : (fn.name == "runtime.NumGoroutine") = false) {c : Code} (hb : fn.body = some c) :
   (callFunc f args).run P w = .ok (.enter f args) w := by
 have hn' : ¬ fn.name = "runtime.NumGoroutine" := by simpa using hn
 unfold callFunc
 simp [program, Sem.run, hf, hn', hb]
theorem zwf {P : Program} {T : TT} {S : zl9} {lo lb : Nat -> St -> Option Ann} {n : Nat} {f : FuncId} {fn : Func} {c : Code} {xs : List AV} {r : AV} (hf : P.funcs[f]? = some fn) (hb : fn.body = some c) (hn : (fn.name == "runtime.NumGoroutine") = false)
   (hc : zbc fn.ntmps c = true) (hx : (zb8 xs.length fn.ntmps && zb8 fn.ntmps 500000) = true) (hT : zb7 P T) (hS : zd3 P S) (hm : P.follows .mixedOrders = true) (h : Sat P (ziw r) (ygw T std S lo lb n fn xs)) : zbf P f xs r := by
 intro D w vs hD hxs hg
 rw [Bool.and_eq_true] at hx
 have hnb := zb0 hx.2
 have hx := zb0 hx.1
 unfold zer
 rw [zbu hf hn hb]
 simp only
 refine calls_of_wp hf hb ?_
 unfold ygw at h
 rw [hb] at h
 refine zvm (base := w.heap.size) (M := ⟨fun _ => False, D, fun _ => none⟩) (W := w) hT hS hm hc ⟨⟨D, zan, ?_⟩, fun t b ht => by simp [za1] at ht⟩ h (fun e s a w' hs h' => ?_)
 · refine { os := rfl, tape := rfl, output := rfl, size := Nat.le_refl _, bs := Nat.le_refl _, old := fun _ _ _ => rfl, defers := rfl, tmps := ?_, slots := fun t v hv => ?_, dlt := hD, low := fun b hb _ => .inl hb, dom := fun id => by simp [za1], obs := fun id o x ho => (by simp [za1] at ho), inj := fun id id' b z z' o o' h => (by cases h), own := fun id b z h => (by cases h), kd := fun id b z o h => (by cases h), icy := fun id h => by (simp [zb6] at h), ntb := hnb, pin := fun id y _ h => (by cases h), gl := ⟨hg, zqc hg, fun _ h => h.elim⟩ }
   · rw [hxs.1] at hx
     simp; omega
   · rw [zim, if_pos (by omega), Nat.sub_zero] at hv
     have hlt : t < vs.size := by rw [<- hxs.1]; exact (List.getElem?_eq_some_iff.1 hv).1
     have h1 : vs[t]? = some vs[t] := by simp [hlt]
     have h2 : (vs ++ Array.replicate (fn.ntmps - vs.size) undef).getD t undef = vs[t] := by
       rw [Array.getD_eq_getD_getElem?, Array.getElem?_append_left hlt, h1]; rfl
     rw [h2]
     exact hxs.2 t v vs[t] hv h1
 · obtain ⟨⟨D1, μ, S1⟩, _⟩ := hs
   have key : Sat P (ziw r) (ygc T std fn.results.toList s) -> a.defers = [] /\ ∃ v, (results fn a.tmps).run P w' = .ok v w' /\ ∃ v' D', Ending.returned v = .returned v' /\ Below w.heap.size w w' /\ (∀ b, D b -> D' b) /\ (∀ b, D' b -> D b \/ (w.heap.size <= b /\ b < w'.heap.size)) /\ R w'.heap D' zan r v' := by
     intro h'
     unfold ygc at h'
     split at h'
     · rename_i vs1 hvs
       obtain ⟨l1, us, h1, h2⟩ := zne S1 hT hvs
       have hres := zhr (P := P) (w := w') (fn := fn) (tmps := a.tmps) h1
       have hB : Below w.heap.size w w' := ⟨S1.os, S1.tape, S1.output, S1.size, fun b hb => S1.old b hb (fun h => h)⟩
       have hD' : ∀ b, (D b \/ DF D1 μ (zbw vs1) b) -> D b \/ (w.heap.size <= b /\ b < w'.heap.size) := by
         rintro b (hb | hb | ⟨id, z, m, _, hm⟩)
         · exact .inl hb
         · by_cases hlt : b < w.heap.size
           · rcases S1.low b hb hlt with h | h
             · exact .inl h
             · exact h.elim
           · exact .inr ⟨by omega, S1.dlt b hb⟩
         · rcases S1.own id b _ hm with ⟨q1, q2 | q2⟩
           · exact .inr ⟨q2, q1⟩
           · exact q2.elim
       have imm : ∀ vs2, immVs std (za1 s.objs) vs1 = some vs2 -> vs2.length = vs1.length /\ ∀ (i : Nat) v, vs2[i]? = some v -> R w'.heap (fun b => D b \/ DF D1 μ (zbw vs1) b) zan v (us i) := by
         intro vs2 e2
         obtain ⟨i1, _, i3⟩ := zh9 S1 (ob := za1 s.objs) (fun _ _ h => h) e2 (ids := zbw vs1) (fun _ h => h)
         refine ⟨i1, fun i v hv => ?_⟩
         obtain ⟨v1, hv1⟩ : ∃ v1, vs1[i]? = some v1 := ⟨_, List.getElem?_eq_getElem (by rw [<- i1]; exact (List.getElem?_eq_some_iff.1 hv).1)⟩
         exact (i3 i v1 v (us i) hv1 hv (h2 i v1 hv1)).mono (fun _ _ => rfl) (fun b hb => .inr hb) (fun _ _ h => by cases h)
       refine ⟨S1.defers, _, hres, _, fun b => D b \/ DF D1 μ (zbw vs1) b, rfl, hB, fun b hb => .inl hb, hD', ?_⟩
       split at h'
       · rename_i v1 e2
         cases h' with
         | done h' =>
           obtain ⟨i1, i2⟩ := imm _ e2
           have hsz : fn.results.size = 1 := by rw [<- Array.length_toList, <- l1, <- i1]; rfl
           rw [if_pos hsz]
           exact ya4 h' (i2 0 v1 rfl)
       · rename_i vs2 hne e2
         cases h' with
         | done h' =>
           obtain ⟨i1, i2⟩ := imm _ e2
           have hl : vs2.length = fn.results.size := by rw [i1, l1, Array.length_toList]
           have hsz : ¬ fn.results.size = 1 := by
             rw [<- hl]
             intro h1
             obtain ⟨v, hv⟩ := List.length_eq_one_iff.1 h1
             exact hne v hv
           rw [if_neg hsz]
           refine ya4 h' (.tup _ _ (by simp [hl]) fun i v x hv hx => ?_)
           have hlt : i < fn.results.size := by rw [<- hl]; exact (List.getElem?_eq_some_iff.1 hv).1
           simp [hlt] at hx
           subst hx
           exact i2 i v hv
       · cases h'
     · cases h'
   cases e with
   | normal => exact key h'
   | ret => exact key h'
   | exit id => cases h'
   | goto l => cases h'
end Sy
end Go.Proofs.Ytlphgephdhadhaa
namespace Go.Proofs.Ytlphgephdhadhaa
namespace Sy
open Go Go.RowKit
section
variable (a b c : Int) (l m : List UInt8) (n : Nat)
theorem zgz : (ilt a b = true) = (a < b) := by simp [ilt]
theorem zrm : (ilt a b = false) = (b <= a) := by simp [ilt]
theorem yfb : (ile a b = true) = (a <= b) := by simp [ile]
theorem yhq : (ile a b = false) = (b < a) := by simp [ile]
theorem yhr : (ieq a b = true) = (a = b) := by simp [ieq]
theorem yhs : (ieq a b = false) = (a ≠ b) := by simp [ieq]
theorem yho : (ine a b = true) = (a ≠ b) := by simp [ine]
theorem yhp : (ine a b = false) = (a = b) := by simp [ine]
theorem ygs : (seq l m = true) = (l = m) := by simp [seq]
theorem ygt : (seq l m = false) = (l ≠ m) := by simp [seq]
theorem zma : (inR a b = true) = (0 <= a /\ a < b) := by simp [inR]
theorem yfa : (inS a b c = true) = (0 <= a /\ a <= b /\ b <= c) := by simp [inS, and_assoc]
theorem zys : (inC a b = true) = (0 <= a /\ a <= b) := by simp [inC]
theorem zzw (eb : Nat) : (yev eb a b = true) = (0 <= a /\ a <= b /\ (eb : Int) * b <= 140737488355328 /\ b <= 9223372036854775807) := by simp [yev, and_assoc]
theorem zxl (eb p q : Nat) : (zc0 eb p q = true) = ((p + q) * eb <= 140737488355328 /\ p + q <= 9223372036854775807) := by simp [zc0]
theorem zfd : (ycq l m = true) = (l.length + m.length <= 9223372036854775807) := by simp [ycq]
theorem zc5 (x y : Bool) : ziw (.bool x) (.bool y) = (y = x) := by simp [ziw, zb9, zfr, zd5, zc8.add, zmt]
theorem zg0 (k : IntKind) : ziw (.int k a) (.int k b) = (b = a) := by simp [ziw, zb9, zfr, zd5, zc8.add, zmt]
theorem zey : ziw (.str l) (.str m) = (m = l) := by simp [ziw, zb9, zfr, zd5, zc8.add, zmt]
theorem zrq (x y : Bool) : zb9 (.bool x) (.bool y) = (y = x) := by simp [zb9, zfr, zd5, zc8.add, zmt]
theorem zvd (k : IntKind) : zb9 (.int k a) (.int k b) = (b = a) := by simp [zb9, zfr, zd5, zc8.add, zmt]
theorem zvc : zb9 (.str l) (.str m) = (m = l) := by simp [zb9, zfr, zd5, zc8.add, zmt]
theorem zz1 (x y : List AV) : ziw (.tup x) (.tup y) = zo3 x y := rfl
theorem zrp (x y : AV) (r q : List AV) : zo3 (x :: r) (y :: q) = (zb9 x y /\ zo3 r q) := rfl
theorem zva : zo3 [] [] = True := rfl
theorem yax : slen l = l.length := rfl
theorem yb0 : zn9 l m = l ++ m := rfl
theorem yar : yas l a b = (l.take b.toNat).drop a.toNat := rfl
theorem yay : zl7 l a = (l.getD a.toNat 0).toNat := rfl
theorem ybx : zzz l = l.length := rfl
theorem zz3 (p q r : Nat) : yfd p q r = (p + q <= r) := rfl
theorem yhc (p : Nat) : Nat.add 0 p = p := Nat.zero_add p
theorem ydo (k : IntKind) : zsb k a b = k.wrap (a.tdiv b) := rfl
theorem yc7 : imin a b = min a b := rfl
theorem zv2 : yga a b = max a b := rfl
theorem ybp : za7 n = n := rfl
end
theorem zcu (n : Int) : IntKind.i64.wrap n = (n + 9223372036854775808) % 18446744073709551616 - 9223372036854775808 := by simp [IntKind.wrap, IntKind.bits, IntKind.signed]; omega
theorem ygj (n : Int) : IntKind.i32.wrap n = (n + 2147483648) % 4294967296 - 2147483648 := by simp [IntKind.wrap, IntKind.bits, IntKind.signed]; omega
theorem zis (n : Int) : IntKind.u64.wrap n = n % 18446744073709551616 := by simp [IntKind.wrap, IntKind.bits, IntKind.signed]
theorem zlb (n : Int) : IntKind.u32.wrap n = n % 4294967296 := by simp [IntKind.wrap, IntKind.bits, IntKind.signed]
theorem ygi (n : Int) : IntKind.u16.wrap n = n % 65536 := by simp [IntKind.wrap, IntKind.bits, IntKind.signed]
theorem ygh (n : Int) : IntKind.u8.wrap n = n % 256 := by simp [IntKind.wrap, IntKind.bits, IntKind.signed]
theorem zlq (ps q : List Prop) (ids : List (Nat × Option Nat)) (x y : Nat) : zee ⟨ps ++ q, ids⟩ x y = (zee ⟨ps, ids⟩ x y).map fun m => ⟨m.ps ++ q, m.ids⟩ := by
 unfold zee
 dsimp only
 repeat' split
 all_goals rfl
theorem zj9 (ps q : List Prop) (ids : List (Nat × Option Nat)) (x : Nat) : zf8 ⟨ps ++ q, ids⟩ x = (zf8 ⟨ps, ids⟩ x).map fun m => ⟨m.ps ++ q, m.ids⟩ := by
 unfold zf8
 dsimp only
 split <;> rfl
theorem zy8 (ps q : List Prop) (ids : List (Nat × Option Nat)) (x y : AV) : zd5 ⟨ps ++ q, ids⟩ x y = (zd5 ⟨ps, ids⟩ x y).map fun m => ⟨m.ps ++ q, m.ids⟩ := by
 cases x <;> cases y <;> first
   | rfl
   | (simp only [zd5, zc8.add, zlq, zj9]; done)
   | (simp only [zd5, zc8.add, zlq, zj9]
      (repeat' split) <;> (try simp_all) <;> (try (rename_i hh _; subst hh; simp)) <;> (try (rename_i hh _ _; subst hh; simp)))
theorem zpd : ∀ (xs ys : List AV) (ps q : List Prop) (ids : List (Nat × Option Nat)), zfq ⟨ps ++ q, ids⟩ xs ys = (zfq ⟨ps, ids⟩ xs ys).map fun m => ⟨m.ps ++ q, m.ids⟩
 | [], [], ps, q, ids => rfl
 | [], _ :: _, ps, q, ids => rfl
 | _ :: _, [], ps, q, ids => rfl
 | x :: xs, y :: ys, ps, q, ids => by
   unfold zfq
   rw [zy8]
   cases e : zd5 ⟨ps, ids⟩ x y with
   | none => rfl
   | some m => exact zpd xs ys m.ps q m.ids
theorem zqa : ∀ (p : List Prop) (q : Prop), zmt (p ++ [q]) = (q /\ zmt p)
 | [], q => by simp [zmt]
 | a :: p, q => by
   show (a /\ zmt (p ++ [q])) = (q /\ a /\ zmt p)
   rw [zqa p q]
   exact propext ⟨fun ⟨h1, h2, h3⟩ => ⟨h2, h1, h3⟩, fun ⟨h1, h2, h3⟩ => ⟨h2, h1, h3⟩⟩
theorem zbl {x y : AV} {q : Prop} (e : zd5 ⟨[], []⟩ x y = some ⟨[q], []⟩) (xs ys : List AV) : zb9 (.agg (x :: xs)) (.agg (y :: ys)) = (q /\ zb9 (.agg xs) (.agg ys)) := by
 unfold zb9 zfr
 simp only [zfq, e]
 have := zpd xs ys [] [q] []
 rw [List.nil_append] at this
 rw [this]
 cases zfq ⟨[], []⟩ xs ys with
 | none => simp
 | some m =>
   obtain ⟨ps, ids⟩ := m
   cases ids with
   | nil => exact zqa ps q
   | cons a b => simp
theorem zrt : zb9 (.agg []) (.agg []) = True := rfl
theorem zjn (k : IntKind) (a b : Int) (xs ys : List AV) : zb9 (.agg (.int k a :: xs)) (.agg (.int k b :: ys)) = (b = a /\ zb9 (.agg xs) (.agg ys)) := zbl (by simp [zd5, zc8.add]) _ _
theorem zjm (a b : List UInt8) (xs ys : List AV) : zb9 (.agg (.str a :: xs)) (.agg (.str b :: ys)) = (b = a /\ zb9 (.agg xs) (.agg ys)) := zbl rfl _ _
theorem zjo (a b : Bool) (xs ys : List AV) : zb9 (.agg (.bool a :: xs)) (.agg (.bool b :: ys)) = (b = a /\ zb9 (.agg xs) (.agg ys)) := zbl rfl _ _
theorem zmh (sz n n' : Nat) (g g' : Nat -> Nat -> AV) : zb9 (.lst sz n g) (.lst sz n' g') = (n' = n /\ ∀ i j, i < n -> j < sz -> g' i j = g i j) := by simp [zb9, zfr, zd5, zc8.add, za4, zmt]
theorem zz2 (sz n n' : Nat) (g g' : Nat -> Nat -> AV) : ziw (.lst sz n g) (.lst sz n' g') = (n' = n /\ ∀ i j, i < n -> j < sz -> g' i j = g i j) := zmh sz n n' g g'
theorem zjl (sz n : Nat) (g : Nat -> Nat -> AV) : zb9 (.lst sz n g) .nils = (0 = n) := by simp [zb9, zfr, zd5, zc8.add, zmt]
theorem zv5 (sz n : Nat) (g : Nat -> Nat -> AV) : ziw (.lst sz n g) .nils = (0 = n) := zjl sz n g
theorem zrs (sz n n' : Nat) (g g' : Nat -> Nat -> AV) (xs ys : List AV) : zb9 (.agg (.lst sz n g :: xs)) (.agg (.lst sz n' g' :: ys)) = ((n' = n /\ ∀ i j, i < n -> j < sz -> g' i j = g i j) /\ zb9 (.agg xs) (.agg ys)) := zbl (by simp [zd5, zc8.add, za4]) _ _
theorem zrr (sz n : Nat) (g : Nat -> Nat -> AV) (xs ys : List AV) : zb9 (.agg (.lst sz n g :: xs)) (.agg (.nils :: ys)) = (0 = n /\ zb9 (.agg xs) (.agg ys)) := zbl rfl _ _
theorem zmi (n : Nat) (g g' : Nat -> AV) : zb9 (.arr n g) (.arr n g') = (∀ j, j < n -> g' j = g j) := by simp [zb9, zfr, zd5, zc8.add, za4, zmt]
theorem zkv (n : Nat) (g g' : Nat -> AV) : ziw (.arr n g) (.arr n g') = (∀ j, j < n -> g' j = g j) := zmi n g g'
theorem zv9 : ziw (.agg []) (.agg []) = True := rfl
theorem zv7 (k : IntKind) (a b : Int) (xs ys : List AV) : ziw (.agg (.int k a :: xs)) (.agg (.int k b :: ys)) = (b = a /\ zb9 (.agg xs) (.agg ys)) := zjn _ _ _ _ _
theorem zv6 (a b : List UInt8) (xs ys : List AV) : ziw (.agg (.str a :: xs)) (.agg (.str b :: ys)) = (b = a /\ zb9 (.agg xs) (.agg ys)) := zjm _ _ _ _
theorem zv8 (a b : Bool) (xs ys : List AV) : ziw (.agg (.bool a :: xs)) (.agg (.bool b :: ys)) = (b = a /\ zb9 (.agg xs) (.agg ys)) := zjo _ _ _ _
theorem zsn {h : Array Obj} {D : Nat -> Prop} {μ : Mu} {l : List UInt8} {v : Value} (r : R h D μ (.str l) v) : v = .string ⟨l.toArray⟩ := by
 obtain ⟨s, rfl, rfl⟩ := r.inv_str
 simp
theorem zsm (h : Array Obj) (D : Nat -> Prop) (μ : Mu) (l : List UInt8) : R h D μ (.str l) (.string ⟨l.toArray⟩) := .str l _ (by simp)
theorem zd2 {P : Program} {f : FuncId} {fn : Func} {c : Code} {xs : List AV} {args : Array Value} {v : Value} {r : AV} (hf : P.funcs[f]? = some fn) (hb : fn.body = some c) (hn : (fn.name == "runtime.NumGoroutine") = false)
   (ha : ∀ h D vs, RL h D zan xs vs -> vs = args) (hv : ∀ h D, R h D zan r v) (h : ∀ w, Calls P f args w fun e w' => e = .returned v /\ Below w.heap.size w w') : zbf P f xs r := by
 intro D w vs hD hxs hg
 have := ha _ _ _ hxs
 subst this
 unfold zer
 rw [zbu hf hn hb]
 refine (h w).mono ?_
 rintro e w' ⟨rfl, hw⟩
 exact ⟨v, D, rfl, hw, fun _ h => h, fun b hb => .inl hb, hv _ _⟩
theorem zl5 {P : Program} {f : FuncId} {args : Array Value} {v : Value} (h : ∀ w, Calls P f args w fun e w' => e = .returned v /\ w = w') : ∀ w, Calls P f args w fun e w' => e = .returned v /\ Below w.heap.size w w' :=
 fun w => (h w).mono fun e w' ⟨h1, h2⟩ => ⟨h1, by subst h2; exact Below.refl _ _⟩
def zwg (x : AV) (v : Value) : Prop := ∀ h D u, R h D zan x u -> u = v
theorem zfi (k : IntKind) (n : Int) : zwg (.int k n) (.int k n) := fun _ _ _ r => by cases r; rfl
theorem zhj (l : List UInt8) : zwg (.str l) (.string ⟨l.toArray⟩) := fun _ _ _ r => zsn r
theorem yd5 {x : AV} {v : Value} (hx : zwg x v) : ∀ h D vs, RL h D zan [x] vs -> vs = #[v] := by
 intro h D vs ⟨hl, hr⟩
 obtain ⟨a, ha⟩ : ∃ a, vs.toList = [a] := List.length_eq_one_iff.1 (by simpa using hl.symm)
 have : vs = #[a] := by rw [<- Array.toArray_toList (xs := vs), ha]
 subst this
 rw [hx _ _ a (hr 0 x a rfl rfl)]
theorem yfy {x y : AV} {v u : Value} (hx : zwg x v) (hy : zwg y u) : ∀ h D vs, RL h D zan [x, y] vs -> vs = #[v, u] := by
 intro h D vs ⟨hl, hr⟩
 obtain ⟨a, b, ha⟩ : ∃ a b, vs.toList = [a, b] := by
   have hl : vs.toList.length = 2 := by simpa using hl.symm
   match vs.toList, hl with
   | [a, b], _ => exact ⟨a, b, rfl⟩
 have : vs = #[a, b] := by rw [<- Array.toArray_toList (xs := vs), ha]
 subst this
 rw [hx _ _ a (hr 0 x a rfl rfl), hy _ _ b (hr 1 y b rfl rfl)]
abbrev zdf := Nat × (List AV -> Option (Prop × AV))
abbrev zir := Nat × yif
def ygb (l : List zdf) : FuncId -> List AV -> Option (Prop × AV) := fun f xs => match za1 l f with | some g => g xs | none => none
def zc7 (l : List zdf) : zl9 := ⟨ygb l, fun _ => none⟩
def zbz (l : List zdf) (lm : List zir) : zl9 := ⟨ygb l, za1 lm⟩
def zec (P : Program) (e : zdf) : Prop := ∀ xs p r, e.2 xs = some (p, r) -> p -> zbf P e.1 xs r
def zzg (P : Program) : List zdf -> Prop
 | [] => True
 | e :: l => zec P e /\ zzg P l
def zeb (P : Program) (e : zir) : Prop := ∀ raw ob T, e.2 raw ob = some T -> T.p -> zbe P e.1 T.xs T.O T.r T.O1
def zwl (P : Program) : List zir -> Prop
 | [] => True
 | e :: l => zeb P e /\ zwl P l
theorem zo0 {P : Program} : ∀ {l : List zdf}, zzg P l -> ∀ f xs p r, ygb l f xs = some (p, r) -> p -> zbf P f xs r
 | [], _, f, xs, p, r, h => by cases h
 | (n, g) :: l, ⟨hg, hl⟩, f, xs, p, r, h => by
   unfold ygb za1 at h
   by_cases e : n = f
   · subst e
     rw [za4] at h
     exact hg xs p r h
   · rw [za9 e] at h
     exact zo0 hl f xs p r h
theorem zuf {P : Program} : ∀ {l : List zir}, zwl P l -> ∀ f m, za1 l f = some m -> ∀ raw ob T, m raw ob = some T -> T.p -> zbe P f T.xs T.O T.r T.O1
 | [], _, f, m, h => by cases h
 | (n, g) :: l, ⟨hg, hl⟩, f, m, h => by
   unfold za1 at h
   by_cases e : n = f
   · subst e
     rw [za4] at h
     cases h
     exact hg
   · rw [za9 e] at h
     exact zuf hl f m h
theorem zac {P : Program} {l : List zdf} (h : zzg P l) : zd3 P (zc7 l) := ⟨zo0 h, fun f m h => by cases h⟩
theorem zak {P : Program} {l : List zdf} {lm : List zir} (h : zzg P l) (hm : zwl P lm) : zd3 P (zbz l lm) := ⟨zo0 h, zuf hm⟩
theorem law_of_ac {P : Program} {f : FuncId} {fn : Func} {c : Code} {xs : List AV} {vs : Array Value} (hf : P.funcs[f]? = some fn) (hb : fn.body = some c) (hn : (fn.name == "runtime.NumGoroutine") = false)
   (h : zbf P f xs (.bool true)) (D : Nat -> Prop) (w : World) (hD : ∀ b, D b -> b < w.heap.size) (hr : RL w.heap D zan xs vs) (hg : GOk w := by trivial) : Calls P f vs w fun e w' => e = .returned (.bool true) /\ Below w.heap.size w w' := by
 have h := h D w vs hD hr hg
 unfold zer at h
 rw [zbu hf hn hb] at h
 refine h.mono ?_
 rintro e w' ⟨v, D', rfl, hw, _, _, r⟩
 cases r
 exact ⟨rfl, hw⟩
theorem rl_nil {h : Array Obj} {D : Nat -> Prop} : RL h D zan [] #[] := ⟨rfl, fun i x v h => by simp at h⟩
theorem rl_of {h : Array Obj} {D : Nat -> Prop} {xs : List AV} {vs : Array Value} {x : AV} {v : Value} (hx : R h D zan x v) (hr : RL h D zan xs ⟨vs.toList⟩) : RL h D zan (x :: xs) ⟨v :: vs.toList⟩ := by
 obtain ⟨h1, h2⟩ := hr
 refine ⟨by simpa using h1, ?_⟩
 intro i y u hy hu
 cases i with
 | zero => simp at hy hu; subst hy hu; exact hx
 | succ i => simp at hy hu; exact h2 i y u hy (by simpa using hu)
theorem yh6 (q : Nat) (k : IntKind) (v : Int) (f : Nat -> Int) (i j : Nat) (h : j < 1) : over std q 0 1 [.int k v] (fun i _ => .int k (f i)) i j = .int k (if i = q then v else f i) := by
 rw [zda, if_pos (by omega)]
 have h0 : j = 0 := by omega
 subst h0
 by_cases e : i = q
 · subst e; simp [zga, zc2, L3, std, za4]
 · simp [za9 e, zga, zc2, L3, std, e]
theorem yft {p q : Nat} (h : p < q) : zba p q = true := by rw [zbi]; exact h
theorem yfu {p q : Nat} (h : ¬ p < q) : zba p q = false := by rw [Bool.eq_false_iff, ne_eq, zbi]; exact h
set_option linter.defProp false in
def sySet := And.intro @zgz (And.intro @zrm (And.intro @yfb (And.intro @yhq (And.intro @yhr (And.intro @yhs (And.intro @yho (And.intro @yhp (And.intro @ygs (And.intro @ygt (And.intro @zma (And.intro @yfa (And.intro @zys (And.intro @zzw (And.intro @zxl (And.intro @zfd (And.intro @zc5 (And.intro @zg0 (And.intro @zey (And.intro @zrq (And.intro @zvd (And.intro @zvc (And.intro @zz1 (And.intro @zrp (And.intro @zva (And.intro @yax (And.intro @yb0 (And.intro @yar (And.intro @yay (And.intro @ybp (And.intro @yc7 (And.intro @zv2 (And.intro @Bool.not_eq_true' (And.intro @Bool.not_eq_false' (And.intro @Bool.and_eq_true (And.intro @Bool.and_eq_false_imp (And.intro @Bool.or_eq_true (And.intro @Bool.or_eq_false_iff (And.intro @Bool.not_true (And.intro @Bool.not_false (And.intro @zcu (And.intro @ygj (And.intro @zis (And.intro @zlb (And.intro @ygi (And.intro @ygh (And.intro @Int.zero_add (And.intro @ybx (And.intro @zz3 (And.intro @yhc (And.intro @zrt (And.intro @zjn (And.intro @zjm (And.intro @zjo (And.intro @zv9 (And.intro @zv7 (And.intro @zv6 (And.intro @zv8 (And.intro @zmh (And.intro @zz2 (And.intro @zjl (And.intro @zv5 (And.intro @zrs (And.intro @zrr (And.intro @zmi @zkv))))))))))))))))))))))))))))))))))))))))))))))))))))))))))))))))
set_option linter.defProp false in
def syB := And.intro @Decidable.not_not (And.intro @true_and (And.intro @and_true (And.intro @decide_eq_true_eq (And.intro @decide_eq_false_iff_not (And.intro @imp_false (And.intro not_false_eq_true (And.intro not_true_eq_false (And.intro @false_imp_iff (And.intro @true_imp_iff (And.intro @forall_const.{0} (And.intro @forall_const.{1} (And.intro @implies_true.{0} (And.intro @implies_true.{1} (And.intro @ne_eq.{1} (And.intro @Int.cast_ofNat_Int (And.intro @Int.toNat_natCast (And.intro @Nat.succ_eq_add_one (And.intro @Nat.le_eq (And.intro @Nat.sub_eq (And.intro @zbg.eq_1 (And.intro @zdw.eq_1 (@zdj.eq_1))))))))))))))))))))))
set_option linter.defProp false in
def syS := And.intro sySet syB
end Sy
end Go.Proofs.Ytlphgephdhadhaa
namespace Go.Proofs.Ytlphgephdhadhaa
namespace Sy
open Go Go.RowKit
set_option linter.unusedSimpArgs false
set_option linter.unusedVariables false
set_option linter.unusedSectionVars false
def yh4 : List (Nat × Ob) -> List Nat
 | [] => []
 | (n, _) :: r => match ze6 n with | true => n :: yh4 r | false => yh4 r
def zjt : List (Nat × Ob) -> Bool
 | [] => true
 | (n, _) :: r => match ze6 n with | true => zjt r | false => false
def znx (L : zab) (ice : List Nat) : Nat -> List AV -> List (Nat × Ob) -> Option (List AV × List (Nat × Ob))
 | _, [], O => some ([], O)
 | d, .slc id sz off n cap :: r, O => match za1 O id, zb6 ice id, za1 O d, ze6 d with
   | some (.row ty sz' _ get), false, none, false => match cond (zba 0 sz) (zae sz sz') false with
     | true => match znx L ice (d + 1) r ((d, .row ty sz (L2 L Nat.add off n) get) :: (id, .gone) :: O) with
       | some (vs, O') => some (.sl d sz off n :: vs, O')
       | none => none
     | false => none
   | _, _, _, _ => none
 | d, v :: r, O => match znx L ice d r O with
   | some (vs, O') => some (v :: vs, O')
   | none => none
section
variable (T : TT) (L : zab) (S : zl9) (lo lb : Nat -> St -> Option Ann)
def yfl (rts : List AV) (O1 : List (Nat × Ob)) (rs : List ResultVar) (s : St) : zbd :=
 match ztl T s rs with
 | some vs => match zae (zcn vs) (zcn rts) with
   | true => match znx L s.ice 600010 vs s.objs with
     | some (vs, O) => zrf ⟨zrb 0 vs, O, s.ice, []⟩ ⟨zrb 0 rts, O1, [], []⟩ (yh4 O1) .yes
     | none => .fail 265
   | false => .fail 263
 | none => .fail 264
def finM (rts : List AV) (O1 : List (Nat × Ob)) (rs : List ResultVar) : K := fun e s => match e with
 | .normal => yfl T L rts O1 rs s
 | .ret => yfl T L rts O1 rs s
 | _ => .fail 262
def ygv (n : Nat) (f : Func) (xs : List AV) (O : List (Nat × Ob)) (rts : List AV) (O1 : List (Nat × Ob)) : zbd :=
 match f.body with
 | some c => run T L S lo (zj5 lb (pass T L S lo lb n)) noL c ⟨zrb 0 xs, O, [], []⟩ (finM T L rts O1 f.results.toList)
 | none => .fail 270
end
def ztm : List AV -> AV
 | [r] => r
 | rs => .tup rs
theorem zjs : ∀ {O : List (Nat × Ob)}, zjt O = true -> ∀ n, za1 O n ≠ none -> ze6 n = true
 | [], _, n, h => by simp [za1] at h
 | (m, o) :: r, e, n, h => by
   unfold zjt at e
   unfold za1 at h
   split at e
   · rename_i hp
     split at h
     · rename_i hb; rw [<- za3 hb]; exact hp
     · exact zjs e n h
   · cases e
section
variable {P : Program} {T : TT} {base : Nat} {M : Two} {W : World} {nt : Nat} {f : Nat -> Option AV} {g : Nat -> Option Ob} {c : Nat -> Bool} {a : Act} {w : World} {D : Nat -> Prop} {μ : Mu} {o : Oper}
theorem Sim.rename (h : Sim base M W nt f g c a w D μ) {d id b z m k ty sz : Nat} {get get' : Nat -> Nat -> AV} (hp : ze6 d = false) (hd : g d = none) (hμ : μ id = some (some (b, z, m))) (hg : g id = some (.row ty sz m get)) (hc : c id = false)
   (hz : k * sz <= z) (hs : 0 < sz) (hget : ∀ i j, i < k -> j < sz -> (i < m /\ get' i j = get i j) \/ get' i j = .dead) :
   Sim base M W nt f (zao g [(d, .row ty sz k get'), (id, .gone)]) c a w D (fun i => if i = d then some (some (b, z, k)) else μ i) := by
 have hdid : d ≠ id := by rintro rfl; rw [hd] at hg; cases hg
 obtain ⟨_, C, tt, fr, hh, hcs, hf, hle, hrow⟩ := h.obs id _ _ hg hμ
 obtain ⟨hblt, hbb⟩ := h.own id b _ hμ
 have hnD := (h.kd id b _ _ hμ hg (by simp)).2 hc
 have hfree : ∀ i o2 z2, μ i = some (some (b, z2)) -> zao g [(id, .gone)] i = some o2 -> o2 = .gone := by
   intro i o2 z2 k1 k2
   by_cases k3 : id = i
   · subst k3
     simp [zao, za1, za4] at k2
     exact k2.symm
   · simp [zao, za1, za9 k3] at k2
     by_cases k4 : o2 = .gone
     · exact k4
     · exact absurd (h.inj id i b _ z2 _ o2 hμ k1 hg k2 (by simp) k4) k3
 have hgone := h.gone hg
 have hd2 : zao g [(id, .gone)] d = none := by simp [zao, za1, za9 (fun x => hdid x.symm : ¬ id = d), hd]
 have had := hgone.adopt (d := d) hp hd2 (b := b) (z := z) (m := k) hblt hbb hnD hfree (ob := .row ty sz k get') (by simp) C (fun hD => by
   rw [setRow_self w b C tt fr hh]
   refine ⟨rfl, C, tt, fr, hh, hcs, hf, hz, fun i j hi hj => ?_⟩
   have hlt : i * sz + j < C.size := by
     have h3 : (i + 1) * sz <= k * sz := Nat.mul_le_mul_right _ hi
     rw [Nat.add_mul] at h3
     omega
   rcases hget i j hi hj with ⟨him, e⟩ | e
   · rw [e]; exact hrow i j him hj
   · rw [e]
     exact ⟨_, getD_some hlt, hf.2.2.1 _ _ (getD_some hlt), .dead _⟩)
 rw [setRow_self w b C tt fr hh] at had
 have e2 : zao (zao g [(id, .gone)]) [(d, .row ty sz k get')] = zao g [(d, .row ty sz k get'), (id, .gone)] := by
   funext q
   simp only [zao, za1]
   by_cases k1 : d = q
   · subst k1; simp [za4]
   · by_cases k2 : id = q
     · subst k2; simp [za4, za9 hdid]
     · simp [za9 k1, za9 k2]
 rw [e2] at had
 exact had
theorem Sim.renameNil (h : Sim base M W nt f g c a w D μ) {d id m ty sz : Nat} {get get' : Nat -> Nat -> AV} (hp : ze6 d = false) (hd : g d = none) (hμ : μ id = some none) (hg : g id = some (.row ty sz m get)) :
   Sim base M W nt f (zao g [(d, .row ty sz 0 get'), (id, .gone)]) c a w D (fun i => if i = d then some none else μ i) := by
 have hdid : d ≠ id := by rintro rfl; rw [hd] at hg; cases hg
 have hgone := h.gone hg
 have hd2 : zao g [(id, .gone)] d = none := by simp [zao, za1, za9 (fun x => hdid x.symm : ¬ id = d), hd]
 have had := hgone.newNil (d := d) hp hd2 ty sz get'
 have e2 : zao (zao g [(id, .gone)]) [(d, .row ty sz 0 get')] = zao g [(d, .row ty sz 0 get'), (id, .gone)] := by
   funext q
   simp only [zao, za1]
   by_cases k1 : d = q
   · subst k1; simp [za4]
   · by_cases k2 : id = q
     · subst k2; simp [za4, za9 hdid]
     · simp [za9 k1, za9 k2]
 rw [e2] at had
 exact had
theorem zvi {d : Nat} {y : Option (Nat × Nat × Nat)} (hd : μ d = none) : ∀ i x, μ i = some x -> (if i = d then some y else μ i) = some x := by
 intro i x hx
 have : i ≠ d := by rintro rfl; rw [hd] at hx; cases hx
 rw [if_neg this, hx]
theorem yib (O : List (Nat × Ob)) (p : Nat × Ob) (q : Nat × Ob) : za1 (p :: q :: O) = zao (za1 O) [p, q] := by
 funext i
 obtain ⟨p, x⟩ := p
 obtain ⟨q, y⟩ := q
 simp only [zao, za1]
 cases zae p i with
 | true => rfl
 | false => cases zae q i <;> rfl
theorem yhu (h : Sim base M W nt f g c a w D μ) {d id ty sz m off n cap : Nat} {get : Nat -> Nat -> AV} {v : Value} (hp : ze6 d = false) (hd : g d = none) (hg : g id = some (.row ty sz m get)) (hc : c id = false) (hs : 0 < sz) (r : R w.heap D μ (.slc id sz off n cap) v) :
   ∃ μ', Sim base M W nt f (zao g [(d, .row ty sz (off + n) get), (id, .gone)]) c a w D μ' /\ (∀ i y, μ i = some y -> μ' i = some y) /\ R w.heap D μ' (.sl d sz off n) v := by
 have hmd : μ d = none := (h.dom d).2 hd
 cases r with
 | slcv _ _ ad hm =>
   exact ⟨_, h.renameNil hp hd hm hg, zvi hmd, .slv _ _ _ (by simp)⟩
 | slc0 _ _ _ b z mm o hm ho =>
   have hmm := (h.obs id _ _ hg hm).1
   subst hmm
   obtain ⟨_, C, tt, fr, hh, hcs, hf, hle, hrow⟩ := h.obs id _ _ hg hm
   exact ⟨_, h.rename (k := off + 0) (get' := get) hp hd hm hg hc (Nat.le_trans (Nat.mul_le_mul_right _ ho) hle) hs (fun i j hi hj => .inl ⟨by omega, rfl⟩), zvi hmd, .sl0 _ _ _ b z off o (by simp) (by omega)⟩
 | slc _ _ _ _ _ b z mm hm hn hz ho =>
   have hmm := (h.obs id _ _ hg hm).1
   subst hmm
   exact ⟨_, h.rename (k := off + n) (get' := get) hp hd hm hg hc (Nat.le_trans (Nat.mul_le_mul_right _ (by omega)) hz) hs (fun i j hi hj => .inl ⟨by omega, rfl⟩), zvi hmd, .sl _ _ _ _ b z (off + n) cap (by simp) hn hz (by omega)⟩
theorem zku {ice : List Nat} : ∀ (vs : List AV) (d : Nat) (O : List (Nat × Ob)) (vs' : List AV) (O' : List (Nat × Ob)) (us : Nat -> Value) {μ : Mu}, znx std ice d vs O = some (vs', O') -> Sim base M W nt f (za1 O) (zb6 ice) a w D μ -> (∀ t v, vs[t]? = some v -> R w.heap D μ v (us t)) ->
   ∃ μ', Sim base M W nt f (za1 O') (zb6 ice) a w D μ' /\ vs'.length = vs.length /\ (∀ i y, μ i = some y -> μ' i = some y) /\ ∀ t v, vs'[t]? = some v -> R w.heap D μ' v (us t)
 | [], d, O, vs', O', us, μ, e, h, hr => by cases e; exact ⟨μ, h, rfl, fun _ _ h => h, hr⟩
 | x :: r, d, O, vs', O', us, μ, e, h, hr => by
   have plain : ∀ vs1, znx std ice d r O = some (vs1, O') -> vs' = x :: vs1 -> ∃ μ', Sim base M W nt f (za1 O') (zb6 ice) a w D μ' /\ vs'.length = (x :: r).length /\ (∀ i y, μ i = some y -> μ' i = some y) /\ ∀ t v, vs'[t]? = some v -> R w.heap D μ' v (us t) := by
     rintro vs1 e1 rfl
     obtain ⟨μ2, k1, k2, k3, k4⟩ := zku r d O vs1 O' (fun t => us (t + 1)) e1 h (fun t v hv => hr (t + 1) v hv)
     refine ⟨μ2, k1, by simp [k2], k3, fun t v hv => ?_⟩
     cases t with
     | zero => cases hv; exact (hr 0 _ rfl).mono (fun _ _ => rfl) (fun _ h => h) k3
     | succ t => exact k4 t v hv
   by_cases hx : ∃ id sz off n cap, x = .slc id sz off n cap
   · obtain ⟨id, sz, off, n, cap, rfl⟩ := hx
     simp only [znx] at e
     split at e
     · rename_i ty sz' m get hg hc hd hp
       split at e
       · rename_i hsz
         have hs : zba 0 sz = true := by cases hq : zba 0 sz <;> simp_all
         rw [hs] at hsz
         obtain rfl := za3 hsz
         split at e
         · rename_i vs1 O1 e1
           cases e
           obtain ⟨μ1, h1, h2, h3⟩ := yhu h hp hd hg hc (zc6 hs) (hr 0 _ rfl)
           rw [<- yib] at h1
           obtain ⟨μ2, k1, k2, k3, k4⟩ := zku r (d + 1) _ vs1 _ (fun t => us (t + 1)) e1 h1 (fun t v hv => (hr (t + 1) v hv).mono (fun _ _ => rfl) (fun _ h => h) h2)
           refine ⟨μ2, k1, by simp [k2], fun i y hy => k3 i y (h2 i y hy), fun t v hv => ?_⟩
           cases t with
           | zero => cases hv; exact h3.mono (fun _ _ => rfl) (fun _ h => h) k3
           | succ t => exact k4 t v hv
         · cases e
       · cases e
     · cases e
   · have e' : (match znx std ice d r O with | some (vs, O') => some (x :: vs, O') | none => none) = some (vs', O') := by
       cases x <;> first | exact e | exact absurd ⟨_, _, _, _, _, rfl⟩ hx
     split at e'
     · rename_i vs1 O1 e1
       cases e'
       exact plain vs1 e1 rfl
     · cases e'
end
theorem zrh {P : Program} {T : TT} {Q : AV -> Prop} {fn : Func} {O O1 : List (Nat × Ob)} {rts : List AV} {D : Nat -> Prop} {w : World} {μ : Mu} (hT : zb7 P T) (hD : ∀ b, D b -> b < w.heap.size) (hdom : ∀ n, μ n = none ↔ za1 O n = none)
   (hown : ∀ n b z, μ n = some (some (b, z)) -> b < w.heap.size /\ ¬ D b) (hrb : fn.results.size <= 500000) (hpin : zjt O = true) {nt : Nat} {s : St} {a : Act} {w' : World} {D1 : Nat -> Prop} {μ1 : Mu}
   (S1 : Sim w.heap.size ⟨fun b => ∃ n z, μ n = some (some (b, z)), D, fun n => (μ n).getD none⟩ w nt (za1 s.slots) (za1 s.objs) (zb6 s.ice) a w' D1 μ1)
   (h' : Sat P Q (yfl T std rts O1 fn.results.toList s)) : a.defers = [] /\ ∃ v, (results fn a.tmps).run P w' = .ok v w' /\ ∃ v' D' μ', ydb D w μ O O1 (ztm rts) (Ending.returned v) v' w' D' μ' := by
 unfold yfl at h'
 split at h'
 · rename_i vs1 hvs
   split at h'
   · rename_i hlen
     have hlen := za3 hlen
     rw [za8, za8] at hlen
     obtain ⟨l1, us, h1, h2⟩ := zne S1 hT hvs
     split at h'
     rotate_left
     · cases h'
     rename_i vs2 O2 hhide
     obtain ⟨μ3, S3, l3, _, h4⟩ := zku vs1 600010 s.objs vs2 O2 us hhide S1 h2
     have l1 : vs2.length = fn.results.toList.length := l3.trans l1
     have hlen : vs2.length = rts.length := l3.trans hlen
     clear h2
     have h2 := h4
     have hres := zhr (P := P) (w := w') (fn := fn) (tmps := a.tmps) h1
     have hk : vs2.length = fn.results.size := by rw [l1, Array.length_toList]
     have hut : ∀ t, t < fn.results.size -> (((List.range fn.results.size).map us).toArray).getD t undef = us t := by
       intro t ht
       rw [Array.getD_eq_getD_getElem?]
       simp [ht]
     have hs1 : zin w.heap.size ⟨fun b => ∃ n z, μ n = some (some (b, z)), D, fun n => (μ n).getD none⟩ w fn.results.size ⟨zrb 0 vs2, O2, s.ice, []⟩ ⟨((List.range fn.results.size).map us).toArray, []⟩ w' :=
       ⟨⟨D1, μ3, {
         os := S1.os, tape := S1.tape, output := S1.output, size := S1.size, bs := S1.bs, old := S1.old, defers := rfl
         tmps := by simp
         slots := fun t v hv => by
           have hv : za1 (zrb 0 vs2) t = some v := hv
           rw [zdu, if_pos (by omega), Nat.sub_zero] at hv
           have ht := (List.getElem?_eq_some_iff.1 hv).1
           rw [hut t (by omega)]
           exact h2 t v hv
         dlt := S3.dlt, low := S3.low, dom := S3.dom, obs := S3.obs, inj := S3.inj, own := S3.own, kd := S3.kd, icy := S3.icy, ntb := hrb, pin := S3.pin, gl := S3.gl }⟩, fun t b ht => by simp [za1] at ht⟩
     obtain ⟨⟨⟨D2, μ2, S2⟩, _⟩, _⟩ := zuk hs1 h' rfl
     refine ⟨S1.defers, _, hres, (if fn.results.size = 1 then us 0 else .tuple ((List.range fn.results.size).map us).toArray), fun b => D b \/ D2 b, μ2, ?_⟩
     exact {
       ret := rfl, os := S2.os, tape := S2.tape, output := S2.output, size := S2.size
       old := fun b h1 h2 => S2.old b h1 fun ⟨n, z, hn⟩ => h2 n z hn
       up := fun b hb => .inl hb
       dn := fun b hb => by
         rcases hb with hb | hb
         · exact .inl hb
         · by_cases hlt : b < w.heap.size
           · rcases S2.low b hb hlt with q | q
             · exact .inl q
             · exact .inr (.inr q)
           · exact .inr (.inl ⟨by omega, S2.dlt b hb⟩)
       dom := S2.dom
       obs := fun n o x ho hx => (S2.obs n o x ho hx).mono (fun _ _ => rfl) (fun _ h => .inr h) (fun _ _ h => h) (fun _ _ _ _ => rfl)
       inj := fun n n' b z z' h1 h2 => by
         have g1 : za1 O1 n ≠ none := fun e => by rw [(S2.dom n).2 e] at h1; cases h1
         have g2 : za1 O1 n' ≠ none := fun e => by rw [(S2.dom n').2 e] at h2; cases h2
         obtain ⟨o1, q1⟩ := Option.ne_none_iff_exists'.1 g1
         obtain ⟨o2, q2⟩ := Option.ne_none_iff_exists'.1 g2
         exact S2.inj n n' b z z' o1 o2 h1 h2 q1 q2 (zhz hs1 h' n o1 q1) (zhz hs1 h' n' o2 q2)
       own := fun n b z h1 => by
         have g1 : za1 O1 n ≠ none := fun e => by rw [(S2.dom n).2 e] at h1; cases h1
         obtain ⟨o1, q1⟩ := Option.ne_none_iff_exists'.1 g1
         have k := (S2.kd n b z o1 h1 q1 (zhz hs1 h' n o1 q1)).2 rfl
         obtain ⟨p1, p2⟩ := S2.own n b z h1
         refine ⟨p1, ?_, ?_⟩
         · rintro (hb | hb)
           · rcases p2 with p2 | ⟨m, z2, p2⟩
             · have := hD b hb; omega
             · exact (hown m b z2 p2).2 hb
           · exact k hb
         · rcases p2 with p2 | ⟨m, z2, p2⟩
           · exact .inl p2
           · exact .inr ⟨m, z2, p2⟩
       keep := fun n hn hn1 => by
         obtain ⟨y, hy⟩ := Option.ne_none_iff_exists'.1 (fun e => hn1 ((S2.dom n).1 e) : μ2 n ≠ none)
         have := S2.pin n y (zjs hpin n hn) hy
         have h3 : μ n ≠ none := fun e => hn ((hdom n).1 e)
         obtain ⟨y0, hy0⟩ := Option.ne_none_iff_exists'.1 h3
         have h4 : y = (μ n).getD none := this
         rw [hy0] at h4
         rw [hy, hy0, h4]; rfl
       val := by
         have each : ∀ (i : Nat) r, rts[i]? = some r -> R w'.heap (fun b => D b \/ D2 b) μ2 r (us i) := by
           intro i r hr
           have hlt : i < fn.results.size := by
             have := (List.getElem?_eq_some_iff.1 hr).1
             omega
           have := S2.slots i r (by show za1 (zrb 0 rts) i = some r; rw [zdu, if_pos (by omega), Nat.sub_zero]; exact hr)
           have h3 := hut i hlt
           have this : R w'.heap D2 μ2 r ((((List.range fn.results.size).map us).toArray).getD i undef) := this
           rw [h3] at this
           exact this.mono (fun _ _ => rfl) (fun _ h => .inr h) (fun _ _ h => h)
         unfold ztm
         split
         · rename_i r
           have hsz : fn.results.size = 1 := by rw [<- hk, hlen]; rfl
           rw [if_pos hsz]
           exact each 0 _ rfl
         · rename_i hne
           have hsz : ¬ fn.results.size = 1 := by
             rw [<- hk, hlen]
             intro h1
             obtain ⟨v, hv⟩ := List.length_eq_one_iff.1 h1
             exact hne v hv
           rw [if_neg hsz]
           refine .tup _ _ (by simp; omega) fun i v x hv hx => ?_
           have hlt : i < fn.results.size := by
             have := (List.getElem?_eq_some_iff.1 hv).1
             omega
           simp [hlt] at hx
           subst hx
           exact each i v hv }
   · cases h'
 · cases h'
theorem zum {P : Program} {T : TT} {S : zl9} {lo lb : Nat -> St -> Option Ann} {n : Nat} {f : FuncId} {fn : Func} {c : Code} {xs : List AV} {O : List (Nat × Ob)} {rts : List AV} {O1 : List (Nat × Ob)} (hf : P.funcs[f]? = some fn) (hb : fn.body = some c) (hn : (fn.name == "runtime.NumGoroutine") = false)
   (hc : zbc fn.ntmps c = true) (hx : (zb8 xs.length fn.ntmps && zb8 fn.ntmps 500000 && zb8 fn.results.size 500000 && zjt O) = true) (hT : zb7 P T) (hS : zd3 P S) (hm : P.follows .mixedOrders = true) {Q : AV -> Prop} (h : Sat P Q (ygv T std S lo lb n fn xs O rts O1)) : zbe P f xs O (ztm rts) O1 := by
 intro D w μ vs hD hxs hdom hobs hinj hown hg hgb
 rw [Bool.and_eq_true, Bool.and_eq_true, Bool.and_eq_true] at hx
 obtain ⟨⟨⟨hx, hnb⟩, hrb⟩, hpin⟩ := hx
 have hx := zb0 hx
 have hnb := zb0 hnb
 have hrb := zb0 hrb
 unfold zer
 rw [zbu hf hn hb]
 simp only
 refine calls_of_wp hf hb ?_
 unfold ygv at h
 rw [hb] at h
 refine zvm (base := w.heap.size) (M := ⟨fun b => ∃ n z, μ n = some (some (b, z)), D, fun n => (μ n).getD none⟩) (W := w) hT hS hm hc ⟨⟨D, μ, ?_⟩, fun t b ht => by simp [za1] at ht⟩ h (fun e s a w' hs h' => ?_)
 · exact {
     os := rfl, tape := rfl, output := rfl, size := Nat.le_refl _, bs := Nat.le_refl _, old := fun _ _ _ => rfl, defers := rfl
     tmps := by
       rw [hxs.1] at hx
       simp; omega
     slots := fun t v hv => by
       have hv : za1 (zrb 0 xs) t = some v := hv
       rw [zdu, if_pos (by omega), Nat.sub_zero] at hv
       have hlt : t < vs.size := by rw [<- hxs.1]; exact (List.getElem?_eq_some_iff.1 hv).1
       have h1 : vs[t]? = some vs[t] := by simp [hlt]
       have h2 : (vs ++ Array.replicate (fn.ntmps - vs.size) undef).getD t undef = vs[t] := by
         rw [Array.getD_eq_getD_getElem?, Array.getElem?_append_left hlt, h1]; rfl
       rw [h2]
       exact hxs.2 t v vs[t] hv h1
     dlt := hD, low := fun b hb _ => .inl hb, dom := hdom, obs := hobs
     inj := fun id id' b z z' o o' h1 h2 _ _ _ _ => hinj id id' b z z' h1 h2
     own := fun id b z h1 => ⟨(hown id b z h1).1, .inr ⟨id, z, h1⟩⟩
     kd := fun id b z o h1 _ _ => ⟨fun hx => by simp [zb6] at hx, fun _ => (hown id b z h1).2⟩
     icy := fun id h => by simp [zb6] at h
     ntb := hnb
     pin := fun id y _ hy => by show y = (μ id).getD none; rw [hy]; rfl
     gl := ⟨hg, zqc hg, fun b ⟨n, z, hn⟩ => hgb n b z hn⟩ }
 · obtain ⟨⟨D1, μ1, S1⟩, _⟩ := hs
   have key : Sat P Q (yfl T std rts O1 fn.results.toList s) -> a.defers = [] /\ ∃ v, (results fn a.tmps).run P w' = .ok v w' /\ ∃ v' D' μ', ydb D w μ O O1 (ztm rts) (Ending.returned v) v' w' D' μ' := fun h' => zrh hT hD hdom hown hrb hpin S1 h'
   cases e with
   | normal => exact key h'
   | ret => exact key h'
   | exit id => cases h'
   | goto l => cases h'
end Sy
end Go.Proofs.Ytlphgephdhadhaa
namespace Go.Proofs.Ytlphgephdhadhaa
namespace Sy
open Go Go.RowKit
set_option maxRecDepth 100000
set_option linter.unusedSimpArgs false
section
variable {P : Program} {Q : AV -> Prop}
theorem zxf {b : Bool} {k : zbd} : Sat P Q (.need b k) ↔ b = true /\ Sat P Q k := ⟨fun h => by cases h with | need h hk => exact ⟨h, hk⟩, fun h => .need h.1 h.2⟩
theorem zxg {p : Prop} {k : zbd} : Sat P Q (.must p k) ↔ p /\ Sat P Q k := ⟨fun h => by cases h with | must h hk => exact ⟨h, hk⟩, fun h => .must h.1 h.2⟩
theorem yb4 {b : Bool} {t e : zbd} : Sat P Q (.ite b t e) ↔ (b = true -> Sat P Q t) /\ (b = false -> Sat P Q e) := ⟨fun h => by cases h with | ite h hk => exact ⟨h, hk⟩, fun h => .ite h.1 h.2⟩
theorem zxi {r : AV} : Sat P Q (.done r) ↔ Q r := ⟨fun h => by cases h with | done h => exact h, fun h => .done h⟩
theorem yb2 : Sat P Q .yes ↔ True := ⟨fun _ => trivial, fun _ => .yes⟩
theorem ye3 {X : Type} {f : X -> zbd} : Sat P Q (.ex X f) ↔ ∃ x, Sat P Q (f x) := ⟨fun h => by cases h with | ex x h => exact ⟨x, h⟩, fun ⟨x, h⟩ => .ex x h⟩
theorem yb6 {X : Type} {f : X -> zbd} : Sat P Q (.all X f) ↔ ∀ x, Sat P Q (f x) := ⟨fun h => by cases h with | all h => exact h, fun h => .all h⟩
theorem yb3 {p : Prop} {k : zbd} : Sat P Q (.sup p k) ↔ (p -> Sat P Q k) := ⟨fun h => by cases h with | sup h => exact h, fun h => .sup h⟩
theorem yb5 {a b : zbd} : Sat P Q (.and a b) ↔ Sat P Q a /\ Sat P Q b := ⟨fun h => by cases h with | and h hk => exact ⟨h, hk⟩, fun h => .and h.1 h.2⟩
theorem zxh {n : Nat} : Sat P Q (.fail n) ↔ False := ⟨fun h => (by cases h), fun h => h.elim⟩
set_option linter.defProp false in
def syT := And.intro @zxf (And.intro @zxg (And.intro @yb4 (And.intro @zxi (And.intro @yb2 (And.intro @ye3 (And.intro @yb6 (And.intro @yb3 (And.intro @yb5 (@zxh)))))))))
end
theorem za6 {P : Program} {T : TT} {S : zab -> zl9} {lo lb : zab -> Nat -> St -> Option Ann} (n : Nat) {f : FuncId} {fn : Func} {c : Code} {xs : List AV} {r : AV} (hf : P.funcs[f]? = some fn) (hb : fn.body = some c) (hn : (fn.name == "runtime.NumGoroutine") = false)
   (hc : zbc fn.ntmps c = true) (hx : (zb8 xs.length fn.ntmps && zb8 fn.ntmps 500000) = true) (hT : zb7 P T) (hS : zd3 P (S std)) (hm : P.follows .mixedOrders = true)
   (h : ∀ (L : zab) (P' : Program) (Q' : AV -> Prop), @L = @std -> P' = P -> Q' = ziw r -> Sat P' Q' (ygw T L (S L) (lo L) (lb L) n fn xs)) : zbf P f xs r :=
 zwf (lo := lo std) (lb := lb std) hf hb hn hc hx hT hS hm (h std _ _ rfl rfl rfl)
theorem zaz {P : Program} {T : TT} {S : zab -> zl9} {lo lb : zab -> Nat -> St -> Option Ann} (n : Nat) {f : FuncId} {fn : Func} {c : Code} {xs rts : zab -> List AV} {O O1 : zab -> List (Nat × Ob)} (hf : P.funcs[f]? = some fn) (hb : fn.body = some c) (hn : (fn.name == "runtime.NumGoroutine") = false)
   (hc : zbc fn.ntmps c = true) (hx : (zb8 (xs std).length fn.ntmps && zb8 fn.ntmps 500000 && zb8 fn.results.size 500000 && zjt (O std)) = true) (hT : zb7 P T) (hS : zd3 P (S std)) (hm : P.follows .mixedOrders = true)
   (h : ∀ (L : zab) (P' : Program) (Q' : AV -> Prop), @L = @std -> P' = P -> Q' = (fun _ => True) -> Sat P' Q' (ygv T L (S L) (lo L) (lb L) n fn (xs L) (O L) (rts L) (O1 L))) : zbe P f (xs std) (O std) (ztm (rts std)) (O1 std) :=
 zum (lo := lo std) (lb := lb std) hf hb hn hc hx hT hS hm (h std _ _ rfl rfl rfl)
def noS : zab -> zl9 := fun _ => ⟨fun _ _ => none, fun _ => none⟩
theorem zef (P : Program) : zd3 P (noS std) := ⟨fun f xs p r h => by (cases h), fun f m h => by cases h⟩
def noA : zab -> Nat -> St -> Option Ann := fun _ _ _ => none
def tt : TT :=
 (.node (.node (.node (.node (.node (.node (.node (.node .leaf 1 ⟨1, false, [.nilf], .func, false, none, false, false⟩
        .leaf) 2 ⟨1, false, [.int .i64 0], .int .i64, false, none, false, false⟩
       .leaf) 3 ⟨1, false, [.int .i64 0], .int .i64, false, none, false, false⟩
      (.node .leaf 4 ⟨1, false, [.bool false], .bool, false, none, false, false⟩
       .leaf)) 5 ⟨1, false, [.int .u8 0], .int .u8, false, none, false, false⟩
     (.node (.node .leaf 6 ⟨1, false, [.int .u8 0], .int .u8, false, none, false, false⟩
       .leaf) 7 ⟨4, true, [.int .i64 0, .int .i64 0, .bool false, .int .u8 0], .struct [(0, 2), (1, 3), (2, 4), (3, 6)], true, none, false, false⟩
      (.node .leaf 8 ⟨4, true, [.int .i64 0, .int .i64 0, .bool false, .int .u8 0], .struct [(0, 2), (1, 3), (2, 4), (3, 6)], true, none, false, false⟩
       .leaf))) 9 ⟨1, false, [.str []], .str, false, none, false, false⟩
    (.node (.node (.node .leaf 10 ⟨1, false, [.str []], .str, false, none, false, false⟩
       .leaf) 11 ⟨1, false, [.str []], .str, false, none, false, false⟩
      (.node .leaf 12 ⟨1, false, [.int .u64 0], .int .u64, false, none, false, false⟩
       .leaf)) 13 ⟨2, true, [.str [], .int .u64 0], .struct [(0, 9), (1, 12)], false, none, false, false⟩
     (.node (.node .leaf 14 ⟨2, true, [.str [], .int .u64 0], .struct [(0, 9), (1, 12)], false, none, false, false⟩
       .leaf) 15 ⟨1, false, [.nilp], .ptr, false, some 138, false, false⟩
      (.node .leaf 16 ⟨1, false, [.nilp], .ptr, false, some 141, false, false⟩
       .leaf)))) 17 ⟨1, false, [.nilp], .ptr, false, some 148, false, false⟩
   (.node (.node (.node (.node (.node .leaf 18 ⟨1, true, [.nilp], .struct [(0, 17)], false, none, false, false⟩
        .leaf) 19 ⟨1, true, [.nilp], .struct [(0, 17)], false, none, false, false⟩
       .leaf) 20 ⟨1, false, [.nili], .iface, false, none, false, false⟩
      (.node .leaf 21 ⟨1, false, [.int .i32 0], .int .i32, false, none, false, false⟩
       .leaf)) 22 ⟨1, false, [.nilf], .func, false, none, false, false⟩
     (.node (.node .leaf 23 ⟨1, false, [.nilp], .ptr, false, some 44, false, false⟩
       .leaf) 24 ⟨1, false, [.nilf], .func, false, none, false, false⟩
      (.node .leaf 25 ⟨1, false, [.nilf], .func, false, none, false, false⟩
       .leaf))) 26 ⟨1, false, [.int .i64 0], .int .i64, false, none, false, false⟩
    (.node (.node (.node .leaf 28 ⟨1, false, [.nilf], .func, false, none, false, false⟩
       .leaf) 29 ⟨1, false, [.nilf], .func, false, none, false, false⟩
      (.node .leaf 30 ⟨1, false, [.nilf], .func, false, none, false, false⟩
       .leaf)) 31 ⟨1, false, [.nilf], .func, false, none, false, false⟩
     (.node (.node .leaf 32 ⟨1, false, [.nils], .slice 9 1 16, false, none, false, false⟩
       .leaf) 33 ⟨1, false, [.nilf], .func, false, none, false, false⟩
      (.node .leaf 34 ⟨1, false, [.nilf], .func, false, none, false, false⟩
       .leaf))))) 35 ⟨1, false, [.nilf], .func, false, none, false, false⟩
  (.node (.node (.node (.node (.node (.node .leaf 37 ⟨1, false, [.nilf], .func, false, none, false, false⟩
        .leaf) 38 ⟨1, false, [.nilf], .func, false, none, false, false⟩
       .leaf) 40 ⟨1, false, [.nilf], .func, false, none, false, false⟩
      (.node .leaf 41 ⟨1, false, [.nilm], .map 9 47, false, none, false, false⟩
       .leaf)) 42 ⟨1, false, [.nils], .slice 49 4 48, false, none, false, false⟩
     (.node (.node .leaf 43 ⟨7, true, [.int .i64 0, .nilm, .nilm, .nils, .int .i64 0, .int .i64 0, .bool false], .struct [(0, 3), (1, 41), (2, 41), (3, 42), (4, 3), (5, 3), (6, 4)], false, none, false, false⟩
       .leaf) 44 ⟨7, true, [.int .i64 0, .nilm, .nilm, .nils, .int .i64 0, .int .i64 0, .bool false], .struct [(0, 3), (1, 41), (2, 41), (3, 42), (4, 3), (5, 3), (6, 4)], false, none, false, false⟩
      (.node .leaf 45 ⟨1, false, [.nils], .slice 4 1 1, false, none, false, false⟩
       .leaf))) 46 ⟨1, false, [.nils], .slice 56 1 8, false, none, false, false⟩
    (.node (.node (.node .leaf 47 ⟨1, false, [.nilp], .ptr, false, some 59, false, false⟩
       .leaf) 48 ⟨4, true, [.int .i64 0, .str [], .str [], .nilp], .struct [(0, 3), (1, 9), (2, 9), (3, 47)], false, none, false, false⟩
      (.node .leaf 49 ⟨4, true, [.int .i64 0, .str [], .str [], .nilp], .struct [(0, 3), (1, 9), (2, 9), (3, 47)], false, none, false, false⟩
       .leaf)) 50 ⟨1, false, [.nilf], .func, false, none, false, false⟩
     (.node (.node .leaf 51 ⟨1, false, [.nilm], .map 47 4, false, none, false, false⟩
       .leaf) 52 ⟨1, false, [.nilf], .func, false, none, false, false⟩
      (.node .leaf 53 ⟨1, false, [.nilf], .func, false, none, false, false⟩
       .leaf)))) 54 ⟨1, false, [.nilf], .func, false, none, false, false⟩
   (.node (.node (.node (.node (.node .leaf 55 ⟨1, false, [.nilf], .func, false, none, false, false⟩
        .leaf) 56 ⟨1, false, [.int .u64 0], .int .u64, false, none, false, false⟩
       .leaf) 57 ⟨1, false, [.nilf], .func, false, none, false, false⟩
      (.node .leaf 58 ⟨2, true, [.str [], .str []], .struct [(0, 9), (1, 9)], true, none, false, false⟩
       .leaf)) 59 ⟨2, true, [.str [], .str []], .struct [(0, 9), (1, 9)], true, none, false, false⟩
     (.node (.node .leaf 60 ⟨1, false, [.nilf], .func, false, none, false, false⟩
       .leaf) 62 ⟨1, false, [.nilf], .func, false, none, false, false⟩
      (.node .leaf 63 ⟨1, false, [.nilf], .func, false, none, false, false⟩
       .leaf))) 65 ⟨1, false, [.nilf], .func, false, none, false, false⟩
    (.node (.node (.node .leaf 66 ⟨1, false, [.nilf], .func, false, none, false, false⟩
       .leaf) 67 ⟨1, false, [.nilf], .func, false, none, false, false⟩
      (.node .leaf 69 ⟨1, false, [.nilf], .func, false, none, false, false⟩
       .leaf)) 70 ⟨1, false, [.nilf], .func, false, none, false, false⟩
     (.node (.node .leaf 71 ⟨1, false, [.int .u64 0], .int .u64, false, none, false, false⟩
       .leaf) 72 ⟨1, false, [.nils], .slice 5 1 1, false, none, false, false⟩
      (.node .leaf 73 ⟨1, false, [.nilf], .func, false, none, false, false⟩
       .leaf)))))) 74 ⟨32, true, [.int .u8 0, .int .u8 0, .int .u8 0, .int .u8 0, .int .u8 0, .int .u8 0, .int .u8 0, .int .u8 0, .int .u8 0, .int .u8 0, .int .u8 0, .int .u8 0, .int .u8 0, .int .u8 0, .int .u8 0, .int .u8 0, .int .u8 0, .int .u8 0, .int .u8 0, .int .u8 0, .int .u8 0, .int .u8 0, .int .u8 0, .int .u8 0, .int .u8 0, .int .u8 0, .int .u8 0, .int .u8 0, .int .u8 0, .int .u8 0, .int .u8 0, .int .u8 0], .arr 32 5 1, true, none, false, false⟩
 (.node (.node (.node (.node (.node (.node (.node .leaf 75 ⟨32, true, [.int .u8 0, .int .u8 0, .int .u8 0, .int .u8 0, .int .u8 0, .int .u8 0, .int .u8 0, .int .u8 0, .int .u8 0, .int .u8 0, .int .u8 0, .int .u8 0, .int .u8 0, .int .u8 0, .int .u8 0, .int .u8 0, .int .u8 0, .int .u8 0, .int .u8 0, .int .u8 0, .int .u8 0, .int .u8 0, .int .u8 0, .int .u8 0, .int .u8 0, .int .u8 0, .int .u8 0, .int .u8 0, .int .u8 0, .int .u8 0, .int .u8 0, .int .u8 0], .arr 32 5 1, true, none, false, false⟩
        .leaf) 76 ⟨1, false, [.nilf], .func, false, none, false, false⟩
       .leaf) 77 ⟨1, false, [.nils], .slice 79 1 4, false, none, false, false⟩
      (.node .leaf 78 ⟨1, false, [.nilf], .func, false, none, false, false⟩
       .leaf)) 79 ⟨1, false, [.int .u32 0], .int .u32, false, none, false, false⟩
     (.node (.node .leaf 80 ⟨1, false, [.nilf], .func, false, none, false, false⟩
       .leaf) 81 ⟨1, false, [.nilf], .func, false, none, false, false⟩
      (.node .leaf 82 ⟨1, false, [.nilf], .func, false, none, false, false⟩
       .leaf))) 83 ⟨1, false, [.nilf], .func, false, none, false, false⟩
    (.node (.node (.node .leaf 84 ⟨1, false, [.nilp], .ptr, false, some 5, false, false⟩
       .leaf) 85 ⟨1, false, [.nilf], .func, false, none, false, false⟩
      (.node .leaf 86 ⟨1, false, [.nilf], .func, false, none, false, false⟩
       .leaf)) 87 ⟨8, true, [.int .u32 0, .int .u32 0, .int .u32 0, .int .u32 0, .int .u32 0, .int .u32 0, .int .u32 0, .int .u32 0], .arr 8 79 1, true, none, false, false⟩
     (.node (.node .leaf 88 ⟨1, false, [.nilf], .func, false, none, false, false⟩
       .leaf) 89 ⟨64, true, [.int .u32 0, .int .u32 0, .int .u32 0, .int .u32 0, .int .u32 0, .int .u32 0, .int .u32 0, .int .u32 0, .int .u32 0, .int .u32 0, .int .u32 0, .int .u32 0, .int .u32 0, .int .u32 0, .int .u32 0, .int .u32 0, .int .u32 0, .int .u32 0, .int .u32 0, .int .u32 0, .int .u32 0, .int .u32 0, .int .u32 0, .int .u32 0, .int .u32 0, .int .u32 0, .int .u32 0, .int .u32 0, .int .u32 0, .int .u32 0, .int .u32 0, .int .u32 0, .int .u32 0, .int .u32 0, .int .u32 0, .int .u32 0, .int .u32 0, .int .u32 0, .int .u32 0, .int .u32 0, .int .u32 0, .int .u32 0, .int .u32 0, .int .u32 0, .int .u32 0, .int .u32 0, .int .u32 0, .int .u32 0, .int .u32 0, .int .u32 0, .int .u32 0, .int .u32 0, .int .u32 0, .int .u32 0, .int .u32 0, .int .u32 0, .int .u32 0, .int .u32 0, .int .u32 0, .int .u32 0, .int .u32 0, .int .u32 0, .int .u32 0, .int .u32 0], .arr 64 79 1, true, none, false, false⟩
      (.node .leaf 90 ⟨1, false, [.nilf], .func, false, none, false, false⟩
       .leaf)))) 91 ⟨1, false, [.nilf], .func, false, none, false, false⟩
   (.node (.node (.node (.node (.node .leaf 92 ⟨1, false, [.nilp], .ptr, false, some 89, false, false⟩
        .leaf) 93 ⟨1, false, [.nilf], .func, false, none, false, false⟩
       .leaf) 94 ⟨1, false, [.int .i64 0], .int .i64, false, none, false, false⟩
      (.node .leaf 96 ⟨1, false, [.nilf], .func, false, none, false, false⟩
       .leaf)) 97 ⟨1, false, [.nilf], .func, false, none, false, false⟩
     (.node (.node .leaf 98 ⟨1, false, [.nilf], .func, false, none, false, false⟩
       .leaf) 100 ⟨1, false, [.nilf], .func, false, none, false, false⟩
      (.node .leaf 101 ⟨1, false, [.nilf], .func, false, none, false, false⟩
       .leaf))) 102 ⟨1, false, [.nilf], .func, false, none, false, false⟩
    (.node (.node (.node .leaf 103 ⟨1, false, [.nilf], .func, false, none, false, false⟩
       .leaf) 104 ⟨1, false, [.nilp], .ptr, false, some 106, false, false⟩
      (.node .leaf 105 ⟨2, true, [.nilp, .nils], .struct [(0, 104), (1, 72)], false, none, false, false⟩
       .leaf)) 106 ⟨2, true, [.nilp, .nils], .struct [(0, 104), (1, 72)], false, none, false, true⟩
     (.node (.node .leaf 107 ⟨1, false, [.nili], .iface, false, none, false, false⟩
       .leaf) 108 ⟨1, false, [.nili], .iface, false, none, false, false⟩
      (.node .leaf 110 ⟨1, false, [.nilf], .func, false, none, false, false⟩
       .leaf))))) 111 ⟨1, false, [.nilf], .func, false, none, false, false⟩
  (.node (.node (.node (.node (.node (.node .leaf 112 ⟨8, true, [.int .u64 0, .int .u64 0, .int .u64 0, .int .u64 0, .int .u64 0, .int .u64 0, .int .u64 0, .int .u64 0], .arr 8 56 1, true, none, false, false⟩
        .leaf) 113 ⟨1, false, [.nilf], .func, false, none, false, false⟩
       .leaf) 114 ⟨1, false, [.nilf], .func, false, none, false, false⟩
      (.node .leaf 116 ⟨1, false, [.nilf], .func, false, none, false, false⟩
       .leaf)) 117 ⟨1, false, [.nilf], .func, false, none, false, false⟩
     (.node (.node .leaf 118 ⟨1, false, [.int .u64 0], .int .u64, false, none, false, false⟩
       .leaf) 119 ⟨1, false, [.nilf], .func, false, none, false, false⟩
      (.node .leaf 120 ⟨1, false, [.nilf], .func, false, none, false, false⟩
       .leaf))) 121 ⟨1, false, [.nilf], .func, false, none, false, false⟩
    (.node (.node (.node .leaf 122 ⟨1, false, [.nilp], .ptr, false, some 3, false, false⟩
       .leaf) 123 ⟨1, false, [.nilf], .func, false, none, false, false⟩
      (.node .leaf 125 ⟨1, false, [.nilf], .func, false, none, false, false⟩
       .leaf)) 126 ⟨1, false, [.nilf], .func, false, none, false, false⟩
     (.node (.node .leaf 127 ⟨1, false, [.nilp], .ptr, false, some 118, false, false⟩
       .leaf) 129 ⟨1, false, [.nilf], .func, false, none, false, false⟩
      (.node .leaf 131 ⟨1, false, [.nilf], .func, false, none, false, false⟩
       .leaf)))) 133 ⟨1, false, [.nilf], .func, false, none, false, false⟩
   (.node (.node (.node (.node .leaf 134 ⟨1, false, [.nilp], .other, false, none, true, false⟩
       .leaf) 135 ⟨1, false, [.nilf], .func, false, none, false, false⟩
      (.node .leaf 136 ⟨1, false, [.nilf], .func, false, none, false, false⟩
       .leaf)) 137 ⟨4, true, [.nilp, .nilp, .nilp, .str []], .struct [(0, 17), (1, 17), (2, 17), (3, 9)], false, none, false, false⟩
     (.node (.node .leaf 138 ⟨4, true, [.nilp, .nilp, .nilp, .str []], .struct [(0, 17), (1, 17), (2, 17), (3, 9)], false, none, false, false⟩
       .leaf) 139 ⟨0, true, [], .arr 0 16 1, false, none, false, false⟩
      (.node .leaf 140 ⟨0, true, [], .struct [(0, 139)], false, none, false, false⟩
       .leaf))) 141 ⟨0, true, [], .struct [(0, 139)], false, none, false, false⟩
    (.node (.node (.node .leaf 142 ⟨1, false, [.int .u8 0], .int .u8, false, none, false, false⟩
       .leaf) 143 ⟨1, false, [.int .u8 0], .int .u8, false, none, false, false⟩
      (.node .leaf 144 ⟨1, false, [.nilf], .func, false, none, false, false⟩
       .leaf)) 145 ⟨1, false, [.int .i32 0], .int .i32, false, none, false, false⟩
     (.node (.node .leaf 146 ⟨1, false, [.int .i32 0], .int .i32, false, none, false, false⟩
       .leaf) 147 ⟨11, true, [.int .u64 0, .int .u64 0, .int .u32 0, .int .u8 0, .int .u8 0, .int .u8 0, .int .u8 0, .nilf, .nilp, .int .i32 0, .int .i32 0], .struct [(0, 12), (1, 12), (2, 79), (3, 142), (4, 5), (5, 5), (6, 143), (7, 144), (8, 84), (9, 145), (10, 146)], false, none, false, false⟩
      (.node .leaf 148 ⟨11, true, [.int .u64 0, .int .u64 0, .int .u32 0, .int .u8 0, .int .u8 0, .int .u8 0, .int .u8 0, .nilf, .nilp, .int .i32 0, .int .i32 0], .struct [(0, 12), (1, 12), (2, 79), (3, 142), (4, 5), (5, 5), (6, 143), (7, 144), (8, 84), (9, 145), (10, 146)], false, none, false, false⟩
       .leaf)))))))
theorem zaj : zb7 Try.prog tt := yal (by kernel_rfl)
end Sy
end Go.Proofs.Ytlphgephdhadhaa
namespace Go.Proofs.Ytlphgephdhadhaa
open Go.RowKit Go.WideShapes Go.ChangeShapes Go.ChangeAt
def zij (b : UInt8) : Value := .int .u8 (b.toNat : Int)
def str (l : List UInt8) : Value := .string ⟨l.toArray⟩
theorem zfe (n : Nat) : zij (UInt8.ofNat n) = .int .u8 ((n : Int) % 256) := by
 have h : (((UInt8.ofNat n).toNat : Nat) : Int) = (n : Int) % 256 := by
   rw [UInt8.toNat_ofNat']; omega
 unfold zij; rw [h]
@[go_sem] theorem ba_get (l : List UInt8) (k : Nat) (h : k < (⟨l.toArray⟩ : ByteArray).size) : (⟨l.toArray⟩ : ByteArray)[k] = l[k]'h := rfl
@[go_sem] theorem ba_append (a b : List UInt8) : (⟨a.toArray⟩ : ByteArray) ++ ⟨b.toArray⟩ = ⟨(a ++ b).toArray⟩ := by
 apply ByteArray.ext; simp
theorem zg8 (l : List UInt8) (a b : Nat) : (⟨l.toArray⟩ : ByteArray).extract a b = ⟨((l.drop a).take (b - a)).toArray⟩ := by
 apply ByteArray.ext; simp [ByteArray.data_extract]
@[go_sem] theorem ba_extract_all (l : List UInt8) (a : Nat) : (⟨l.toArray⟩ : ByteArray).extract a l.length = ⟨(l.drop a).toArray⟩ := by
 rw [zg8, List.take_of_length_le (by simp)]
@[go_sem] theorem ba_extract_zero (l : List UInt8) (b : Nat) : (⟨l.toArray⟩ : ByteArray).extract 0 b = ⟨(l.take b).toArray⟩ := by
 rw [zg8, List.drop_zero, Nat.sub_zero]
@[go_sem] theorem wrap_byte_u64 (b : UInt8) : IntKind.u64.wrap (b.toNat : Int) = b.toNat := by
 have := b.toNat_lt; rw [IntKind.wrap_u64]; omega
@[go_sem] theorem wrap_byte_u32 (b : UInt8) : IntKind.u32.wrap (b.toNat : Int) = b.toNat := by
 have := b.toNat_lt; rw [IntKind.wrap_u32]; omega
@[go_sem] theorem wrap_byte_u16 (b : UInt8) : IntKind.u16.wrap (b.toNat : Int) = b.toNat := by
 have := b.toNat_lt; rw [IntKind.wrap_u16]; omega
@[go_sem] theorem wrap_byte_u8 (b : UInt8) : IntKind.u8.wrap (b.toNat : Int) = b.toNat := by
 have := b.toNat_lt; rw [IntKind.wrap_u8]; omega
@[go_sem] theorem wrap_byte_i64 (b : UInt8) : IntKind.i64.wrap (b.toNat : Int) = b.toNat := by
 have := b.toNat_lt; rw [IntKind.wrap_i64]; omega
theorem zg9 (g j : Nat) : (⟨g, 0, none⟩ : Addr).add j = ⟨g, j, none⟩ := by
 unfold Addr.add
 split
 · rename_i h; rw [h]
 · rw [Nat.zero_add]
theorem zz9 {P : Program} {w : World} {src dst e : TypeId} {g n cap : Nat} {f : Nat -> Value} (l : List UInt8) (hs : P.underlying src = some (.slice e)) (he : P.underlying e = some (.int .u8)) (hd : P.underlying dst = some .string)
   (hr : w.rowIs g e n f) (hl : l.length = n) (hf : ∀ i (hi : i < l.length), f i = zij l[i]) :
   (convert src dst (.slice (some ⟨g, 0, none⟩) n cap)).run P w = .ok (.string ⟨l.toArray⟩) w := by
 subst hl
 refine run_convert_bytes_back w src dst e _ cap l hs he hd fun j hj => ?_
 have := hr.cell hj
 rw [hf j hj] at this
 rw [zg9]
 exact this
theorem ofNat_toNat (x : Nat) : ((UInt8.ofNat x).toNat : Int) = (x : Int) % 256 := by rw [UInt8.toNat_ofNat']; omega
def Row (w : World) (b : Nat) (t : TypeId) (n : Nat) (f : Nat -> Value) : Prop :=
 ∃ (c : Array Value) (lo hi : Nat), w.heap[b]? = some (.cells c t (lo, hi)) /\ n <= c.size /\ (hi = 0 \/ n <= lo) /\ ∀ i, i < n -> c[i]? = some (f i)
section
variable {w w' : World} {b : Nat} {t : TypeId} {n : Nat} {f g : Nat -> Value}
theorem Row.cell (h : Row w b t n f) {i : Nat} (hi : i < n) : w.cell? ⟨b, i, none⟩ = some (f i) := by
 obtain ⟨c, lo, hi', hb, _, _, hc⟩ := h
 simp [World.cell?, hb, hc i hi]
theorem Row.frozen (h : Row w b t n f) {i : Nat} (hi : i < n) : w.frozen? ⟨b, i, none⟩ = false := by
 obtain ⟨c, lo, hi', hb, _, hf, _⟩ := h
 simp only [World.frozen?, hb]
 rcases hf with hf | hf
 · subst hf; simp
 · simp; omega
theorem Row.lt (h : Row w b t n f) : b < w.heap.size := by
 obtain ⟨c, lo, hi, hb, _⟩ := h
 exact (Array.getElem?_eq_some_iff.1 hb).1
theorem Row.congr (h : Row w b t n f) (e : ∀ i, i < n -> f i = g i) : Row w b t n g := by
 obtain ⟨c, lo, hi, hb, hn, hf, hc⟩ := h
 exact ⟨c, lo, hi, hb, hn, hf, fun i hi => by rw [hc i hi, e i hi]⟩
theorem Row.of_block (h : Row w b t n f) (e : w'.heap[b]? = w.heap[b]?) : Row w' b t n f := by
 obtain ⟨c, lo, hi, hb, hn, hf, hc⟩ := h
 exact ⟨c, lo, hi, e.trans hb, hn, hf, hc⟩
theorem Row.set (h : Row w b t n f) (i : Nat) (v : Value) : Row (w.setCell ⟨b, i, none⟩ v) b t n (fun j => if j = i then v else f j) := by
 obtain ⟨c, lo, hi', hb, hn, hf, hc⟩ := h
 refine ⟨c.setIfInBounds i v, lo, hi', ?_, by simpa using hn, hf, fun j hj => ?_⟩
 · simp [World.setCell, Array.getElem?_modify, hb]
 · rw [Array.getElem?_setIfInBounds]
   by_cases e : i = j
   · subst e
     have : i < c.size := by omega
     simp [this]
   · rw [if_neg e, hc j hj]
     show _ = some (if j = i then v else f j)
     rw [if_neg (fun (h : j = i) => e h.symm)]
theorem Row.alloc (h : Row w b t n f) (o : Obj) : Row (w.alloc o) b t n f := h.of_block (Below.heap_alloc _ _ _ h.lt)
theorem Row.bytes (w : World) (t : TypeId) (l : List UInt8) (cap : Nat) : Row (w.alloc (.cells (bytesRow ⟨l.toArray⟩ cap) t ((bytesRow ⟨l.toArray⟩ cap).size, (bytesRow ⟨l.toArray⟩ cap).size + 1))) w.heap.size t l.length (fun j => zij (l.getD j 0)) := by
 refine ⟨bytesRow ⟨l.toArray⟩ cap, _, _, heap_alloc_new _ _, by simp [bytesRow], .inr (by simp [bytesRow]), fun i hi => ?_⟩
 rw [bytesRow_at _ _ _ (by simpa using hi)]
 simp [zij, hi]
end
def Blk (w : World) (g : Nat) (t : TypeId) (cs : Array Value) : Prop := w.heap[g]? = some (.cells cs t (0, 0))
section
variable {w w' : World} {g : Nat} {t : TypeId} {cs : Array Value}
theorem Blk.lt (h : Blk w g t cs) : g < w.heap.size := by
 rcases Nat.lt_or_ge g w.heap.size with hlt | hge
 · exact hlt
 · unfold Blk at h; rw [Array.getElem?_eq_none hge] at h; cases h
theorem Blk.cell (h : Blk w g t cs) (i : Nat) : w.cell? ⟨g, i, none⟩ = cs[i]? := cell_of_row w g i cs t (0, 0) h
theorem Blk.frozen (h : Blk w g t cs) (i : Nat) : w.frozen? ⟨g, i, none⟩ = false := by
 unfold Blk at h
 simp [World.frozen?, h]
theorem Blk.new (w : World) (t : TypeId) (cs : Array Value) : Blk (w.alloc (.cells cs t)) w.heap.size t cs := heap_alloc_new w _
theorem Blk.drew (h : Blk w g t cs) : Blk w.drew g t cs := h
theorem Blk.alloc (h : Blk w g t cs) (o : Obj) : Blk (w.alloc o) g t cs := (Below.heap_alloc w o g h.lt).trans h
theorem Blk.grown {row : Option Nat} (h : Blk w g t cs) (hb : w.grownBy w' row) (hg : some g ≠ row) : Blk w' g t cs := (hb.block g h.lt hg).trans h
end
theorem zii {base : Nat} {e : TypeId} {size n : Nat} {v : Value} {xs : List Value} {w w' : World} (hown : w.ownsRow base e size v n xs) (hb : base <= w.heap.size) (hg : w.grownBy w' v.ownBlock) : Below base w w' :=
 (Below.refl _ _).grown hg hb fun k hk => (hown.lt k hk).1
theorem zhg {P : Program} {ops : Array Oper} {rest : List Oper} {o : Oper} {a : Act} {Q : Exit -> Act -> World -> Prop} (wr : World) (hgd : o.guard = none) (s x : Operand) (t : TypeId)
   (ho : o.op = .call { callee := .builtin .append, args := #[s, x], argTypes := #[t, t] })
   (base : Nat) (e : TypeId) (z : Value) (bytes : Nat) (ht : P.underlying t = some (.slice e)) (hinfo : (P.info? e).map (fun i => (i.zero, i.size, i.bytes)) = some (some z, 1, bytes)) (hz1 : z.cells.size = 1)
   (v : Value) (n : Nat) (xs : List Value) (hs : a.eval s = v) (hown : wr.ownsRow base e 1 v n xs)
   (c : Value) (h1 : c.oneCell' = true) (hx : a.eval x = .slice (some ⟨wr.heap.size, 0, none⟩) 1 1)
   (hbytes : (n + 1) * bytes <= 140737488355328) (hn : n < 9223372036854775807) (hbase : base <= wr.heap.size)
   (h : ∀ v' w', w'.ownsRow base e 1 v' (n + 1) (xs ++ [c]) -> Below base wr w' -> wpList P ops Q rest (a.put o.dst v') w') : wpList P ops Q (o :: rest) a (wr.alloc (.cells #[c] e)) := by
 obtain ⟨i, hi, hzz⟩ := Option.map_eq_some_iff.1 hinfo
 simp only [Prod.mk.injEq] at hzz
 obtain ⟨hz, hsz, hby⟩ := hzz
 have hown' := hown.alloc (.cells #[c] e)
 refine wpList_append_own _ hgd s x t ho base e i z 1 bytes ht hi hz hsz hby hz1 (by decide) v n xs hs hown' ⟨wr.heap.size, 0, none⟩ 1 1 [c] hx rfl ?_ ?_ ?_ hbytes ?_ ?_
 · intro j u hj
   match j, hj with
   | 0, hj =>
     simp at hj; subst hj
     rw [zg9, cell_of_row _ _ _ _ _ _ (heap_alloc_new wr _)]; rfl
 · intro u hu
   simp at hu; subst hu; exact h1
 · unfold maxLen; omega
 · simp; omega
 · intro v' w' ho' hg _
   exact h v' w' ho' (((Below.refl _ _).alloc hbase _).trans (zii hown' (by simp; omega) hg))
theorem zrw {P : Program} {src dst e : TypeId} (hs : P.underlying src = some (.slice e)) (he : P.underlying e = some (.int .u8)) (hd : P.underlying dst = some .string) {w : World} {base n : Nat} {v : Value} (l : List UInt8)
   (h : w.ownsRow base e 1 v n (l.map zij)) : (convert src dst v).run P w = .ok (.string ⟨l.toArray⟩) w := by
 rcases h.2 with ⟨rfl, rfl⟩ | ⟨g, cap, cur, rfl, _, hh, hnc, _, hsz, hx⟩
 · have hl : l = [] := by have := h.1; simpa using this
   subst hl
   rw [run_convert_bytes_string w src dst e none 0 0 hs he hd]
   simp [Conv.bytesToString]; rfl
 · have hl : l.length = n := by have := h.1; simpa using this
   subst hl
   refine run_convert_bytes_back w src dst e _ cap l hs he hd fun j hj => ?_
   have := h.cells (g := g) rfl j (zij l[j]) (by simp [hj])
   exact this
theorem ztk {a b : List UInt8} (h : a = b) : Ending.returned (.string ⟨a.toArray⟩) = .returned (.string ⟨b.toArray⟩) := by rw [h]
theorem zf3 {P : Program} {a : Act} {w : World} {Q : Exit -> Act -> World -> Prop} {c rest : Code} (l : Nat) (J : Act -> World -> Prop) (μ : Act -> World -> Nat) (hf : findLabel c l = some (.seq .skip rest))
   (pass : ∀ a w, J a w -> rest.wp P (Exit.jump l (fun a' w' => J a' w' /\ μ a' w' < μ a w) Q) a w)
   (first : Hid (∀ a w, J a w -> rest.wp P (Exit.jump l J Q) a w) -> c.wp P (Exit.jump l J Q) a w) : (Code.scope c).wp P Q a w := by
 refine wp_scope_jumps l J μ hf (first fun a w hJ => Code.wp_mono (fun e a' w' hq => ?_) (pass a w hJ)) fun a w hJ => wp_seq (wp_skip (pass a w hJ))
 cases e <;> first | exact hq | exact ⟨hq.1, hq.2.1⟩
section
variable {l : Nat} {J : Act -> World -> Prop} {Q : Exit -> Act -> World -> Prop} {a : Act} {w : World}
@[go_sem] theorem jump_normal : Exit.jump l J Q .normal a w = Q .normal a w := rfl
@[go_sem] theorem jump_exit (id : Nat) : Exit.jump l J Q (.exit id) a w = Q (.exit id) a w := rfl
@[go_sem] theorem jump_ret : Exit.jump l J Q .ret a w = Q .ret a w := rfl
@[go_sem] theorem jump_panic (ch : List PanicEntry) : Exit.jump l J Q (.panic ch) a w = Q (.panic ch) a w := rfl
end
section
variable {H : Type} {enc : TypeId × Value -> H} {P : Program}
theorem zkb {f : Func} {s : ChangeSpec} {apart fresh handsOn again : Bool} {W W' : World} {args : Array Value} {v : Value} {ds gs : List (DataW H)} {before pa pv : List MemPlace}
   (hW : DataW.Whole enc P f.params.toList s.vars apart W args.toList ds gs before)
   (hres : ∀ (b : Nat) (sp : Nat -> Bool) (hd : Bool), DataW.TrodAll enc P W' b sp hd f.resultTypes.toList (v.resultList f.resultTypes.size) (s.fn H (ds ++ gs)).results [])
   (hargs : ∀ sp : Nat -> Bool, (∀ p ∈ before, sp p.block = true) -> DataW.TrodAll enc P W' 0 sp true f.params.toList args.toList (s.fn H (ds ++ gs)).args pa)
   (hvars : ∀ sp : Nat -> Bool, (∀ p ∈ before, sp p.block = true) -> DataW.TrodVars enc P W' sp s.vars (s.fn H (ds ++ gs)).vars pv)
   (hps : before = pa ++ pv) (hb : Below W.heap.size W W')
   (hok : ∀ (j : Nat) (t : TypeId) (r : Value), f.resultTypes[j]? = some t -> (v.resultList f.resultTypes.size)[j]? = some r -> Value.okWide P W' .any 0 t r) :
   s.post enc P f apart fresh handsOn again W args v W' := by
 have hlt : ∀ p ∈ before, p.block < W.heap.size := fun p hp => hW.lt p hp
 have hold : ∀ p ∈ before, (fun b => decide (b < W.heap.size)) p.block = true := fun p hp => by simpa using hlt p hp
 refine ⟨ds, gs, before, [], pa, pv, hW, hres _ _ _, hargs _ hold, hvars _ hold, World.keptBut_mono (fun p hp => ⟨hp, ?_⟩) (hb.frame (· ∈ before)), fun _ => ?_⟩
 · rw [hps, List.mem_append] at hp
   exact Or.inr hp
 · obtain ⟨_, _, _, _, _, hz, hn⟩ := hW
   refine ⟨hok, _, _, ([] ++ pa) ++ pv, ⟨[] ++ pa, pv, trodAll_append (hargs _ (fun _ _ => rfl)) (hres _ _ _), hvars _ (fun _ _ => rfl), rfl, ?_, ?_⟩, ?_⟩
   · intro b off hp
     have hin : MemPlace.cell b off ∈ before := by rw [hps]; simpa using hp
     rw [hb.frozen (hlt _ hin)]
     exact hz b off hin
   · intro ha
     have := hn ha
     rw [hps] at this
     simpa using this
   · intro p hp _
     rw [hps]
     simpa using hp
theorem zfh (hl : laidOutB P = true) {W W' : World} (hb : Below W.heap.size W W') {sp : Nat -> Bool} :
   ∀ {ts : List TypeId} {vs : List Value} {ds : List (DataW H)} {ps : List MemPlace}, (∀ t ∈ ts, P.readableRec t = true /\ t < P.types.size) ->
   DataW.TrodAll enc P W 0 (fun _ => true) true ts vs ds ps -> (∀ x ∈ ps, x.block < W.heap.size) -> (∀ x ∈ ps, sp x.block = true) -> DataW.TrodAll enc P W' 0 sp true ts vs ds ps
 | [], [], [], _, _, h, _, _ => h
 | _ :: _, _ :: _, _ :: _, _, hr, ⟨p, q, h1, h2, e⟩, hlt, hs =>
   ⟨p, q, WideElems.Trod_stays hl (hr _ (List.mem_cons.2 (Or.inl rfl))).1 (hr _ (List.mem_cons.2 (Or.inl rfl))).2 h1
       (fun x hx => hb.same (hlt x (by rw [e]; exact List.mem_append_left _ hx))) (fun x hx => hs x (by rw [e]; exact List.mem_append_left _ hx)),
     zfh hl hb (fun t ht => hr t (List.mem_cons.2 (Or.inr ht))) h2 (fun x hx => hlt x (by rw [e]; exact List.mem_append_right _ hx)) (fun x hx => hs x (by rw [e]; exact List.mem_append_right _ hx)), e⟩
theorem post_law {f : Func} {s : ChangeSpec} {apart fresh handsOn again : Bool} {W W' : World} {args : Array Value} {ds : List (DataW H)} {before : List MemPlace} {tb : TypeId}
   (hl : laidOutB P = true) (hr : (f.params.toList.all fun t => P.readableRec t && decide (t < P.types.size)) = true) (hbt : f.resultTypes = #[tb]) (hub : P.underlying tb = some .bool) (hsv : s.vars = [])
   (hW : DataW.Whole enc P f.params.toList s.vars apart W args.toList ds [] before)
   (hfn : s.fn H (ds ++ []) = { results := [.lit (.bool true)], args := ds }) (hb : Below W.heap.size W W') :
   s.post enc P f apart fresh handsOn again W args (.bool true) W' := by
 have hlt : ∀ p ∈ before, p.block < W.heap.size := fun p hp => hW.lt p hp
 obtain ⟨p, q, hA, hV, hpq, _, _⟩ := id hW
 rw [hsv] at hV
 have hq : q = [] := hV
 subst hq
 rw [List.append_nil] at hpq
 subst hpq
 refine zkb (pa := before) (pv := []) hW ?_ ?_ ?_ (by simp) hb ?_
 · intro _ _ _
   rw [hfn, hbt]
   exact trodAll_mk1 (shut_bool hub true)
 · intro sp hsp
   rw [hfn]
   exact zfh hl hb (fun t ht => by simpa using List.all_eq_true.1 hr t ht) hA hlt hsp
 · intro sp _
   rw [hfn, hsv]
   rfl
 · exact ok_one hbt rfl (okWide_bool_mk hub true)
end
end Go.Proofs.Ytlphgephdhadhaa
namespace Go.Proofs.Ytlphgephdhadhaa
open Go.RowKit
theorem i5 : (Try.prog.info? 5).map (fun i => (i.zero, i.size, i.bytes)) = some (some (.int .u8 0), 1, 1) := by kernel_rfl
def cl8 (k : Int) : Nat := (min (max k 0) 8).toNat
def zn2 (n : Nat) : Nat -> List UInt8
 | 0 => []
 | i+1 => UInt8.ofNat (n / 256^i) :: zn2 n i
theorem yfp (k : Int) : cl8 k <= 8 := by unfold cl8; omega
theorem zdz (n c : Nat) : (zn2 n c).length = c := by induction c <;> simp_all [zn2]
theorem zka (n c t : Nat) (h : t < (zn2 n c).length) : (zn2 n c)[t] = UInt8.ofNat (n / 256 ^ (c - 1 - t)) := by
 induction c generalizing t with
 | zero => simp [zn2] at h
 | succ c ih =>
   rcases t with _ | t
   · simp [zn2]
   · simp only [zn2, List.getElem_cons_succ]
     rw [ih]
     congr 3; omega
set_option maxRecDepth 100000 in
set_option maxHeartbeats 400000 in
theorem ybg (n : Nat) (k : Int) (w : World) (_hn : n < 18446744073709551616) :
   Calls Try.prog 61 #[.int .u64 n, .int .i64 k] w fun e w' => e = .returned (.string ⟨(zn2 n (cl8 k)).toArray⟩) /\ Below w.heap.size w w' := by
 have h8 := yfp k
 have hmk := fun W => run_make_row' (P := Try.prog) 72 5 (.int .u8 0) 1 Try.underlying72 i5 rfl .i64 .i64 (cl8 k) (by omega) (by omega) W
 go_enter Try.func61, Try.ntmps61
 go_upto_region 1 with (fail)
 go_cut [1] (fun v wx => v = .int .i64 (cl8 k) /\ w = wx)
 case first =>
   go_wp2
   all_goals (go_meet; exact ⟨by unfold cl8; go_num, rfl⟩)
 case rest =>
   obtain ⟨rfl, rfl⟩ := hcut
   generalize hc : cl8 k = c at *
   have Hc := Lib.hid hc
   clear hc
   go_wp2
   go_loopw [0, 6] (fun m i wr => ∃ j x : Nat, j <= c /\ i = .int .i64 ((j : Int) - 1) /\ m = .int .u64 (x : Int) /\ Hid (x = n / 256 ^ (c - j)) /\
      wr.rowIs w.heap.size 5 c (fun t => if t < j then .int .u8 0 else zij (UInt8.ofNat (n / 256 ^ (c - 1 - t)))) /\ Below w.heap.size w wr) (fun _ i _ => (intOf i + 1).toNat)
   case atStart =>
     refine ⟨c, n, by omega, by simp, by simp, Lib.hid (by simp), ?_, ?_⟩
     · exact (World.rowIs_made w (.int .u8 0) c 5).congr (fun i hi => by simp [hi])
     · exact (Below.refl _ _).alloc (Nat.le_refl _) _
   case round =>
     obtain ⟨j, x, hj, rfl, rfl, hx, hrow, hb⟩ := hrel
     rcases j with _ | j
     · have hconv := fun cc => zz9 (P := Try.prog) (src := 72) (dst := 9) (cap := cc) (zn2 n c) Try.underlying72 Try.underlying5 Try.underlying9 hrow (zdz n c) (fun i hi => by simp [zka])
       go_wp2
       go_ret
       exact ⟨ztk (by rw [Hc.out]), hb⟩
     · have hc := hrow.cell (i := j) (by omega)
       have hf := hrow.frozen j
       have hs := hrow.set j (.int .u8 ((x : Int) % 256))
       have hB := hb.setCell (p := ⟨w.heap.size, j, none⟩) (Nat.le_refl _) (.int .u8 ((x : Int) % 256))
       have h0 : ((j + 1 : Nat) : Int) - 1 = j := by omega
       rw [h0]
       simp only [Nat.lt_succ_self, if_true] at hc
       clear hrow hb h0
       go_wp2
       go_roundw
       case rel =>
         refine ⟨j, x / 256, by omega, rfl, rfl, Lib.hid ?_, hs.congr fun t ht => ?_, hB⟩
         · rw [hx.out, Nat.div_div_eq_div_mul, <- Nat.pow_succ]; congr 2; omega
         · by_cases h1 : t = j
           · subst h1; rw [if_pos rfl, if_neg (by omega), zfe, hx.out, show c - (t + 1) = c - 1 - t by omega]
           · rw [if_neg h1]
             by_cases h2 : t < j
             · rw [if_pos h2, if_pos (by omega)]
             · rw [if_neg h2, if_neg (by omega)]
       case measure => simp [intOf] <;> omega
def zjk (l : List UInt8) : Nat := l.foldl (fun n b => n * 256 + b.toNat) 0
theorem zmd (l : List UInt8) (b : UInt8) : zjk (l ++ [b]) = zjk l * 256 + b.toNat := by simp [zjk]
theorem zfz (l : List UInt8) (k : Nat) (h : k < l.length) : zjk (l.take (k + 1)) = zjk (l.take k) * 256 + l[k].toNat := by
 rw [List.take_succ_eq_append_getElem h, zmd]
theorem zny (l : List UInt8) : zjk l < 256 ^ l.length := by
 rw [<- List.reverse_reverse l]
 induction l.reverse with
 | nil => simp [zjk]
 | cons b l ih =>
   rw [List.reverse_cons, zmd, List.length_append, List.length_singleton, Nat.pow_succ]
   have := b.toNat_lt
   omega
theorem zyx (l : List UInt8) (k : Nat) (h : k < l.length) (h8 : l.length <= 8) : zjk (l.take k) < 72057594037927936 := by
 have h1 := zny (l.take k)
 have h2 : (l.take k).length <= 7 := by rw [List.length_take]; omega
 have h3 : 256 ^ (l.take k).length <= 256 ^ 7 := Nat.pow_le_pow_right (by omega) h2
 omega
theorem ybk (x : Nat) (b : UInt8) (h : x < 72057594037927936) : bits .or .u64 ((x : Int) * 256) (b.toNat : Int) = ((x * 256 + b.toNat : Nat) : Int) := by
 have hb := b.toNat_lt
 have := u64_or_nat (x * 256) b.toNat (by omega) (by omega)
 rw [nat_join 8 (x * 256) b.toNat (by omega) (by omega)] at this
 rw [<- this]; congr 1
set_option maxRecDepth 100000 in
set_option maxHeartbeats 400000 in
theorem ycd (l : List UInt8) (w : World) (h1 : 1 <= l.length) (h8 : l.length <= 8) :
   Calls Try.prog 86 #[.string ⟨l.toArray⟩] w fun e w' => e = .returned (.tuple #[.int .u64 (zjk l), .int .i64 0]) /\ w = w' := by
 have hne : (l == []) = false := by cases l <;> simp_all
 have hne' : l ≠ [] := by intro h; simp [h] at h1
 go_enter Try.func86, Try.ntmps86
 go_wp2
 refine zf3 0 (fun a' w' => w = w' /\ ∃ (k x : Nat), Hid (x = zjk (l.take k)) /\ k < l.length /\ x < 72057594037927936 /\ ∃ u1 u2 u3 u6 u7 u8 u9 u10 u11 u12 u13 u14 u15 u16 u17 u18 u19 u20 u21 u22 u23 u24 : Value, a' = ⟨#[.string ⟨l.toArray⟩, u1, u2, u3, .int .u64 (x : Int), .int .i64 (k : Int), u6, u7, u8, u9, u10, u11, u12, u13, u14, u15, u16, u17, u18, u19, u20, u21, u22, u23, u24], []⟩) (fun a' _ => l.length - (intOf (a'.tmps.getD 5 undef)).toNat) rfl ?_ ?_
 · rintro a' w' ⟨rfl, k, x, hx, hk, hx7, u1, u2, u3, u6, u7, u8, u9, u10, u11, u12, u13, u14, u15, u16, u17, u18, u19, u20, u21, u22, u23, u24, rfl⟩
   have hor := ybk x l[k] hx7
   go_wp2
   · go_step3
     exact ⟨rfl, ⟨rfl, k + 1, x * 256 + l[k].toNat, Lib.hid (by rw [zfz l k hk, hx.out]), by omega, by have := zyx l (k + 1) (by omega) h8; rw [zfz l k hk, <- hx.out] at this; exact this, _, _, _, _, _, _, _, _, _, _, _, _, _, _, _, _, _, _, _, _, _, _, by go_num⟩, by simp [intOf] <;> omega⟩
   · go_ret2
     refine ⟨?_, rfl⟩
     have : zjk l = x * 256 + l[k].toNat := by rw [hx.out, <- zfz l k hk, List.take_of_length_le (by omega)]
     rw [this]; rfl
 · intro hP
   go_wp2
   go_step3
   simp only [Exit.then]
   apply_assumption
   exact hP.out _ _ ⟨rfl, 0, 0, Lib.hid rfl, by omega, by omega, _, _, _, _, _, _, _, _, _, _, _, _, _, _, _, _, _, _, _, _, _, _, rfl⟩
def zcm (n : Nat) : List UInt8 := if n < 128 then [UInt8.ofNat n] else UInt8.ofNat (n % 128 + 128) :: zcm (n / 128)
termination_by n
decreasing_by omega
theorem zbs {n : Nat} (h : n < 128) : zcm n = [UInt8.ofNat n] := by rw [zcm, if_pos h]
theorem zdl {n : Nat} (h : 128 <= n) : zcm n = UInt8.ofNat (n % 128 + 128) :: zcm (n / 128) := by rw [zcm, if_neg (by omega)]
theorem yh7 (x : Nat) : bits .or .u8 ((x : Int) % 256) 128 = (x : Int) % 128 + 128 := by
 have h := u8_or_nat (x % 256) 128 (by omega) (by omega)
 have h2 : x % 256 ||| 128 = x % 128 + 128 := by
   have e1 : x % 256 = x % 128 + x / 128 % 2 * 128 := by omega
   have h3 : x / 128 % 2 = 0 \/ x / 128 % 2 = 1 := by omega
   have j1 : ∀ y, y < 128 -> 128 ||| y = 128 + y := fun y hy => nat_join 7 128 y (by decide) hy
   have e2 : ∀ y, y < 128 -> (y + 128) ||| 128 = y + 128 := fun y hy => by
     rw [Nat.add_comm y 128, <- j1 y hy, Nat.or_comm 128 y, Nat.or_assoc, Nat.or_self]
   rcases h3 with h3 | h3
   · rw [e1, h3, Nat.or_comm]; simp only [Nat.zero_mul, Nat.add_zero]; rw [j1 _ (by omega)]; omega
   · rw [e1, h3, Nat.one_mul, e2 _ (by omega)]
 rw [h2] at h
 have e : (((x % 256 : Nat) : Int)) = (x : Int) % 256 := by omega
 rw [e] at h
 rw [show ((128 : Nat) : Int) = 128 from rfl] at h
 rw [h]; omega
set_option maxRecDepth 100000 in
set_option maxHeartbeats 400000 in
theorem zso (n : Nat) (w : World) (hn : n < 18446744073709551616) :
   Calls Try.prog 40 #[.int .u64 n] w fun e w' => e = .returned (.string ⟨(zcm n).toArray⟩) /\ Below w.heap.size w w' := by
 go_enter Try.func40, Try.ntmps40
 go_wp2
 refine zf3 0 (fun a' w' => Below w.heap.size w w' /\ ∃ (x k : Nat) (v : Value) (pre : List UInt8), Hid (pre ++ zcm x = zcm n) /\ x < 18446744073709551616 /\ k <= 10 /\ Hid (x * 128 ^ k <= n) /\ w'.ownsRow w.heap.size 5 1 v k (pre.map zij) /\ ∃ u1 u2 u4 u5 u6 u7 u8 u9 u10 u11 u12 u13 u14 u15 u16 u17 u18 u19 : Value, a' = ⟨#[.int .u64 (x : Int), u1, u2, v, u4, u5, u6, u7, u8, u9, u10, u11, u12, u13, u14, u15, u16, u17, u18, u19], []⟩) (fun a' _ => (intOf (a'.tmps.getD 0 undef)).toNat) rfl ?_ ?_
 · rintro a' wr ⟨hb, x, k, v, pre, hpre, hx, hk, hxk, hown, u1, u2, u4, u5, u6, u7, u8, u9, u10, u11, u12, u13, u14, u15, u16, u17, u18, u19, rfl⟩
   have hor := yh7 x
   have hsz := hb.size
   by_cases hlt : x < 128
   · have hx8 : ∀ w1 : World, ∀ v1, w1.ownsRow w.heap.size 5 1 v1 (k + 1) (List.map zij pre ++ [Value.int .u8 (x : Int)]) -> (convert 72 9 v1).run Try.prog w1 = .ok (.string ⟨(pre ++ [UInt8.ofNat x]).toArray⟩) w1 := fun w1 v1 h =>
       zrw (P := Try.prog) (src := 72) (dst := 9) (e := 5) Try.underlying72 Try.underlying5 Try.underlying9 (pre ++ [UInt8.ofNat x]) (by
         have e : (Value.int .u8 (x : Int)) = zij (UInt8.ofNat x) := by rw [zfe]; go_num
         rw [List.map_append, List.map_singleton, <- e]; exact h)
     have Hx8 := Lib.hid hx8
     clear hx8
     go_wp2_with (at_builtin; refine zhg _ rfl _ _ 72 rfl w.heap.size 5 (.int .u8 0) 1 Try.underlying72 i5 rfl _ _ _ rfl hown _ rfl rfl (by omega) (by omega) hsz ?_; intro v1 w1 hown1 hb1; have hcv := Hx8.out w1 v1 hown1; clear hown1 hown hor)
     go_ret
     exact ⟨ztk (by rw [<- hpre.out, zbs hlt]), hb.trans (by assumption)⟩
   · go_wp2_with (at_builtin; refine zhg _ rfl _ _ 72 rfl w.heap.size 5 (.int .u8 0) 1 Try.underlying72 i5 rfl _ _ _ rfl hown _ rfl rfl (by omega) (by omega) hsz ?_; intro v1 w1 hown1 hb1)
     go_step3
     have h128 : 128 * 128 ^ k <= n := Nat.le_trans (Nat.mul_le_mul_right _ (by omega)) hxk.out
     have hk9 : k + 1 <= 10 := by
       refine Decidable.byContradiction fun h => ?_
       have : 128 ^ 10 <= 128 ^ k := Nat.pow_le_pow_right (by decide) (by omega)
       have h3 : (128 : Nat) ^ 10 = 1180591620717411303424 := by decide
       omega
     exact ⟨rfl, ⟨hb.trans hb1, x / 128, k + 1, v1, pre ++ [UInt8.ofNat (x % 128 + 128)], Lib.hid (by rw [List.append_assoc, <- hpre.out, zdl (n := x) (by omega)]; rfl), by omega, hk9, Lib.hid (by
       rw [Nat.pow_succ]; have h4 : x / 128 * (128 ^ k * 128) <= x * 128 ^ k := by
         rw [Nat.mul_comm (128 ^ k) 128, <- Nat.mul_assoc]; exact Nat.mul_le_mul_right _ (by omega)
       exact Nat.le_trans h4 hxk.out), by
       rw [List.map_append, List.map_singleton, zfe]; rw [show (((x % 128 + 128 : Nat) : Int) % 256) = (x : Int) % 128 + 128 by omega]; exact hown1, _, _, _, _, _, _, _, _, _, _, _, _, _, _, _, _, _, _, rfl⟩, by simp [intOf]; omega⟩
 · intro hP
   go_wp2
   go_step3
   simp only [Exit.then]
   apply_assumption
   exact hP.out _ _ ⟨Below.refl _ _, n, 0, _, [], Lib.hid rfl, hn, by omega, Lib.hid (by simp), World.ownsRow_nil _ _ _ _, _, _, _, _, _, _, _, _, _, _, _, _, _, _, _, _, _, _, rfl⟩
end Go.Proofs.Ytlphgephdhadhaa
namespace Go.Proofs.Ytlphgephdhadhaa
open Go.RowKit
def zwi (w : World) (g : Nat) (ps : List (List UInt8)) : Prop := ∀ j (h : j < ps.length), w.cell? ⟨g, j, none⟩ = some (.string ⟨ps[j].toArray⟩)
def zs8 (ps : List (List UInt8)) : List UInt8 := ps.flatten
end Go.Proofs.Ytlphgephdhadhaa
