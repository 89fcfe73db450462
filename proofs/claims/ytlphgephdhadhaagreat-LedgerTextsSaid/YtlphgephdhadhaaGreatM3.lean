/-The symbolic executor: values, blocks that are a template's. The symbolic executor: calls that turn blocks of the caller's own. The symbolic executor: regions; and what stands between these and the texts behind.-/
import Derived.Test.YtlphgephdhadhaaGreatM2
import Derived.Deep.LoopGhost
import Derived.IntWalk
namespace Go.Proofs.YtlphgephdhadhaaGreat
namespace Sy
open Go Go.RowKit
set_option linter.unusedSimpArgs false
set_option linter.unusedVariables false
set_option linter.unusedSectionVars false
def zfl (μ : Mu) (F : List (Nat × Option Nat)) : Mu := fun t => match za2 F t with
 | some (some id) => μ id
 | some none => some none
 | none => none
def Inj (ids : List (Nat × Option Nat)) : Prop := ∀ t t' id, za2 ids t = some (some id) -> za2 ids t' = some (some id) -> t = t'
structure Ext (m m' : zds) : Prop where
 ids : ∀ t x, za2 m.ids t = some x -> za2 m'.ids t = some x
 ps : ∀ p, p ∈ m.ps -> p ∈ m'.ps
 inj : Inj m.ids -> Inj m'.ids
theorem Ext.refl (m : zds) : Ext m m := ⟨fun _ _ h => h, fun _ h => h, fun h => h⟩
theorem Ext.trans {m m' m'' : zds} (a : Ext m m') (b : Ext m' m'') : Ext m m'' := ⟨fun t x h => b.ids t x (a.ids t x h), fun p h => b.ps p (a.ps p h), fun h => b.inj (a.inj h)⟩
theorem Ext.add (m : zds) (p : Prop) : Ext m (m.add p) := ⟨fun _ _ h => h, fun q h => List.mem_cons_of_mem _ h, fun h => h⟩
theorem ydh {id : Nat} {x : Option Nat} (h : yo0 id x = true) : x = some id := by
 unfold yo0 at h
 split at h
 · rw [za4 h]
 · cases h
theorem zzx {id : Nat} {ids : List (Nat × Option Nat)} (h : zq8 id ids = false) : ∀ t, za2 ids t ≠ some (some id) := by
 induction ids with
 | nil => intro t; simp [za2]
 | cons p r ih =>
   obtain ⟨k, y⟩ := p
   unfold zq8 at h
   cases e : yo0 id y with
   | true => rw [e] at h; cases h
   | false =>
     rw [e] at h
     intro t
     unfold za2
     split
     · intro hy
       cases hy
       simp [yo0, za6] at e
     · exact ih h t
theorem zfu {m m' : zds} {tid id : Nat} (h : zh3 m tid id = some m') : Ext m m' /\ za2 m'.ids tid = some (some id) := by
 unfold zh3 at h
 split at h
 · rename_i x hx
   split at h
   · rename_i e; cases h; exact ⟨.refl _, by rw [hx, ydh e]⟩
   · cases h
 · rename_i hx
   split at h
   · cases h
   · rename_i e
     cases h
     refine ⟨⟨fun t x ht => ?_, fun _ h => h, fun hi t t' id' h1 h2 => ?_⟩, by simp [za2, za6]⟩
     · simp only [za2]
       split
       · rename_i e'; rw [za4 e'] at hx; rw [hx] at ht; cases ht
       · exact ht
     · have e := zzx (by simpa using e : zq8 id m.ids = false)
       simp only [za2] at h1 h2
       cases q1 : zav tid t with
       | true => cases q2 : zav tid t' with
         | true => rw [<- za4 q1, <- za4 q2]
         | false => rw [q1] at h1; rw [q2] at h2; cases h1; exact absurd h2 (e _)
       | false => cases q2 : zav tid t' with
         | true => rw [q1] at h1; rw [q2] at h2; cases h2; exact absurd h1 (e _)
         | false => rw [q1] at h1; rw [q2] at h2; exact hi _ _ _ h1 h2
theorem zng {m m' : zds} {tid : Nat} (h : zi5 m tid = some m') : Ext m m' /\ za2 m'.ids tid = some none := by
 unfold zi5 at h
 split at h
 · cases h
 · rename_i hx
   cases h
   refine ⟨⟨fun t x ht => ?_, fun _ h => h, fun hi t t' id' h1 h2 => ?_⟩, by simp [za2, za6]⟩
   · simp only [za2]
     split
     · rename_i e'; rw [za4 e'] at hx; rw [hx] at ht; cases ht
     · exact ht
   · simp only [za2] at h1 h2
     split at h1 <;> split at h2
     · cases h1
     · cases h1
     · cases h2
     · exact hi _ _ _ h1 h2
section
variable {h : Array Obj} {D : Nat -> Prop} {μ : Mu}
def Fin (m : zds) (F : List (Nat × Option Nat)) : Prop := (∀ t x, za2 m.ids t = some x -> za2 F t = some x) /\ ∀ p, p ∈ m.ps -> p
theorem Fin.of {m m' : zds} {F : List (Nat × Option Nat)} (e : Ext m m') (f : Fin m' F) : Fin m F := ⟨fun t x h => f.1 t x (e.ids t x h), fun p h => f.2 p (e.ps p h)⟩
theorem zcd {F : List (Nat × Option Nat)} {t id : Nat} (h : za2 F t = some (some id)) : zfl μ F t = μ id := by unfold zfl; rw [h]
theorem zvp {F : List (Nat × Option Nat)} {t : Nat} (h : za2 F t = some none) : zfl μ F t = some none := by unfold zfl; rw [h]
theorem zg5.turn {kk : KK} {has has' : Ky -> Bool} {es : Array MapEntry} {clock : Nat} {kf : Nat -> Ky} (k : zg5 kk has' es clock kf) (e : ∀ x, has' x = has x) : zg5 kk has es clock kf :=
 ⟨fun i x hx => ⟨(k.key i x hx).1, by rw [<- e]; exact (k.key i x hx).2⟩, fun x hx => k.all x (by rw [e]; exact hx), k.st⟩
theorem zp3 {m m' : zds} {v u : AV} (e : zf9 m v u = some m') : Ext m m' /\ ∀ F x, Fin m' F -> R h D μ u x -> R h D (zfl μ F) v x := by
 unfold zf9 at e
 split at e
 · cases e; exact ⟨.refl _, fun F x _ _ => .dead _⟩
 · cases e; refine ⟨.add _ _, fun F x f r => ?_⟩
   have := f.2 _ (List.mem_cons_self ..); subst this
   cases r; exact .bool _
 · split at e
   · rename_i hk
     have hk := of_decide_eq_true hk; subst hk
     cases e; refine ⟨.add _ _, fun F x f r => ?_⟩
     have := f.2 _ (List.mem_cons_self ..); subst this
     cases r; exact .int _ _
   · cases e
 · cases e; refine ⟨.add _ _, fun F x f r => ?_⟩
   have := f.2 _ (List.mem_cons_self ..); subst this
   cases r with | str _ s e => exact .str _ s e
 · cases e; exact ⟨.refl _, fun F x _ r => by cases r; exact .nilp⟩
 · cases e; exact ⟨.refl _, fun F x _ r => by cases r; exact .nilm⟩
 · cases e; exact ⟨.refl _, fun F x _ r => by cases r; exact .nilf⟩
 · cases e; exact ⟨.refl _, fun F x _ r => by cases r; exact .nils⟩
 · cases e; exact ⟨.refl _, fun F x _ r => by cases r; exact .nili⟩
 · cases e; refine ⟨.add _ _, fun F x f r => ?_⟩
   have := f.2 _ (List.mem_cons_self ..); subst this
   cases r with
   | ifn => exact .ifn
   | ifs t p => exact .ifs t p
 · cases e; exact ⟨.refl _, fun F x _ r => by cases r; exact .emp _ _⟩
 · cases e; exact ⟨.refl _, fun F x _ r => by cases r; exact .emz _⟩
 · rename_i sz n get sz' n' get'
   split at e
   · rename_i hz
     have := za4 hz; subst this
     cases e; refine ⟨.add _ _, fun F x f r => ?_⟩
     obtain ⟨h1, h2⟩ := f.2 _ (List.mem_cons_self ..); subst h1
     cases r with
     | lst0 _ _ a cap hn => exact .lst0 _ _ a cap hn
     | lst _ _ _ b o cap vs hD hc hv h1 hr => exact .lst _ _ _ b o cap vs hD hc hv h1 (fun i j hi hj => by rw [<- h2 i j hi hj]; exact hr i j hi hj)
   · cases e
 · rename_i sz n get sz' n' get'
   split at e
   · rename_i hz
     have := za4 hz; subst this
     cases e; refine ⟨.add _ _, fun F x f r => ?_⟩
     obtain ⟨h1, h2⟩ := f.2 _ (List.mem_cons_self ..); subst h1
     cases r.lessx with
     | lst0 _ _ a cap hn => exact .lst0 _ _ a cap hn
     | lst _ _ _ b o cap vs hD hc hv h1 hr => exact .lst _ _ _ b o cap vs hD hc hv h1 (fun i j hi hj => by rw [<- h2 i j hi hj]; exact hr i j hi hj)
   · cases e
 · cases e; refine ⟨.add _ _, fun F x f r => ?_⟩
   have h1 := f.2 _ (List.mem_cons_self ..); subst h1
   cases r with | nils => exact .lst0 _ _ none 0 (fun _ => rfl)
 · cases e; refine ⟨.add _ _, fun F x f r => ?_⟩
   have h1 := f.2 _ (List.mem_cons_self ..); subst h1
   cases r with | emp a cap => exact .lst0 _ _ _ cap (fun h => by cases h)
 · cases e; refine ⟨.add _ _, fun F x f r => ?_⟩
   have h1 := f.2 _ (List.mem_cons_self ..); subst h1
   cases r with | emz a => exact .lst0 _ _ _ 0 (fun h => by cases h)
 · rename_i n get n' get'
   cases e; refine ⟨.add _ _, fun F x f r => ?_⟩
   obtain ⟨h1, h2⟩ := f.2 _ (List.mem_cons_self ..)
   cases r with
   | iptr _ _ b o vs hD hv h1' hr => exact .iptr _ _ b o vs hD (fun j hj => hv j (by omega)) (fun j hj => h1' j (by omega)) (fun j hj => by rw [<- h2 j hj]; exact hr j (by omega))
 · rename_i n get n' get'
   split at e
   · rename_i hz
     have := za4 hz; subst this
     cases e; refine ⟨.add _ _, fun F x f r => ?_⟩
     have h2 := f.2 _ (List.mem_cons_self ..)
     cases r with
     | arr _ _ vs e1 h1 hr => exact .arr _ _ vs e1 h1 (fun j v hv => by
         rw [<- h2 j (by rw [e1]; exact (Array.getElem?_eq_some_iff.1 hv).1)]
         exact hr j v hv)
   · cases e
 · split at e
   · rename_i ho
     have := za4 ho; subst this
     obtain ⟨e1, e2⟩ := zfu e
     refine ⟨e1, fun F x f r => ?_⟩
     cases r with | ref _ _ b z m hm => exact .ref _ _ b z m ((zcd (f.1 _ _ e2)).trans hm)
   · cases e
 · split at e
   · rename_i hz
     split at e
     · rename_i ho
       split at e
       · rename_i m1 hp
         have := za4 hz; subst this
         have := za4 ho; subst this
         obtain ⟨e1, e2⟩ := zfu hp
         cases e
         refine ⟨e1.trans (.add _ _), fun F x f r => ?_⟩
         have h1 := f.2 _ (List.mem_cons_self ..); subst h1
         cases r with | eref _ _ _ _ b z m hm hi => exact .eref _ _ _ _ b z m ((zcd (f.1 _ _ e2)).trans hm) hi
       · cases e
     · cases e
   · cases e
 · split at e
   · rename_i hz
     split at e
     · rename_i m1 hp
       have := za4 hz; subst this
       obtain ⟨e1, e2⟩ := zfu hp
       cases e
       refine ⟨e1.trans (.add _ _), fun F x f r => ?_⟩
       obtain ⟨h1, h2⟩ := f.2 _ (List.mem_cons_self ..); subst h1; subst h2
       cases r with
       | slv _ _ a hm => exact .slv _ _ a ((zcd (f.1 _ _ e2)).trans hm)
       | sl0 _ _ _ b z m o hm ho => exact .sl0 _ _ _ b z m o ((zcd (f.1 _ _ e2)).trans hm) ho
       | sl _ _ _ _ b z m cap hm hn hz ho => exact .sl _ _ _ _ b z m cap ((zcd (f.1 _ _ e2)).trans hm) hn hz ho
     · cases e
   · cases e
 · split at e
   · rename_i hz
     split at e
     · rename_i m1 hp
       have := za4 hz; subst this
       obtain ⟨e1, e2⟩ := zfu hp
       cases e
       refine ⟨e1.trans (.add _ _), fun F x f r => ?_⟩
       obtain ⟨h1, h2⟩ := f.2 _ (List.mem_cons_self ..); subst h1; subst h2
       cases r.less with
       | slv _ _ a hm => exact .slv _ _ a ((zcd (f.1 _ _ e2)).trans hm)
       | sl0 _ _ _ b z m o hm ho => exact .sl0 _ _ _ b z m o ((zcd (f.1 _ _ e2)).trans hm) ho
       | sl _ _ _ _ b z m cap hm hn hz ho => exact .sl _ _ _ _ b z m cap ((zcd (f.1 _ _ e2)).trans hm) hn hz ho
     · cases e
   · cases e
 · split at e
   · rename_i hz
     split at e
     · rename_i m1 hp
       have := za4 hz; subst this
       obtain ⟨e1, e2⟩ := zfu hp
       cases e
       refine ⟨e1.trans (.add _ _), fun F x f r => ?_⟩
       obtain ⟨h1, h2, h3⟩ := f.2 _ (List.mem_cons_self ..); subst h1; subst h2; subst h3
       cases r with
       | slcv _ _ a hm => exact .slcv _ _ a ((zcd (f.1 _ _ e2)).trans hm)
       | slc0 _ _ _ b z m o hm ho => exact .slc0 _ _ _ b z m o ((zcd (f.1 _ _ e2)).trans hm) ho
       | slc _ _ _ _ _ b z m hm hn hz ho => exact .slc _ _ _ _ _ b z m ((zcd (f.1 _ _ e2)).trans hm) hn hz ho
     · cases e
   · cases e
 · split at e
   · rename_i m1 hp
     obtain ⟨e1, e2⟩ := zng hp
     cases e
     refine ⟨e1.trans (.add _ _), fun F x f r => ?_⟩
     obtain ⟨h1, h2⟩ := f.2 _ (List.mem_cons_self ..); subst h1; subst h2
     cases r with | nils => exact .slv _ _ none (zvp (f.1 _ _ e2))
   · cases e
 · split at e
   · rename_i hf hfr
     have := za4 hf; subst this
     cases e; refine ⟨.add _ _, fun F x f r => ?_⟩
     obtain ⟨h1, h2⟩ := f.2 _ (List.mem_cons_self ..); subst h1; subst h2
     exact (zei r hfr).free
   · cases e
 · obtain ⟨e1, e2⟩ := zfu e
   refine ⟨e1, fun F x f r => ?_⟩
   cases r with | mp _ b z m hm => exact .mp _ b z m ((zcd (f.1 _ _ e2)).trans hm)
 · rename_i kk n has val kk' n' has' val'
   split at e
   · rename_i hk
     obtain rfl := of_decide_eq_true hk
     cases e; refine ⟨.add _ _, fun F x f r => ?_⟩
     obtain ⟨h1, h2, h3⟩ := f.2 _ (List.mem_cons_self ..)
     cases r with
     | mpi _ _ _ _ b es clock kf hD hb hn hk hr =>
       exact .mpi _ _ _ _ b es clock kf hD hb (hn.trans h1) (hk.turn h2) (fun i e he => by
         rw [<- h3 _ (by rw [<- h2]; exact (hk.key i e he).2)]; exact hr i e he)
   · cases e
 · cases e
theorem zgh : ∀ {vs us : List AV} {m m' : zds}, ziv m vs us = some m' -> Ext m m' /\ vs.length = us.length /\ ∀ F, Fin m' F -> ∀ (i : Nat) v u x, vs[i]? = some v -> us[i]? = some u -> R h D μ u x -> R h D (zfl μ F) v x
 | [], [], m, m', e => by cases e; exact ⟨.refl _, rfl, fun F f i v u x hv => by simp at hv⟩
 | [], _ :: _, m, m', e => by cases e
 | _ :: _, [], m, m', e => by cases e
 | v :: vs, u :: us, m, m', e => by
   unfold ziv at e
   split at e
   · rename_i m1 e1
     obtain ⟨x1, r1⟩ := zp3 (h := h) (D := D) (μ := μ) e1
     obtain ⟨x2, l2, r2⟩ := zgh e
     refine ⟨x1.trans x2, by simp [l2], fun F f i v' u' x hv hu r => ?_⟩
     cases i with
     | zero => simp at hv hu; subst hv; subst hu; exact r1 F x (f.of x2) r
     | succ i => exact r2 F f i v' u' x (by simpa using hv) (by simpa using hu) r
   · cases e
theorem zvv {m m' : zds} {v u : AV} (e : ziw m v u = some m') : Ext m m' /\ ∀ F x, Fin m' F -> R h D μ u x -> R h D (zfl μ F) v x := by
 unfold ziw at e
 split at e
 · split at e
   · exact zp3 e
   · split at e
     · rename_i m1 hf e1
       obtain rfl := za4 hf
       obtain ⟨x1, l1, r1⟩ := zgh (h := h) (D := D) (μ := μ) e1
       obtain ⟨x2, l2, r2⟩ := zgh (h := h) (D := D) (μ := μ) e
       refine ⟨x1.trans x2, fun F x f r => ?_⟩
       cases r with
       | fn _ _ _ vs us e1 e2 h1 h2 =>
         refine .fn _ _ _ vs us (by rw [l1, e1]) (by rw [l2, e2]) (fun i v x hv hx => ?_) (fun i v x hv hx => ?_)
         · have hlt := (List.getElem?_eq_some_iff.1 hv).1
           have hu := List.getElem?_eq_getElem (show i < _ by rw [<- l1]; exact hlt)
           exact r1 F (f.of x2) i v _ x hv hu (h1 i _ x hu hx)
         · have hlt := (List.getElem?_eq_some_iff.1 hv).1
           have hu := List.getElem?_eq_getElem (show i < _ by rw [<- l2]; exact hlt)
           exact r2 F f i v _ x hv hu (h2 i _ x hu hx)
     · cases e
 · obtain ⟨x1, l1, r1⟩ := zgh (h := h) (D := D) (μ := μ) e
   refine ⟨x1, fun F x f r => ?_⟩
   obtain ⟨us, rfl, o1, s1, hr⟩ := r.inv_agg
   refine .agg _ _ (by rw [l1, s1]) o1 fun i v x hv hx => ?_
   obtain ⟨u, hu⟩ : ∃ u, (‹List AV› : List AV)[i]? = some u := by
     refine ⟨_, List.getElem?_eq_getElem ?_⟩
     rw [<- l1]; exact (List.getElem?_eq_some_iff.1 hv).1
   exact r1 F f i v u x hv hu (hr i u x hu hx)
 · exact zp3 e
theorem zff {slots : List (Nat × AV)} {a : Act} : ∀ {ts : List (Nat × AV)} {m m' : zds}, zh5 slots ts m = some m' -> Ext m m' /\ ∀ F, Fin m' F -> (∀ t v, za2 slots t = some v -> R h D μ v (a.tmps.getD t undef)) ->
   ∀ t v, za2 ts t = some v -> R h D (zfl μ F) v (a.tmps.getD t undef)
 | [], m, m', e => by cases e; exact ⟨.refl _, fun F f _ t v hv => by cases hv⟩
 | (t, v) :: r, m, m', e => by
   unfold zh5 at e
   split at e
   · rename_i u hu
     split at e
     · rename_i m1 e1
       obtain ⟨x1, r1⟩ := zvv (h := h) (D := D) (μ := μ) e1
       obtain ⟨x2, r2⟩ := zff e
       refine ⟨x1.trans x2, fun F f hs t' v' hv => ?_⟩
       unfold za2 at hv
       split at hv
       · rename_i hb; cases hv; rw [<- za4 hb]; exact r1 F _ (f.of x2) (hs _ _ hu)
       · exact r2 F f hs t' v' hv
     · cases e
   · cases e
theorem yhx {m m' : zds} {v u : AV} (e : yne m u v = some m') : Ext m m' /\ ∀ F x, Fin m' F -> R h D zaz u x -> R h D (zfl μ F) v x := by
 unfold yne at e
 split at e
 · cases e; exact ⟨.refl _, fun F x f r => .dead _⟩
 · split at e
   · rename_i m1 hp
     obtain ⟨e1, e2⟩ := zng hp
     cases e
     refine ⟨e1.trans (.add _ _), fun F x f r => ?_⟩
     obtain ⟨h1, h2, h3⟩ := f.2 _ (List.mem_cons_self ..)
     subst h1; subst h2; subst h3
     cases r with | nils => exact .slv _ _ none (zvp (f.1 _ _ e2))
   · cases e
 · split at e
   · rename_i x hp
     cases e
     refine ⟨.add _ _, fun F x f r => ?_⟩
     have h1 := f.2 _ (List.mem_cons_self ..)
     subst h1
     exact r.free
   · cases e
theorem zqy {y : Nat -> AV} : ∀ {vs : List AV} {j : Nat} {m m' : zds}, zvs m y j vs = some m' -> Ext m m' /\ ∀ F, Fin m' F -> ∀ (i : Nat) v x, vs[i]? = some v -> R h D zaz (y (j + i)) x -> R h D (zfl μ F) v x
 | [], j, m, m', e => by cases e; exact ⟨.refl _, fun F f i v x hv => by simp at hv⟩
 | v :: vs, j, m, m', e => by
   unfold zvs at e
   split at e
   · rename_i m1 e1
     obtain ⟨x1, r1⟩ := yhx (h := h) (D := D) (μ := μ) e1
     obtain ⟨x2, r2⟩ := zqy e
     refine ⟨x1.trans x2, fun F f i v' x hv r => ?_⟩
     cases i with
     | zero => simp at hv; subst hv; exact r1 F x (f.of x2) r
     | succ i => exact r2 F f i v' x (by simpa using hv) (by rw [show j + 1 + i = j + (i + 1) by omega]; exact r)
   · cases e
theorem zvu : ∀ {l l' : List (Ky × AV)}, yhz l l' = true -> l.map Prod.fst = l'.map Prod.fst
 | [], [], _ => rfl
 | [], _ :: _, e => by cases e
 | _ :: _, [], e => by cases e
 | (k, x) :: l, (k', x') :: l', e => by
   unfold yhz at e
   split at e
   · rename_i h; simp only [List.map_cons, zvu e]; rw [show k = k' from zm8 h]
   · cases e
theorem zno : ∀ {l l' : List (Ky × AV)}, l.map Prod.fst = l'.map Prod.fst -> ∀ {q}, (zbm l q).isSome = (zbm l' q).isSome
 | [], [], _, _ => rfl
 | [], _ :: _, e, _ => by cases e
 | _ :: _, [], e, _ => by cases e
 | (k, x) :: l, (k', x') :: l', e, q => by
   simp only [List.map_cons, List.cons.injEq] at e
   obtain ⟨rfl, e⟩ := e
   simp only [zbm]
   cases kyb k q
   · exact zno e
   · rfl
theorem znp : ∀ {l l' : List (Ky × AV)}, l.map Prod.fst = l'.map Prod.fst -> ∀ {q y}, zbm l' q = some y -> ∃ (j : Nat) (v u : AV), (zd3 Prod.snd l)[j]? = some v /\ (zd3 Prod.snd l')[j]? = some u /\ zbm l q = some v /\ u = y
 | [], [], _, _, _, e => by cases e
 | [], _ :: _, e, _, _, _ => by cases e
 | _ :: _, [], e, _, _, _ => by cases e
 | (k, x) :: l, (k', x') :: l', e, q, y, hy => by
   simp only [List.map_cons, List.cons.injEq] at e
   obtain ⟨rfl, e⟩ := e
   simp only [zbm] at hy |-
   cases hk : kyb k q with
   | true => rw [hk] at hy; cases hy; exact ⟨0, x, x', rfl, rfl, rfl, rfl⟩
   | false =>
     rw [hk] at hy
     obtain ⟨j, v, u, h1, h2, h3, h4⟩ := znp e hy
     exact ⟨j + 1, v, u, h1, h2, h3, h4⟩
theorem ycq {m m' : zds} {v u : Ob} (e : zvr m v u = some m') : Ext m m' /\ v ≠ .gone /\ u ≠ .gone /\ ∀ F x, Fin m' F -> zi2 h D μ u x -> zi2 h D (zfl μ F) v x := by
 unfold zvr at e
 split at e
 · rename_i ty us' ty' us
   split at e
   · rename_i hty
     obtain rfl := za4 hty
     obtain ⟨x1, l1, r1⟩ := zgh (h := h) (D := D) (μ := μ) e
     refine ⟨x1, by simp, by simp, fun F x f ho => ?_⟩
     match x, ho with
     | some (b, z, mm), ⟨c, t, fr, e1, e2, e3, e4, e5, e6⟩ =>
       refine ⟨c, t, fr, e1, e2, e3, e4, by rw [l1, e5], fun i v x hv hx => ?_⟩
       obtain ⟨u, hu⟩ : ∃ u, us[i]? = some u := by
         refine ⟨_, List.getElem?_eq_getElem ?_⟩
         rw [<- l1]; exact (List.getElem?_eq_some_iff.1 hv).1
       exact r1 F f i v u x hv hu (e6 i u x hu hx)
   · cases e
 · split at e
   · rename_i hty hz
     have := za4 hz; subst this
     obtain rfl := za4 hty
     cases e
     refine ⟨.add _ _, by simp, by simp, fun F x f ho => ?_⟩
     obtain ⟨h1, h2⟩ := f.2 _ (List.mem_cons_self ..); subst h1
     match x, ho with
     | some (b, z, mm), ⟨e0, c, t, fr, e1, e2, e3, e4, e5⟩ =>
       exact ⟨e0, c, t, fr, e1, e2, e3, e4, fun i j hi hj => by
         obtain ⟨v, v1, v2, v3⟩ := e5 i j hi hj
         exact ⟨v, v1, v2, by rw [<- h2 i j hi hj]; exact v3⟩⟩
     | none, ho => exact ho
   · cases e
 · rename_i ty cs ty' cs'
   split at e
   · rename_i hty hl
     obtain rfl := za4 hty
     have hl := zbk hl
     rw [zap, zap] at hl
     obtain ⟨x1, l1, r1⟩ := zgh (h := h) (D := D) (μ := μ) e
     rw [zap, zb5] at r1
     refine ⟨x1, by simp, by simp, fun F x f ho => ?_⟩
     match x, ho with
     | some (b, z, mm), ⟨c, t, fr, e1, e2, e3, e4, e5⟩ =>
       refine ⟨c, t, fr, e1, e2, e3, by omega, fun i v hv => ?_⟩
       have hi := (List.getElem?_eq_some_iff.1 hv).1
       have hu : cs'[i]? = some (cs'[i]'(by omega)) := by simp
       obtain ⟨x, x1, x2, x3⟩ := e5 i _ hu
       exact ⟨x, x1, x2, r1 F f i v _ x hv (by rw [List.getElem?_take, if_pos hi]; exact hu) x3⟩
     | none, ho =>
       have ho : cs' = [] := ho
       subst ho
       show cs = []
       exact List.eq_nil_of_length_eq_zero (by simpa using hl)
   · cases e
 · rename_i kk n has val kk' n' has' val'
   split at e
   · rename_i hk
     obtain rfl := of_decide_eq_true hk
     cases e
     refine ⟨.add _ _, by simp, by simp, fun F x f ho => ?_⟩
     obtain ⟨h1, h2, h3⟩ := f.2 _ (List.mem_cons_self ..)
     match x, ho with
     | some (b, z), ⟨es, clock, kf, hb, hn, hk, hr⟩ =>
       exact ⟨es, clock, kf, hb, hn.trans h1, hk.turn h2, fun i e he => by
         rw [<- h3 _ (by rw [<- h2]; exact (hk.key i e he).2)]; exact hr i e he⟩
   · cases e
 · rename_i q q'
   cases e
   refine ⟨.add _ _, by simp, by simp, fun F x f ho => ?_⟩
   have h1 := f.2 _ (List.mem_cons_self ..)
   match x, ho with
   | some (b, z), ⟨es, clock, hb, he⟩ => exact ⟨es, clock, hb, fun hq => he (h1 hq)⟩
 · rename_i kk l kk' l'
   split at e
   · rename_i hk hl
     obtain rfl := of_decide_eq_true hk
     have hl := zvu hl
     obtain ⟨x1, l1, r1⟩ := zgh (h := h) (D := D) (μ := μ) e
     refine ⟨x1, by simp, by simp, fun F x f ho => ?_⟩
     match x, ho with
     | some (b, z), ⟨es, clock, kf, hb, hn, hks, hnd, hr⟩ =>
       have hlen : l'.length = l.length := by have := congrArg List.length hl; simpa using this.symm
       refine ⟨es, clock, kf, hb, hn.trans hlen, hks.turn fun k => ?_, by rw [hl]; exact hnd, fun i e he => ?_⟩
       · rw [zno hl]
       · obtain ⟨y, y1, y2⟩ := hr i e he
         obtain ⟨j, v, u, v1, v2, v3, v4⟩ := znp hl y1
         subst v4
         exact ⟨v, v3, r1 F f j v _ e.val v1 v2 y2⟩
   · cases e
 · rename_i ty cs ty' sz n get
   split at e
   · rename_i hty
     obtain rfl := za4 hty
     split at e
     · rename_i m1 hm
       cases e
       obtain ⟨x1, r1⟩ := zqy (h := h) (D := D) (μ := μ) hm
       refine ⟨x1.trans (.add _ _), by simp, by simp, fun F x f ho => ?_⟩
       have hle := f.2 _ (List.mem_cons_self ..)
       rw [zap] at hle
       match x, ho with
       | some (b, z, mm), ⟨e0, c, t, fr, e1, e2, e3, e4, e5⟩ =>
         refine ⟨c, t, fr, e1, e2, ⟨e3.1, e3.2.1⟩, by omega, fun i v hv => ?_⟩
         have hi := (List.getElem?_eq_some_iff.1 hv).1
         have hs : 0 < sz := by
           rcases Nat.eq_zero_or_pos sz with h0 | h0
           · rw [h0] at hle; omega
           · exact h0
         obtain ⟨x, x1, x2, x3⟩ := e5 (i / sz) (i % sz) (Nat.div_lt_of_lt_mul (by rw [Nat.mul_comm]; omega)) (Nat.mod_lt _ hs)
         rw [show i / sz * sz + i % sz = i by rw [Nat.mul_comm]; exact Nat.div_add_mod i _] at x1
         refine ⟨x, x1, x2, r1 F (f.of (.add _ _)) i v x hv ?_⟩
         rw [Nat.zero_add, yj5 _ _ _ hs]
         exact x3
       | none, ho =>
         have ho : n = 0 := ho
         subst ho
         show cs = []
         exact List.eq_nil_of_length_eq_zero (by omega)
     · cases e
   · cases e
 · cases e
theorem zyi {m m' : zds} {v : Ob} (e : ztc m v = some m') : Ext m m' /\ v ≠ .gone /\ ∀ F, Fin m' F -> zi2 h D (zfl μ F) v none := by
 unfold ztc at e
 split at e
 · cases e
   refine ⟨.add _ _, by simp, fun F f => ?_⟩
   exact (f.2 _ (List.mem_cons_self ..)).symm
 · cases e
   exact ⟨.refl _, by simp, fun F f => rfl⟩
 · cases e
structure yu1 (h : Array Obj) (D : Nat -> Prop) (μ : Mu) (s : St) (ice : List Nat) (F : List (Nat × Option Nat)) (tid : Nat) (o : Ob) : Prop where
 live : o ≠ .gone
 pair : ∃ x, za2 F tid = some x /\ match x with
   | some id => (zc7 s.ice id = true -> zc7 ice tid = true) /\ ∃ o', za2 s.objs id = some o' /\ o' ≠ .gone /\ ∀ y, zi2 h D μ o' y -> zi2 h D (zfl μ F) o y
   | none => zi2 h D (zfl μ F) o none
theorem ze1 {s : St} {ice : List Nat} : ∀ {ts : List (Nat × Ob)} {m m' : zds}, zi8 s ice ts m = some m' -> Ext m m' /\ ∀ F, Fin m' F -> ∀ tid o, za2 ts tid = some o -> yu1 h D μ s ice F tid o
 | [], m, m', e => by cases e; exact ⟨.refl _, fun F f t o ho => by cases ho⟩
 | (tid, o) :: r, m, m', e => by
   unfold zi8 at e
   split at e
   · rename_i id hid
     have key : ∀ o' m1, za2 s.objs id = some o' -> zvr m o o' = some m1 -> zi8 s ice r m1 = some m' -> (zc7 s.ice id = true -> zc7 ice tid = true) -> Ext m m' /\ ∀ F, Fin m' F -> ∀ t o1, za2 ((tid, o) :: r) t = some o1 -> yu1 h D μ s ice F t o1 := by
       intro o' m1 ho' hm e hice
       obtain ⟨x1, n1, n2, r1⟩ := ycq (h := h) (D := D) (μ := μ) hm
       obtain ⟨x2, r2⟩ := ze1 e
       refine ⟨x1.trans x2, fun F f t o1 ht => ?_⟩
       unfold za2 at ht
       split at ht
       · rename_i hb
         have := za4 hb; subst this
         cases ht
         exact ⟨n1, some id, f.1 _ _ (x2.ids _ _ (x1.ids _ _ hid)), hice, o', ho', n2, fun y hy => r1 F y (f.of x2) hy⟩
       · exact r2 F f t o1 ht
     split at e
     · cases e
     · rename_i hno
       split at e
       · rename_i o' ho'
         split at e
         · rename_i m1 hm
           refine key o' m1 ho' hm e fun hi => ?_
           cases hti : zc7 ice tid with
           | true => rfl
           | false => exact absurd hti (hno hi)
         · cases e
       · cases e
   · rename_i hid
     split at e
     · rename_i m1 hm
       obtain ⟨x1, n1, r1⟩ := zyi (h := h) (D := D) (μ := μ) hm
       obtain ⟨x2, r2⟩ := ze1 e
       refine ⟨x1.trans x2, fun F f t o1 ht => ?_⟩
       unfold za2 at ht
       split at ht
       · rename_i hb
         have := za4 hb; subst this
         cases ht
         exact ⟨n1, none, f.1 _ _ (x2.ids _ _ (x1.ids _ _ hid)), r1 F (f.of x2)⟩
       · exact r2 F f t o1 ht
     · cases e
   · cases e
end
theorem zqg {l : List Nat} {t : Nat} {x : Option Nat} (h : za2 (yaz l) t = some x) : x = some t := by
 induction l with
 | nil => simp [yaz, za2] at h
 | cons a l ih =>
   unfold yaz za2 at h
   split at h
   · rename_i e; cases h; rw [za4 e]
   · exact ih h
theorem zj3 {objs : List (Nat × Ob)} : ∀ {l : List (Nat × Option Nat)}, ydm objs l = true -> ∀ t x, za2 l t = some x -> za2 objs t ≠ none
 | [], _, t, x, h => by cases h
 | (k, y) :: l, e, t, x, h => by
   unfold ydm at e
   split at e
   · rename_i o ho
     unfold za2 at h
     split at h
     · rename_i hb; rw [<- za4 hb]; simp only at ho; rw [ho]; simp
     · exact zj3 e t x h
   · cases e
theorem zri {objs : List (Nat × Ob)} : ∀ {l : List Nat}, yiw objs l = true -> ∀ t, zc7 l t = true -> za2 objs t ≠ none
 | [], _, t, h => by cases h
 | k :: l, e, t, h => by
   unfold yiw at e
   split at e
   · rename_i o ho
     unfold zc7 at h
     split at h
     · rename_i hb; rw [<- za4 hb, ho]; simp
     · exact zri e t h
   · cases e
end Sy
end Go.Proofs.YtlphgephdhadhaaGreat
namespace Go.Proofs.YtlphgephdhadhaaGreat
namespace Sy
open Go Go.RowKit
set_option linter.unusedSimpArgs false
set_option linter.unusedVariables false
set_option linter.unusedSectionVars false
structure ylc (D : Nat -> Prop) (w : World) (μ : Mu) (O O1 : List (Nat × Ob)) (r : AV) (e : Ending) (v : Value) (w' : World) (D' : Nat -> Prop) (μ' : Mu) : Prop where
 ret : e = .returned v
 os : w'.os = w.os
 tape : w'.tape = w.tape
 output : w'.output = w.output
 size : w.heap.size <= w'.heap.size
 old : ∀ b, b < w.heap.size -> (∀ n z, μ n ≠ some (some (b, z))) -> w'.heap[b]? = w.heap[b]?
 up : ∀ b, D b -> D' b
 dn : ∀ b, D' b -> D b \/ (w.heap.size <= b /\ b < w'.heap.size) \/ ∃ n z, μ n = some (some (b, z))
 dom : ∀ n, μ' n = none ↔ za2 O1 n = none
 obs : ∀ n o x, za2 O1 n = some o -> μ' n = some x -> zi2 w'.heap D' μ' o x
 inj : ∀ n n' b z z', μ' n = some (some (b, z)) -> μ' n' = some (some (b, z')) -> n = n'
 own : ∀ n b z, μ' n = some (some (b, z)) -> b < w'.heap.size /\ ¬ D' b /\ (w.heap.size <= b \/ ∃ m z', μ m = some (some (b, z')))
 keep : ∀ n, za2 O n ≠ none -> za2 O1 n ≠ none -> μ' n = μ n
 val : R w'.heap D' μ' r v
def zb0 (P : Program) (f : FuncId) (xs : List AV) (O : List (Nat × Ob)) (r : AV) (O1 : List (Nat × Ob)) : Prop :=
 ∀ (D : Nat -> Prop) (w : World) (μ : Mu) (vs : Array Value), (∀ b, D b -> b < w.heap.size) -> RL w.heap D μ xs vs ->
   (∀ n, μ n = none ↔ za2 O n = none) -> (∀ n o x, za2 O n = some o -> μ n = some x -> zi2 w.heap D μ o x) ->
   (∀ n n' b z z', μ n = some (some (b, z)) -> μ n' = some (some (b, z')) -> n = n') -> (∀ n b z, μ n = some (some (b, z)) -> b < w.heap.size /\ ¬ D b) -> GOk w -> (∀ n b z, μ n = some (some (b, z)) -> gN <= b) ->
   zdv P f vs w fun e w' => ∃ v D' μ', ylc D w μ O O1 r e v w' D' μ'
structure yfo (g : Nat -> Option Ob) (c : Nat -> Bool) (raw : List AV) (F : List (Nat × Option Nat)) (fr : Nat) (T : ypx) : Prop where
 len : raw.length = T.xs.length
 xs : ∀ h D μ vs, RL h D μ raw vs -> RL h D (zfl μ F) T.xs vs
 inj : Inj F
 dom : ∀ n x, za2 F n = some x -> za2 T.O n ≠ none
 obs : ∀ n o, za2 T.O n = some o -> ∃ x, za2 F n = some x /\ match x with
   | some id => c id = false /\ ∃ o', g id = some o' /\ o' ≠ .gone /\ ∀ h D μ y, zi2 h D μ o' y -> zi2 h D (zfl μ F) o y
   | none => ∀ h D μ, zi2 h D (zfl μ F) o none
 fresh : ∀ n o, za2 T.O1 n = some o -> (∀ id, za2 F n ≠ some (some id)) -> g (fr + n) = none
 unpin : ∀ n o, za2 T.O1 n = some o -> (∀ id, za2 F n ≠ some (some id)) -> zfy (fr + n) = false
 ng : ∀ n, za2 T.O1 n ≠ some .gone
def mOs (F : List (Nat × Option Nat)) (fr : Nat) (T : ypx) : List (Nat × Ob) := zc5 (zn1 F fr T.O1) (zhb F T.O1 T.O)
theorem zf5 {α : Type} (os l : List (Nat × α)) (id : Nat) : za2 (zc5 os l) id = match za2 os id with | some o => some o | none => za2 l id := by
 induction os with
 | nil => rfl
 | cons x os ih =>
   obtain ⟨i, o⟩ := x
   simp only [zc5, za2]
   cases zav i id <;> simp [ih]
section
variable {F : List (Nat × Option Nat)} {fr : Nat} {h : Array Obj} {D : Nat -> Prop} {μ μ' : Mu}
theorem zkb (hμ : ∀ n y, μ n = some y -> μ' (tgt F fr n) = some y) {x : AV} {v : Value} (r : R h D μ x v) : R h D μ' (zy3 F fr x) v := by
 cases r with
 | dead v => exact .dead v
 | bool b => exact .bool b
 | int k n => exact .int k n
 | str l s e => exact .str l s e
 | nilp => exact .nilp
 | nilm => exact .nilm
 | nilf => exact .nilf
 | nils => exact .nils
 | nili => exact .nili
 | ifn => exact .ifn
 | ifs t p => exact .ifs t p
 | emp a cap => exact .emp a cap
 | emz a => exact .emz a
 | lst0 sz get a cap hn => exact .lst0 sz get a cap hn
 | lst sz n get b o cap vs hD hc hv h1 hr => exact .lst sz n get b o cap vs hD hc hv h1 hr
 | lstx sz n get a r => exact .lstx _ _ _ a (ztd r)
 | iptr n get b o vs hD hv h1 hr => exact .iptr n get b o vs hD hv h1 hr
 | arr n get vs e h1 hr => exact .arr n get vs e h1 hr
 | ref id off b z m hm => exact .ref _ off b z m (hμ _ _ hm)
 | eref id sz i off b z m hm hi => exact .eref _ sz i off b z m (hμ _ _ hm) hi
 | slv id sz a hm => exact .slv _ sz a (hμ _ _ hm)
 | sl0 id sz off b z m o hm ho => exact .sl0 _ sz off b z m o (hμ _ _ hm) ho
 | sl id sz off n b z m cap hm hn hz ho => exact .sl _ sz off n b z m cap (hμ _ _ hm) hn hz ho
 | slcv id sz a hm => exact .slcv _ sz a (hμ _ _ hm)
 | slc0 id sz off b z m o hm ho => exact .slc0 _ sz off b z m o (hμ _ _ hm) ho
 | slc id sz off n cap b z m hm hn hz ho => exact .slc _ sz off n cap b z m (hμ _ _ hm) hn hz ho
 | fn f xs ys vs us e1 e2 h1 h2 =>
   simp only [zy3]
   split
   · rename_i hf; exact (zei (.fn f xs ys vs us e1 e2 h1 h2) hf).free
   · exact .dead _
 | agg cs vs e h1 hr => exact .dead _
 | tup cs vs e hr => exact .dead _
 | mp id b z m hm => exact .mp _ b z m (hμ _ _ hm)
 | bidx id off n i b z m hm hi => exact .bidx _ off n i b z m (hμ _ _ hm) hi
 | mpi kk n has val b es clock kf hD hb hn hk hr => exact .mpi kk n has val b es clock kf hD hb hn hk hr
theorem zhp {α β : Type} (k : α -> β) (l : List α) (i : Nat) : (zd3 k l)[i]? = l[i]?.map k := by
 induction l generalizing i with
 | nil => rfl
 | cons x l ih => cases i with
   | zero => rfl
   | succ i => simp [zd3, ih]
theorem zgl {α β : Type} (k : α -> β) (l : List α) : (zd3 k l).length = l.length := by
 induction l with
 | nil => rfl
 | cons x l ih => simp [zd3, ih]
theorem yri (hμ : ∀ n y, μ n = some y -> μ' (tgt F fr n) = some y) {x : AV} {v : Value} (r : R h D μ x v) : R h D μ' (yrj F fr x) v := by
 unfold yrj
 split
 · obtain ⟨us, rfl, o1, s1, hr⟩ := r.inv_agg
   refine .agg _ _ (by rw [zgl]; exact s1) o1 fun i x v hx hv => ?_
   rw [zhp] at hx
   obtain ⟨y, hy, rfl⟩ := Option.map_eq_some_iff.1 hx
   exact zkb hμ (hr i y v hy hv)
 · obtain ⟨us, rfl, l1, hr⟩ := r.inv_tup
   refine .tup _ _ (by rw [zgl]; exact l1) fun i x v hx hv => ?_
   rw [zhp] at hx
   obtain ⟨y, hy, rfl⟩ := Option.map_eq_some_iff.1 hx
   exact zkb hμ (hr i y v hy hv)
 · split
   · rename_i hf; exact (zei r hf).free
   · cases r with
     | fn f xs ys vs us e1 e2 h1 h2 =>
       refine .fn _ _ _ _ _ (by rw [zgl]; exact e1) (by rw [zgl]; exact e2) (fun i x v hx hv => ?_) (fun i x v hx hv => ?_)
       · rw [zhp] at hx
         obtain ⟨y, hy, rfl⟩ := Option.map_eq_some_iff.1 hx
         exact zkb hμ (h1 i y v hy hv)
       · rw [zhp] at hx
         obtain ⟨y, hy, rfl⟩ := Option.map_eq_some_iff.1 hx
         exact zkb hμ (h2 i y v hy hv)
 · exact zkb hμ r
theorem yh6 (hμ : ∀ n y, μ n = some y -> μ' (tgt F fr n) = some y) {o : Ob} {x : Option (Nat × Nat × Nat)} (k : zi2 h D μ o x) : zi2 h D μ' (zy2 F fr o) x := by
 match o, x, k with
 | .box ty cs, some (b, z, m), ⟨c, t, q, e, r1, r2, r3, r4, r5⟩ =>
   refine ⟨c, t, q, e, r1, r2, r3, by rw [zgl]; exact r4, fun i x v hx hv => ?_⟩
   rw [zhp] at hx
   obtain ⟨y, hy, rfl⟩ := Option.map_eq_some_iff.1 hx
   exact zkb hμ (r5 i y v hy hv)
 | .row ty sz n get, some (b, z, m), k => exact k
 | .spr ty cs, some (b, z, m), ⟨c, t, q, e, r1, r2, r3, r4⟩ =>
   refine ⟨c, t, q, e, r1, r2, by rw [zgl]; exact r3, fun i x hx => ?_⟩
   rw [zhp] at hx
   obtain ⟨y, hy, rfl⟩ := Option.map_eq_some_iff.1 hx
   obtain ⟨v, v1, v2, v3⟩ := r4 i y hy
   exact ⟨v, v1, v2, zkb hμ v3⟩
 | .map kk n has val, some (b, z), k => exact k
 | .mapq e, some (b, z), k => exact k
 | .mapl kk l, some (b, z), ⟨es, clock, kf, e, r1, r2, r3, r4⟩ =>
   have hm : ∀ l : List (Ky × AV), (zd3 (fun x => (x.1, zy3 F fr x.2)) l).map Prod.fst = l.map Prod.fst := by
     intro l
     induction l with
     | nil => rfl
     | cons x l ih => simp [zd3, ih]
   have hk : ∀ (l : List (Ky × AV)) q, zbm (zd3 (fun x => (x.1, zy3 F fr x.2)) l) q = (zbm l q).map (zy3 F fr) := by
     intro l q
     induction l with
     | nil => rfl
     | cons x l ih => obtain ⟨k, x⟩ := x; simp only [zd3, zbm]; split <;> simp [ih]
   refine ⟨es, clock, kf, e, by rw [zgl]; exact r1, ?_, by rw [hm]; exact r3, fun i e' he' => ?_⟩
   · simp only [hk, Option.isSome_map]; exact r2
   · obtain ⟨y, y1, y2⟩ := r4 i e' he'
     exact ⟨_, by rw [hk, y1]; rfl, zkb hμ y2⟩
 | .row _ _ n _, none, k => exact k
 | .spr _ cs, none, k =>
   have k : cs = [] := k
   subst k
   rfl
 | .gone, _, _ => exact trivial
end
theorem zly {F : List (Nat × Option Nat)} {fr : Nat} : ∀ {O1 : List (Nat × Ob)} {i : Nat} {ob : Ob}, za2 (zn1 F fr O1) i = some ob -> ∃ n o, (n, o) ∈ O1 /\ tgt F fr n = i /\ ob = zy2 F fr o
 | [], i, ob, h => by cases h
 | (n, o) :: r, i, ob, h => by
   unfold zn1 za2 at h
   split at h
   · rename_i e; cases h; exact ⟨n, o, by simp, za4 e, rfl⟩
   · obtain ⟨m, o', h1, h2, h3⟩ := zly h
     exact ⟨m, o', List.mem_cons_of_mem _ h1, h2, h3⟩
theorem zoz {F : List (Nat × Option Nat)} {fr : Nat} : ∀ {O1 : List (Nat × Ob)} (_ : ∀ n n', za2 O1 n ≠ none -> za2 O1 n' ≠ none -> tgt F fr n = tgt F fr n' -> n = n') {n : Nat} {o : Ob}, za2 O1 n = some o -> za2 (zn1 F fr O1) (tgt F fr n) = some (zy2 F fr o)
 | [], hi, n, o, h => by cases h
 | (m, o') :: r, hi, n, o, h => by
   have h0 := h
   unfold za2 at h
   unfold zn1 za2
   cases e : zav m n with
   | true =>
     have := za4 e; subst this
     rw [e] at h; cases h
     simp [za6]
   | false =>
     rw [e] at h
     simp only at h
     have hne : m ≠ n := by rintro rfl; rw [za6] at e; cases e
     have : zav (tgt F fr m) (tgt F fr n) = false := zaq fun x => hne (hi m n (by simp [za2, za6]) (by rw [h0]; simp) x)
     rw [this]
     refine zoz (O1 := r) (fun k k' h1 h2 h3 => hi k k' ?_ ?_ h3) h
     · unfold za2; split
       · simp
       · exact h1
     · unfold za2; split
       · simp
       · exact h2
theorem zp2 {α : Type} : ∀ {l : List (Nat × α)} {n : Nat} {o : α}, (n, o) ∈ l -> za2 l n ≠ none
 | (m, o') :: r, n, o, h => by
   unfold za2
   split
   · simp
   · rename_i e
     rcases List.mem_cons.1 h with h | h
     · cases h; rw [za6] at e; cases e
     · exact zp2 h
theorem znt {F : List (Nat × Option Nat)} {O1 : List (Nat × Ob)} : ∀ {O : List (Nat × Ob)} {i : Nat} {ob : Ob}, za2 (zhb F O1 O) i = some ob -> ob = .gone /\ ∃ n, za2 O n ≠ none /\ za2 O1 n = none /\ za2 F n = some (some i)
 | [], i, ob, h => by cases h
 | (n, o) :: r, i, ob, h => by
   have up : ∀ {m}, za2 r m ≠ none -> za2 ((n, o) :: r) m ≠ none := by
     intro m hm
     unfold za2
     split
     · simp
     · exact hm
   have down : za2 (zhb F O1 r) i = some ob -> ob = .gone /\ ∃ m, za2 ((n, o) :: r) m ≠ none /\ za2 O1 m = none /\ za2 F m = some (some i) := fun h => by
     obtain ⟨h1, m, h2, h3, h4⟩ := znt h
     exact ⟨h1, m, up h2, h3, h4⟩
   unfold zhb at h
   split at h
   · exact down h
   · rename_i h1
     split at h
     · rename_i id hid
       unfold za2 at h
       split at h
       · rename_i e
         cases h
         exact ⟨rfl, n, by simp [za2, za6], h1, by rw [hid, za4 e]⟩
       · exact down h
     · exact down h
theorem zme {F : List (Nat × Option Nat)} {O1 : List (Nat × Ob)} : ∀ {O : List (Nat × Ob)} {n i : Nat}, za2 O n ≠ none -> za2 O1 n = none -> za2 F n = some (some i) -> za2 (zhb F O1 O) i = some .gone
 | [], n, i, h, _, _ => by simp [za2] at h
 | (m, o) :: r, n, i, h, h1, h2 => by
   unfold zhb
   unfold za2 at h
   cases e : zav m n with
   | true =>
     have := za4 e; subst this
     rw [h1, h2]
     simp [za2, za6]
   | false =>
     rw [e] at h
     have ih := zme (O := r) h h1 h2
     split
     · exact ih
     · split
       · unfold za2; split
         · rfl
         · exact ih
       · exact ih
section
variable {P : Program} {base : Nat} {M : Two} {W : World} {nt : Nat} {f : Nat -> Option AV} {g : Nat -> Option Ob} {c : Nat -> Bool} {a : Act} {w : World} {D : Nat -> Prop} {μ : Mu}
variable {raw : List AV} {F : List (Nat × Option Nat)} {fr : Nat} {T : ypx}
theorem yfo.tgt_inj (hm : yfo g c raw F fr T) : ∀ n n', za2 T.O1 n ≠ none -> za2 T.O1 n' ≠ none -> tgt F fr n = tgt F fr n' -> n = n' := by
 have key : ∀ n n' id, za2 T.O1 n' ≠ none -> za2 F n = some (some id) -> (∀ id, za2 F n' ≠ some (some id)) -> id ≠ fr + n' := by
   intro n n' id h1 h2 h3 e
   obtain ⟨o, ho⟩ := Option.ne_none_iff_exists'.1 (hm.dom n _ h2)
   obtain ⟨x, hx, hx2⟩ := hm.obs n o ho
   rw [h2] at hx; cases hx
   obtain ⟨_, o', ho', _⟩ := hx2
   obtain ⟨o1, ho1⟩ := Option.ne_none_iff_exists'.1 h1
   rw [e, hm.fresh n' o1 ho1 h3] at ho'
   cases ho'
 have no : ∀ {n}, ¬ (∃ id, za2 F n = some (some id)) -> (∀ id, za2 F n ≠ some (some id)) /\ tgt F fr n = fr + n := by
   intro n h
   refine ⟨fun id e => h ⟨id, e⟩, ?_⟩
   unfold tgt
   split
   · rename_i id e; exact absurd ⟨id, e⟩ h
   · rfl
 have yes : ∀ {n id}, za2 F n = some (some id) -> tgt F fr n = id := by
   intro n id h; unfold tgt; rw [h]
 intro n n' h1 h2 h3
 by_cases e : ∃ id, za2 F n = some (some id) <;> by_cases e' : ∃ id, za2 F n' = some (some id)
 · obtain ⟨id, e⟩ := e
   obtain ⟨id', e'⟩ := e'
   rw [yes e, yes e'] at h3
   subst h3
   exact hm.inj _ _ _ e e'
 · obtain ⟨id, e⟩ := e
   obtain ⟨q1, q2⟩ := no e'
   rw [yes e, q2] at h3
   exact absurd h3 (key n n' id h2 e q1)
 · obtain ⟨id, e'⟩ := e'
   obtain ⟨q1, q2⟩ := no e
   rw [yes e', q2] at h3
   exact absurd h3.symm (key n' n id h1 e' q1)
 · rw [(no e).2, (no e').2] at h3
   omega
theorem yfo.asks (hm : yfo g c raw F fr T) (h : Sim base M W nt f g c a w D μ) :
   (∀ n, zfl μ F n = none ↔ za2 T.O n = none) /\ (∀ n o x, za2 T.O n = some o -> zfl μ F n = some x -> zi2 w.heap D (zfl μ F) o x) /\
   (∀ n n' b z z', zfl μ F n = some (some (b, z)) -> zfl μ F n' = some (some (b, z')) -> n = n') /\ (∀ n b z, zfl μ F n = some (some (b, z)) -> b < w.heap.size /\ ¬ D b /\ ∃ id o, za2 F n = some (some id) /\ μ id = some (some (b, z)) /\ g id = some o /\ o ≠ .gone /\ c id = false) := by
 have own : ∀ n b z, zfl μ F n = some (some (b, z)) -> ∃ id o, za2 F n = some (some id) /\ μ id = some (some (b, z)) /\ g id = some o /\ o ≠ .gone /\ c id = false := by
   intro n b z hn
   unfold zfl at hn
   split at hn
   · rename_i id hid
     obtain ⟨o, ho⟩ := Option.ne_none_iff_exists'.1 (hm.dom n _ hid)
     obtain ⟨x, hx, hx2⟩ := hm.obs n o ho
     rw [hid] at hx; cases hx
     obtain ⟨c1, o', ho', ho2, _⟩ := hx2
     exact ⟨id, o', hid, hn, ho', ho2, c1⟩
   · cases hn
   · cases hn
 refine ⟨fun n => ⟨fun hn => ?_, fun hn => ?_⟩, fun n o x ho hx => ?_, fun n n' b z z' h1 h2 => ?_, fun n b z h1 => ?_⟩
 · refine Classical.byContradiction fun hne => ?_
   obtain ⟨o, ho⟩ := Option.ne_none_iff_exists'.1 hne
   obtain ⟨x, hx, hx2⟩ := hm.obs n o ho
   unfold zfl at hn
   rw [hx] at hn
   cases x with
   | none => cases hn
   | some id =>
     obtain ⟨_, o', ho', _⟩ := hx2
     rw [(h.dom id).1 hn] at ho'
     cases ho'
 · unfold zfl
   split
   · rename_i e; exact absurd hn (hm.dom n _ e)
   · rename_i e; exact absurd hn (hm.dom n _ e)
   · rfl
 · obtain ⟨y, hy, hy2⟩ := hm.obs n o ho
   unfold zfl at hx
   rw [hy] at hx
   cases y with
   | none => cases hx; exact hy2 _ _ _
   | some id =>
     obtain ⟨_, o', ho', _, ho3⟩ := hy2
     exact ho3 _ _ _ _ (h.obs id o' x ho' hx)
 · obtain ⟨id, o, q1, q2, q3, q4, q5⟩ := own n b z h1
   obtain ⟨id', o', r1, r2, r3, r4, r5⟩ := own n' b z' h2
   have := h.inj id id' b z z' o o' q2 r2 q3 r3 q4 r4
   subst this
   exact hm.inj _ _ _ q1 r1
 · obtain ⟨id, o, q1, q2, q3, q4, q5⟩ := own n b z h1
   exact ⟨(h.own id b z q2).1, (h.kd id b z o q2 q3 q4).2 q5, id, o, q1, q2, q3, q4, q5⟩
open Classical in
noncomputable def muM (μ μ1 : Mu) (F : List (Nat × Option Nat)) (fr : Nat) (O1 : List (Nat × Ob)) : Mu := fun i =>
 if e : ∃ n, za2 O1 n ≠ none /\ tgt F fr n = i then μ1 (Classical.choose e) else μ i
theorem ynd (hm : yfo g c raw F fr T) (μ1 : Mu) {n : Nat} (hn : za2 T.O1 n ≠ none) : muM μ μ1 F fr T.O1 (tgt F fr n) = μ1 n := by
 unfold muM
 have e : ∃ m, za2 T.O1 m ≠ none /\ tgt F fr m = tgt F fr n := ⟨n, hn, rfl⟩
 rw [dif_pos e]
 have := Classical.choose_spec e
 rw [hm.tgt_inj _ _ this.1 hn this.2]
theorem ycj {μ1 : Mu} {O1 : List (Nat × Ob)} {i : Nat} (hn : ¬ ∃ n, za2 O1 n ≠ none /\ tgt F fr n = i) : muM μ μ1 F fr O1 i = μ i := by
 unfold muM; rw [dif_neg hn]
theorem Sim.mcall (h : Sim base M W nt f g c a w D μ) (hm : yfo g c raw F fr T) {e : Ending} {v : Value} {w' : World} {D' : Nat -> Prop} {μ1 : Mu} (he : ylc D w (zfl μ F) T.O T.O1 T.r e v w' D' μ1) :
   ∃ μ', Sim base M W nt f (zbb g (mOs F fr T)) c a w' D' μ' /\ R w'.heap D' μ' (yrj F fr T.r) v := by
 obtain ⟨a1, a2, a3, a4⟩ := hm.asks h
 have tin := hm.tgt_inj
 obtain ⟨μ', hμ'⟩ : ∃ μ', μ' = muM μ μ1 F fr T.O1 := ⟨_, rfl⟩
 have m1 : ∀ n, za2 T.O1 n ≠ none -> μ' (tgt F fr n) = μ1 n := fun n hn => by rw [hμ']; exact ynd hm μ1 hn
 have m2 : ∀ i, (¬ ∃ n, za2 T.O1 n ≠ none /\ tgt F fr n = i) -> μ' i = μ i := fun i hn => by rw [hμ']; exact ycj hn
 have m3 : ∀ n y, μ1 n = some y -> μ' (tgt F fr n) = some y := fun n y hy => by
   rw [m1 n (fun e => by rw [(he.dom n).2 e] at hy; cases hy), hy]
 have ext : ∀ id x, μ id = some x -> μ' id = some x := by
   intro id x hx
   by_cases e : ∃ n, za2 T.O1 n ≠ none /\ tgt F fr n = id
   · obtain ⟨n, hn, rfl⟩ := e
     rw [m1 n hn]
     by_cases e2 : ∃ id, za2 F n = some (some id)
     · obtain ⟨id, hid⟩ := e2
       have ht : tgt F fr n = id := by unfold tgt; rw [hid]
       rw [ht] at hx
       rw [he.keep n (hm.dom n _ hid) hn]
       unfold zfl; rw [hid]; exact hx
     · have hno : ∀ id, za2 F n ≠ some (some id) := fun id e => e2 ⟨id, e⟩
       have ht : tgt F fr n = fr + n := by
         unfold tgt
         split
         · rename_i id e; exact absurd e (hno id)
         · rfl
       obtain ⟨o, ho⟩ := Option.ne_none_iff_exists'.1 hn
       rw [ht, (h.dom _).2 (hm.fresh n o ho hno)] at hx
       cases hx
   · rw [m2 id e]; exact hx
 have hos1 : ∀ n o, za2 T.O1 n = some o -> zbb g (mOs F fr T) (tgt F fr n) = some (zy2 F fr o) := by
   intro n o ho
   unfold zbb mOs
   rw [zf5, zoz tin ho]
 have hos2 : ∀ i, (¬ ∃ n, za2 T.O1 n ≠ none /\ tgt F fr n = i) -> (∃ n, za2 T.O n ≠ none /\ za2 T.O1 n = none /\ za2 F n = some (some i)) -> zbb g (mOs F fr T) i = some .gone := by
   rintro i hn ⟨n, h1, h2, h3⟩
   unfold zbb mOs
   rw [zf5]
   cases e : za2 (zn1 F fr T.O1) i with
   | some ob =>
     obtain ⟨m, o, q1, q2, _⟩ := zly e
     exact absurd ⟨m, zp2 q1, q2⟩ hn
   | none => simp only; rw [zme h1 h2 h3]
 have hos3 : ∀ i, (¬ ∃ n, za2 T.O1 n ≠ none /\ tgt F fr n = i) -> (¬ ∃ n, za2 T.O n ≠ none /\ za2 T.O1 n = none /\ za2 F n = some (some i)) -> zbb g (mOs F fr T) i = g i := by
   intro i hn hn2
   unfold zbb mOs
   rw [zf5]
   cases e : za2 (zn1 F fr T.O1) i with
   | some ob =>
     obtain ⟨m, o, q1, q2, _⟩ := zly e
     exact absurd ⟨m, zp2 q1, q2⟩ hn
   | none =>
     simp only
     cases e2 : za2 (zhb F T.O1 T.O) i with
     | none => rfl
     | some ob => exact absurd (znt e2).2 hn2
 have alive : ∀ i o, zbb g (mOs F fr T) i = some o -> o ≠ .gone -> (∃ n o1, za2 T.O1 n = some o1 /\ tgt F fr n = i /\ o = zy2 F fr o1) \/ (g i = some o /\ μ' i = μ i /\ ∀ n, za2 F n ≠ some (some i)) := by
   intro i o ho hng
   by_cases e : ∃ n, za2 T.O1 n ≠ none /\ tgt F fr n = i
   · obtain ⟨n, hn, rfl⟩ := e
     obtain ⟨o1, ho1⟩ := Option.ne_none_iff_exists'.1 hn
     rw [hos1 n o1 ho1] at ho
     cases ho
     exact .inl ⟨n, o1, ho1, rfl, rfl⟩
   · by_cases e2 : ∃ n, za2 T.O n ≠ none /\ za2 T.O1 n = none /\ za2 F n = some (some i)
     · rw [hos2 i e e2] at ho; cases ho; exact absurd rfl hng
     · rw [hos3 i e e2] at ho
       refine .inr ⟨ho, m2 i e, fun n hn => ?_⟩
       by_cases e3 : za2 T.O1 n = none
       · exact e2 ⟨n, hm.dom n _ hn, e3, hn⟩
       · exact e ⟨n, e3, by unfold tgt; rw [hn]⟩
 have other : ∀ i o b z, g i = some o -> o ≠ .gone -> μ i = some (some (b, z)) -> (∀ n, za2 F n ≠ some (some i)) -> ∀ n z', zfl μ F n ≠ some (some (b, z')) := by
   intro i o b z hi hng hb hno n z' hn
   obtain ⟨_, _, id, o', q1, q2, q3, q4, q5⟩ := a4 n b z' hn
   have := h.inj i id b z z' o o' hb q2 hi q3 hng q4
   subst this
   exact hno n q1
 have hD : ∀ b, D b -> w'.heap[b]? = w.heap[b]? := fun b hb => he.old b (h.dlt b hb) fun n z hn => (a4 n b z hn).2.1 hb
 refine ⟨μ', ?_, yri m3 he.val⟩
 exact {
   os := he.os.trans h.os
   tape := he.tape.trans h.tape
   output := he.output.trans h.output
   size := Nat.le_trans h.size he.size
   bs := Nat.le_trans h.bs he.size
   old := fun b h1 h2 => (he.old b (by have := h.bs; omega) fun n z hn => by
     obtain ⟨_, _, id, o', q1, q2, _⟩ := a4 n b z hn
     rcases (h.own id b z q2).2 with q | q
     · omega
     · exact h2 q).trans (h.old b h1 h2)
   defers := h.defers
   tmps := h.tmps
   slots := fun t v hv => (h.slots t v hv).mono hD he.up ext
   dlt := fun b hb => by
     rcases he.dn b hb with q | q | ⟨n, z, q⟩
     · exact Nat.lt_of_lt_of_le (h.dlt b q) he.size
     · exact q.2
     · exact Nat.lt_of_lt_of_le (a4 n b z q).1 he.size
   low := fun b hb hlt => by
     rcases he.dn b hb with q | q | ⟨n, z, q⟩
     · exact h.low b q hlt
     · have := h.bs; omega
     · obtain ⟨_, _, id, o', q1, q2, _⟩ := a4 n b z q
       rcases (h.own id b z q2).2 with q | q
       · omega
       · exact .inr q
   dom := fun i => by
     by_cases e : ∃ n, za2 T.O1 n ≠ none /\ tgt F fr n = i
     · obtain ⟨n, hn, rfl⟩ := e
       obtain ⟨o1, ho1⟩ := Option.ne_none_iff_exists'.1 hn
       rw [m1 n hn, hos1 n o1 ho1, he.dom n, ho1]
       simp
     · rw [m2 i e]
       by_cases e2 : ∃ n, za2 T.O n ≠ none /\ za2 T.O1 n = none /\ za2 F n = some (some i)
       · rw [hos2 i e e2]
         obtain ⟨n, h1, h2, h3⟩ := e2
         obtain ⟨o, ho⟩ := Option.ne_none_iff_exists'.1 h1
         obtain ⟨x, hx, hx2⟩ := hm.obs n o ho
         rw [h3] at hx; cases hx
         obtain ⟨_, o', ho', _⟩ := hx2
         rw [h.dom i, ho']; simp
       · rw [hos3 i e e2]; exact h.dom i
   obs := fun i o x ho hx => by
     by_cases hg : o = .gone
     · subst hg; cases x <;> exact trivial
     rcases alive i o ho hg with ⟨n, o1, q1, rfl, rfl⟩ | ⟨q1, q2, q3⟩
     · rw [m1 n (by rw [q1]; simp)] at hx
       exact yh6 m3 (he.obs n o1 x q1 hx)
     · rw [q2] at hx
       exact (h.obs i o x q1 hx).mono hD he.up ext (fun b z hx2 _ => he.old b (h.own i b z (by rw [hx, hx2])).1 (other i o b z q1 hg (by rw [hx, hx2]) q3))
   inj := fun i i' b z z' o o' h1 h2 h3 h4 h5 h6 => by
     rcases alive i o h3 h5 with ⟨n, o1, q1, rfl, rfl⟩ | ⟨q1, q2, q3⟩ <;> rcases alive i' o' h4 h6 with ⟨n', o1', q1', rfl, rfl⟩ | ⟨q1', q2', q3'⟩
     · rw [m1 n (by rw [q1]; simp)] at h1
       rw [m1 n' (by rw [q1']; simp)] at h2
       rw [he.inj n n' b z z' h1 h2]
     · rw [m1 n (by rw [q1]; simp)] at h1
       rw [q2'] at h2
       rcases (he.own n b z h1).2.2 with q | ⟨m, z2, q⟩
       · have := (h.own i' b z' h2).1; omega
       · exact absurd q (other i' o' b z' q1' h6 h2 q3' m z2)
     · rw [m1 n' (by rw [q1']; simp)] at h2
       rw [q2] at h1
       rcases (he.own n' b z' h2).2.2 with q | ⟨m, z2, q⟩
       · have := (h.own i b z h1).1; omega
       · exact absurd q (other i o b z q1 h5 h1 q3 m z2)
     · rw [q2] at h1; rw [q2'] at h2
       exact h.inj i i' b z z' o o' h1 h2 q1 q1' h5 h6
   own := fun i b z h1 => by
     by_cases e : ∃ n, za2 T.O1 n ≠ none /\ tgt F fr n = i
     · obtain ⟨n, hn, rfl⟩ := e
       rw [m1 n hn] at h1
       obtain ⟨k1, k2, k3⟩ := he.own n b z h1
       refine ⟨k1, ?_⟩
       rcases k3 with q | ⟨m, z2, q⟩
       · have := h.bs; exact .inl (by omega)
       · obtain ⟨_, _, id, o', q1, q2, _⟩ := a4 m b z2 q
         exact (h.own id b z2 q2).2
     · rw [m2 i e] at h1
       exact ⟨Nat.lt_of_lt_of_le (h.own i b z h1).1 he.size, (h.own i b z h1).2⟩
   kd := fun i b z o h1 h2 h3 => by
     rcases alive i o h2 h3 with ⟨n, o1, q1, rfl, rfl⟩ | ⟨q1, q2, q3⟩
     · rw [m1 n (by rw [q1]; simp)] at h1
       have k := (he.own n b z h1).2.1
       have hc : c (tgt F fr n) = false := by
         by_cases e2 : ∃ id, za2 F n = some (some id)
         · obtain ⟨id, hid⟩ := e2
           have ht : tgt F fr n = id := by unfold tgt; rw [hid]
           obtain ⟨o, ho⟩ := Option.ne_none_iff_exists'.1 (hm.dom n _ hid)
           obtain ⟨x, hx, hx2⟩ := hm.obs n o ho
           rw [hid] at hx; cases hx
           rw [ht]; exact hx2.1
         · have hno : ∀ id, za2 F n ≠ some (some id) := fun id e => e2 ⟨id, e⟩
           have ht : tgt F fr n = fr + n := by
             unfold tgt
             split
             · rename_i id e; exact absurd e (hno id)
             · rfl
           rw [ht]
           cases hc : c (fr + n) with
           | false => rfl
           | true => exact absurd (hm.fresh n o1 q1 hno) (h.icy _ hc)
       exact ⟨fun hx => (by rw [hc] at hx; cases hx), fun _ => k⟩
     · rw [q2] at h1
       obtain ⟨k1, k2⟩ := h.kd i b z o h1 q1 h3
       refine ⟨fun hc => he.up b (k1 hc), fun hc hd => ?_⟩
       rcases he.dn b hd with q | q | ⟨n, z2, q⟩
       · exact k2 hc q
       · have := (h.own i b z h1).1; omega
       · exact other i o b z q1 h3 h1 q3 n z2 q
   ntb := h.ntb
   gl := h.gl
   pin := fun i y hp hy => by
     by_cases e : ∃ n, za2 T.O1 n ≠ none /\ tgt F fr n = i
     · obtain ⟨n, hn, rfl⟩ := e
       by_cases e2 : ∃ id, za2 F n = some (some id)
       · obtain ⟨id, hid⟩ := e2
         have ht : tgt F fr n = id := by unfold tgt; rw [hid]
         rw [m1 n hn, he.keep n (hm.dom n _ hid) hn] at hy
         unfold zfl at hy; rw [hid] at hy
         rw [ht] at hp |-
         exact h.pin id y hp hy
       · have hno : ∀ id, za2 F n ≠ some (some id) := fun id e => e2 ⟨id, e⟩
         have ht : tgt F fr n = fr + n := by
           unfold tgt
           split
           · rename_i id e; exact absurd e (hno id)
           · rfl
         obtain ⟨o1, ho1⟩ := Option.ne_none_iff_exists'.1 hn
         rw [ht, hm.unpin n o1 ho1 hno] at hp; cases hp
     · rw [m2 i e] at hy; exact h.pin i y hp hy
   icy := fun i hi => by
     have := h.icy i hi
     by_cases e : ∃ n, za2 T.O1 n ≠ none /\ tgt F fr n = i
     · obtain ⟨n, hn, rfl⟩ := e
       obtain ⟨o1, ho1⟩ := Option.ne_none_iff_exists'.1 hn
       rw [hos1 n o1 ho1]; simp
     · by_cases e2 : ∃ n, za2 T.O n ≠ none /\ za2 T.O1 n = none /\ za2 F n = some (some i)
       · rw [hos2 i e e2]; simp
       · rw [hos3 i e e2]; exact this }
end
theorem zee {α : Type} : ∀ (xs : List α) (i t : Nat), za2 (zqu i xs) t = if i <= t then xs[t - i]? else none
 | [], i, t => by simp [zqu, za2]
 | x :: xs, i, t => by
   unfold zqu za2
   cases e : zav i t with
   | true => have := za4 e; subst this; simp
   | false =>
     have hne : i ≠ t := by rintro rfl; rw [za6] at e; cases e
     simp only
     rw [zee xs (i + 1) t]
     by_cases h : i <= t
     · rw [if_pos (by omega), if_pos h]
       obtain ⟨k, hk⟩ : ∃ k, t - i = k + 1 := ⟨t - i - 1, by omega⟩
       rw [hk, show t - (i + 1) = k by omega]
       simp
     · rw [if_neg (by omega), if_neg h]
theorem zgn {objs : List (Nat × Ob)} {F : List (Nat × Option Nat)} {fr : Nat} : ∀ {O1 : List (Nat × Ob)}, zjz objs F fr O1 = true -> ∀ n o, za2 O1 n = some o -> (∀ id, za2 F n ≠ some (some id)) -> za2 objs (fr + n) = none /\ zfy (fr + n) = false
 | [], _, n, o, h, _ => by cases h
 | (m, o') :: r, e, n, o, h, hno => by
   unfold zjz at e
   unfold za2 at h
   split at e
   · rename_i id hid
     split at h
     · rename_i hb
       rw [za4 hb] at hid
       exact absurd hid (hno id)
     · exact zgn e n o h hno
   · split at e
     · rename_i hf hp
       split at h
       · rename_i hb; rw [za4 hb] at hf hp; exact ⟨hf, hp⟩
       · exact zgn e n o h hno
     · cases e
theorem ze0 : ∀ {O1 : List (Nat × Ob)}, zvn O1 = true -> ∀ n, za2 O1 n ≠ some .gone
 | [], _, n => by simp [za2]
 | (m, o) :: r, e, n => by
   unfold za2
   unfold zvn at e
   cases o with
   | gone => cases e
   | box _ _ =>
     split
     · simp
     · exact ze0 e n
   | row _ _ _ _ =>
     split
     · simp
     · exact ze0 e n
   | spr _ _ =>
     split
     · simp
     · exact ze0 e n
   | map _ _ _ _ =>
     split
     · simp
     · exact ze0 e n
   | mapl _ _ =>
     split
     · simp
     · exact ze0 e n
   | mapq _ =>
     split
     · simp
     · exact ze0 e n
theorem yhy {s : St} {raw : List AV} {T : ypx} {m : zds} {fr : Nat} (e : ynf s raw T = some m) (hf : zjz s.objs m.ids fr T.O1 = true) (hp : ∀ p, p ∈ m.ps -> p) : yfo (za2 s.objs) (zc7 s.ice) raw m.ids fr T := by
 unfold ynf at e
 split at e
 · rename_i hlen
   have hlen := za4 hlen
   rw [zap, zap] at hlen
   split at e
   · rename_i m1 e1
     split at e
     · rename_i m2 e2
       split at e
       · rename_i h3 h4
         cases e
         have x1 := fun h D μ a => zff (h := h) (D := D) (μ := μ) (a := a) e1
         have x2 := fun h D μ => ze1 (h := h) (D := D) (μ := μ) e2
         have F0 : Fin m m.ids := ⟨fun _ _ h => h, hp⟩
         have X1 := (x1 #[] (fun _ => False) zaz ⟨#[], []⟩).1
         have X2 := (x2 #[] (fun _ => False) zaz).1
         refine { len := hlen, xs := fun h D μ vs hr => ?_, inj := X2.inj (X1.inj (fun t t' id h => by cases h)), dom := fun n x hx => zj3 h3 n x hx, obs := fun n o ho => ?_, fresh := fun n o h1 h2 => (zgn hf n o h1 h2).1, unpin := fun n o h1 h2 => (zgn hf n o h1 h2).2, ng := ze0 h4 }
         · refine ⟨by rw [<- hlen]; exact hr.1, fun i x v hx hv => ?_⟩
           have := (x1 h D μ ⟨vs, []⟩).2 m.ids (F0.of X2) (fun t u hu => by
             rw [zee, if_pos (by omega), Nat.sub_zero] at hu
             have hlt : t < vs.size := by rw [<- hr.1]; exact (List.getElem?_eq_some_iff.1 hu).1
             have h1 : vs[t]? = some vs[t] := by simp [hlt]
             have h2 : vs.getD t undef = vs[t] := by rw [Array.getD_eq_getD_getElem?, h1]; rfl
             rw [h2]
             exact hr.2 t u _ hu h1) i x (by rw [zee, if_pos (by omega), Nat.sub_zero]; exact hx)
           have h2 : vs.getD i undef = v := by rw [Array.getD_eq_getD_getElem?, hv]; rfl
           rw [h2] at this
           exact this
         · obtain ⟨x, hx, _⟩ := ((x2 #[] (fun _ => False) zaz).2 m.ids F0 n o ho).pair
           refine ⟨x, hx, ?_⟩
           cases x with
           | none =>
             intro h D μ
             obtain ⟨y, hy, hy2⟩ := ((x2 h D μ).2 m.ids F0 n o ho).pair
             rw [hx] at hy; cases hy; exact hy2
           | some id =>
             have hh := fun h D μ => ((x2 h D μ).2 m.ids F0 n o ho).pair
             obtain ⟨y, hy, hy2⟩ := hh #[] (fun _ => False) zaz
             rw [hx] at hy; cases hy
             obtain ⟨q1, o', q2, q3, _⟩ := hy2
             refine ⟨?_, o', q2, q3, fun h D μ z hz => ?_⟩
             · cases hc : zc7 s.ice id with
               | false => rfl
               | true => exact absurd (q1 hc) (by simp [zc7])
             · obtain ⟨y, hy, hy2⟩ := hh h D μ
               rw [hx] at hy; cases hy
               obtain ⟨_, o2, r2, _, r4⟩ := hy2
               rw [q2] at r2; cases r2
               exact r4 z hz
       · cases e
     · cases e
   · cases e
 · cases e
def yld (P : Program) (f : Nat -> Option AV) (g : Nat -> Option Ob) (c : Nat -> Bool) (o : Oper) (v : AV) (os : List (Nat × Ob)) : Prop :=
 ∃ fo xs ts k first caps zs F fr T, o.op = .call { callee := .value fo, args := xs, argTypes := ts } /\ zd3 (evf f []) (zc4 o.op) = .fn k first caps :: zs /\ zb0 P k T.xs T.O T.r T.O1 /\
   yfo g c (zc5 first (zc5 zs caps)) F fr T /\ v = yrj F fr T.r /\ os = mOs F fr T
theorem zpf : ∀ {os : List (Nat × Ob)} {id : Nat}, za2 os id ≠ none -> id ∈ zwj os
 | [], id, h => by simp [za2] at h
 | (i, o) :: r, id, h => by
   unfold za2 at h
   unfold zwj
   split at h
   · rename_i e; rw [za4 e]; simp
   · exact List.mem_cons_of_mem _ (zpf h)
theorem yfo.congr {g g' : Nat -> Option Ob} {c c' : Nat -> Bool} {raw : List AV} {F : List (Nat × Option Nat)} {fr : Nat} {T : ypx} (hm : yfo g c raw F fr T) (hg : ∀ id, id ∈ zwj (mOs F fr T) -> g' id = g id) (hc : ∀ id, id ∈ zwj (mOs F fr T) -> c' id = c id) : yfo g' c' raw F fr T := by
 have tin := hm.tgt_inj
 have k1 : ∀ n, za2 T.O1 n ≠ none -> tgt F fr n ∈ zwj (mOs F fr T) := by
   intro n hn
   obtain ⟨o1, ho1⟩ := Option.ne_none_iff_exists'.1 hn
   refine zpf ?_
   unfold mOs
   rw [zf5, zoz tin ho1]; simp
 have k2 : ∀ n id, za2 F n = some (some id) -> id ∈ zwj (mOs F fr T) := by
   intro n id hid
   by_cases e : za2 T.O1 n = none
   · refine zpf ?_
     unfold mOs
     rw [zf5]
     cases za2 (zn1 F fr T.O1) id with
     | some _ => simp
     | none => simp only; rw [zme (hm.dom n _ hid) e hid]; simp
   · have := k1 n e
     unfold tgt at this
     rwa [hid] at this
 refine { len := hm.len, xs := hm.xs, inj := hm.inj, dom := hm.dom, obs := fun n o ho => ?_, fresh := fun n o ho hno => ?_, unpin := hm.unpin, ng := hm.ng }
 · obtain ⟨x, hx, hx2⟩ := hm.obs n o ho
   refine ⟨x, hx, ?_⟩
   cases x with
   | none => exact hx2
   | some id =>
     have := k2 n id hx
     show c' id = false /\ ∃ o', g' id = some o' /\ _
     rw [hg id this, hc id this]
     exact hx2
 · have : tgt F fr n = fr + n := by
     unfold tgt
     split
     · rename_i id e; exact absurd e (hno id)
     · rfl
   have k := k1 n (by rw [ho]; simp)
   rw [this] at k
   rw [hg _ k]
   exact hm.fresh n o ho hno
section
variable {P : Program} {base : Nat} {M : Two} {W : World} {nt : Nat} {f : Nat -> Option AV} {g : Nat -> Option Ob} {c : Nat -> Bool} {a : Act} {w : World} {D : Nat -> Prop} {μ : Mu} {o : Oper}
theorem yx6 (h : Sim base M W nt f g c a w D μ) (hd : ∀ d, o.dst = some d -> d < nt) (hpl : ∀ x ∈ zc4 o.op, ∀ v, x = .const v -> zir v = true) {v : AV} {os : List (Nat × Ob)} (hh : yld P f g c o v os) : Adv P base M W nt f g c o a w v os [] := by
 obtain ⟨fo, xs, ts, k, first, caps, zs, F, fr, T, e, hvals, hM, hm, rfl, rfl⟩ := hh
 have hv : ∀ l : List Operand, (∀ x ∈ l, ∀ v, x = .const v -> zir v = true) -> Ops w.heap D μ a l (zd3 (evf f []) l) := by
   intro l
   induction l with
   | nil => intro _; trivial
   | cons x l ih => intro hp; exact ⟨yot h (fun t b ht => by simp [za2] at ht) x (fun v hv => hp x (by simp) v hv), ih (fun y hy => hp y (by simp [hy]))⟩
 have hv := hv _ hpl
 rw [hvals] at hv
 rw [e] at hv
 simp only [zc4] at hv
 obtain ⟨hf, hv⟩ := hv
 intro K Q hK
 obtain ⟨o1, o2⟩ := zve hv
 obtain ⟨vs, us, hfv, e1, e2, r1, r2⟩ : ∃ vs us, a.eval fo = .func (.func k) vs us /\ first.length = vs.size /\ caps.length = us.size /\ (∀ (i : Nat) x v, first[i]? = some x -> vs[i]? = some v -> R w.heap D μ x v) /\ (∀ (i : Nat) x v, caps[i]? = some x -> us[i]? = some v -> R w.heap D μ x v) := by
   generalize a.eval fo = u at hf
   cases hf with
   | fn _ _ _ vs us e1 e2 h1 h2 => exact ⟨vs, us, rfl, e1, e2, h1, h2⟩
 have hl : zs.length = xs.size := by rw [o1]; simp
 have hsz : (zc5 first (zc5 zs caps)).length = ((vs ++ xs.map a.eval) ++ us).size := by rw [zax, zax]; simp [e1, e2, hl]
 have hraw : ∀ (i : Nat) y v, (zc5 first (zc5 zs caps))[i]? = some y -> ((vs ++ xs.map a.eval) ++ us)[i]? = some v -> R w.heap D μ y v := by
   intro i x v hx hv'
   rw [zax, zax] at hx
   rw [Array.append_assoc] at hv'
   by_cases i1 : i < first.length
   · rw [List.getElem?_append_left i1] at hx
     rw [Array.getElem?_append_left (by omega)] at hv'
     exact r1 i x v hx hv'
   · rw [List.getElem?_append_right (by omega)] at hx
     rw [Array.getElem?_append_right (by omega)] at hv'
     rw [e1] at hx
     by_cases i2 : i - vs.size < zs.length
     · rw [List.getElem?_append_left i2] at hx
       rw [Array.getElem?_append_left (by simp; omega)] at hv'
       have i3 : i - vs.size < xs.size := by omega
       simp [i3] at hv'
       subst hv'
       exact o2 _ x _ hx (by simp [i3])
     · rw [List.getElem?_append_right (by omega)] at hx
       rw [Array.getElem?_append_right (by simp; omega)] at hv'
       simp only [Array.size_map, <- hl] at hv'
       exact r2 _ x v hx hv'
 have hRL : RL w.heap D (zfl μ F) T.xs ((vs ++ xs.map a.eval) ++ us) := hm.xs _ _ _ _ ⟨hsz, hraw⟩
 obtain ⟨a1, a2, a3, a4⟩ := hm.asks h
 have hcall := hM D w _ _ h.dlt hRL a1 a2 a3 (fun n b z hn => ⟨(a4 n b z hn).1, (a4 n b z hn).2.1⟩) h.gok (fun n b z hn => by
   obtain ⟨_, _, id, _, _, hid, _⟩ := a4 n b z hn
   exact h.gown hid)
 have fin : ∀ e v w' D' μ1, ylc D w (zfl μ F) T.O T.O1 T.r e v w' D' μ1 -> K (a.put o.dst v) w' := by
   intro e v w' D' μ1 he
   obtain ⟨μ', h', hr⟩ := h.mcall hm he
   exact hK _ _ ⟨_, _, h'.put hd hr⟩
 unfold Oper.wp
 have hrun : (execOp a.eval o).run P w = (callFunc k ((vs ++ xs.map a.eval) ++ us)).run P w := by
   unfold execOp
   rw [e]
   simp [resolve, hfv, Deferred.ofValue, invoke]
 rw [hrun]
 unfold zdv at hcall
 split at hcall
 · rename_i f' args' w' hcf
   rw [hcf, Oper.upon_enter]
   refine hcall.mono fun en w'' hen => ?_
   obtain ⟨v, D', μ1, he⟩ := hen
   obtain rfl := he.ret
   exact fin _ v w'' D' μ1 he
 · rename_i v w' hcf
   rw [hcf, Oper.upon_value]
   obtain ⟨v', D', μ1, he⟩ := hcall
   have := he.ret
   cases this
   exact fin _ _ w' D' μ1 he
 · exact hcall.elim
end
end Sy
end Go.Proofs.YtlphgephdhadhaaGreat
namespace Go.Proofs.YtlphgephdhadhaaGreat
namespace Sy
open Go Go.RowKit
set_option linter.unusedSimpArgs false
set_option linter.unusedVariables false
set_option linter.unusedSectionVars false
def zih {β : Type} (L : Nat -> Bool) (hit : Nat -> Option β) (s : Option β) : Nat -> Option β
 | 0 => s
 | n + 1 => if L n = true then (match hit n with | some x => some x | none => zih L hit s n) else zih L hit s n
theorem zm6 {β : Type} (L : Nat -> Bool) (hit : Nat -> Option β) (s : Option β) (n : Nat) : zih L hit s (n + 1) = if L n = true then (match hit n with | some x => some x | none => zih L hit s n) else zih L hit s n := rfl
theorem zde {β : Type} {L L' : Nat -> Bool} {hit : Nat -> Option β} {s : Option β} : ∀ n, (∀ j, j < n -> hit j ≠ none -> L j = L' j) -> zih L hit s n = zih L' hit s n
 | 0, _ => rfl
 | n + 1, h => by
   unfold zih
   have ih := zde n (fun j hj => h j (by omega)) (s := s)
   cases e : hit n with
   | none => simp [ih]
   | some x =>
     rw [h n (by omega) (by rw [e]; simp), ih]
theorem zj1 {β : Type} {L : Nat -> Bool} {hit : Nat -> Option β} {s : Option β} (i : Nat) : ∀ n, (∀ j, i <= j -> j < n -> L j = true -> hit j = none) -> i <= n -> zih L hit s n = zih L hit s i
 | 0, _, hi => by have : i = 0 := by omega
                  rw [this]
 | n + 1, h, hi => by
   by_cases e : i = n + 1
   · rw [e]
   · have ih := zj1 i n (fun j h1 h2 => h j h1 (by omega)) (by omega) (s := s)
     rw [zm6]
     by_cases hL : L n = true
     · rw [if_pos hL, h n (by omega) (by omega) hL]; exact ih
     · rw [if_neg hL]; exact ih
theorem zm7 {β : Type} {hit : Nat -> Option β} {s : Option β} (i : Nat) : ∀ n, i <= n -> zih (fun j => decide (j < i)) hit s n = zih (fun _ => true) hit s i := fun n hn => by
 rw [zj1 i n (fun j h1 _ h3 => by simp at h3; omega) hn]
 exact zde i (fun j hj _ => by simp [hj])
theorem zpe {β : Type} {L L' : Nat -> Bool} {hit : Nat -> Option β} {s : Option β} {i : Nat} (hi : L' i = true) (hL : L i = false) (hne : ∀ j, j ≠ i -> L' j = L j) : ∀ n, i < n ->
   (hit i ≠ none -> ∀ j, i < j -> j < n -> L j = true -> hit j = none) -> zih L' hit s n = (match hit i with | some x => some x | none => zih L hit s n)
 | 0, h, _ => by omega
 | n + 1, h, hc => by
   by_cases e : n = i
   · subst e
     have : zih L' hit s n = zih L hit s n := zde n (fun j hj _ => hne j (by omega))
     unfold zih
     rw [if_pos hi, hL, this]
     simp
   · have ih := zpe hi hL hne n (by omega) (fun h1 j h2 h3 => hc h1 j h2 (by omega)) (s := s)
     unfold zih
     rw [hne n e, ih]
     cases hh : hit i with
     | none => rfl
     | some x =>
       simp only
       by_cases hLn : L n = true
       · rw [if_pos hLn, hc (by rw [hh]; simp) n (by omega) (by omega) hLn]
       · rw [if_neg hLn]
def zn5 (L : Nat -> Bool) (p : Nat -> Bool) (s : Bool) : Nat -> Bool
 | 0 => s
 | n + 1 => (L n && p n) || zn5 L p s n
theorem zs6 (L p : Nat -> Bool) (s : Bool) (n : Nat) : zn5 L p s (n + 1) = ((L n && p n) || zn5 L p s n) := rfl
theorem zg3 {L L' p : Nat -> Bool} {s : Bool} : ∀ n, (∀ j, j < n -> p j = true -> L j = L' j) -> zn5 L p s n = zn5 L' p s n
 | 0, _ => rfl
 | n + 1, h => by
   unfold zn5
   rw [zg3 n (fun j hj => h j (by omega))]
   cases e : p n with
   | false => simp
   | true => rw [h n (by omega) e]
theorem zmv {L p : Nat -> Bool} {s : Bool} (i : Nat) : ∀ n, (∀ j, i <= j -> j < n -> L j = false) -> i <= n -> zn5 L p s n = zn5 L p s i
 | 0, _, hi => by have : i = 0 := by omega
                  rw [this]
 | n + 1, h, hi => by
   by_cases e : i = n + 1
   · rw [e]
   · rw [zs6, h n (by omega) (by omega), zmv i n (fun j h1 h2 => h j h1 (by omega)) (by omega)]
     simp
theorem yff {p : Nat -> Bool} {s : Bool} (i : Nat) : ∀ n, i <= n -> zn5 (fun j => decide (j < i)) p s n = zn5 (fun _ => true) p s i := fun n hn => by
 rw [zmv i n (fun j h1 _ => by simp; omega) hn]
 exact zg3 i (fun j hj _ => by simp [hj])
theorem zx2 {L L' p : Nat -> Bool} {s : Bool} {i : Nat} (hi : L' i = true) (hL : L i = false) (hne : ∀ j, j ≠ i -> L' j = L j) : ∀ n, i < n -> zn5 L' p s n = (p i || zn5 L p s n)
 | 0, h => by omega
 | n + 1, h => by
   by_cases e : n = i
   · subst e
     have : zn5 L' p s n = zn5 L p s n := zg3 n (fun j hj _ => hne j (by omega))
     unfold zn5
     rw [hi, hL, this]; simp
   · unfold zn5
     rw [hne n e, zx2 hi hL hne n (by omega)]
     cases L n && p n <;> cases p i <;> simp
theorem zlg {T : TT} {L : zaa} {f f' : Nat -> Option AV} {g g' : Nat -> Option Ob} {c c' : Nat -> Bool} {kn kn' : List (Nat × Bool)} {o : Oper} (hv : zd3 (evf f kn) (zc4 o.op) = zd3 (evf f' kn') (zc4 o.op))
   (hg : ∀ id, id ∈ zdh (zd3 (evf f' kn') (zc4 o.op)) -> g id = g' id) (hn : zd9 o.op = true -> ∀ d, o.dst = some d -> g d = g' d)
   (hc : zo8 o.op = true -> ∀ id, id ∈ yix (zd3 (evf f' kn') (zc4 o.op)) -> c id = c' id) : zki T L f g c kn o = zki T L f' g' c' kn' o := by
 unfold zki
 rw [hv]
 have e1 : yq6 g (zdh (zd3 (evf f' kn') (zc4 o.op))) = yq6 g' (zdh (zd3 (evf f' kn') (zc4 o.op))) := by
   funext id
   unfold yq6
   split
   · rename_i h; exact hg id (zcp.1 h)
   · rfl
 have e2 : zyu c o.op (zd3 (evf f' kn') (zc4 o.op)) = zyu c' o.op (zd3 (evf f' kn') (zc4 o.op)) := by
   funext id
   unfold zyu
   split
   · rename_i h
     split
     · rename_i h2; exact hc h id (zcp.1 h2)
     · rfl
   · rfl
 have e3 : zeb g o.op o.dst = zeb g' o.op o.dst := by
   unfold zeb
   split
   · rename_i h
     split
     · rename_i d hd; rw [hn h d hd]
     · rfl
   · rfl
 rw [e1, e2, e3]
def zn7 (f : Nat -> Option AV) (kn : List (Nat × Bool)) : Prop := ∀ t b, za2 kn t = some b -> f t = some (.bool b)
theorem yl0 {f : Nat -> Option AV} {kn : List (Nat × Bool)} (h : zn7 f kn) (x : Operand) : evf f kn x = evf f [] x := by
 unfold evf
 cases x with
 | tmp t =>
   simp only [za2]
   cases e : za2 kn t with
   | none => rfl
   | some b => simp [h t b e]
 | _ => rfl
theorem zhq {α β : Type} {k k' : α -> β} : ∀ {l : List α}, (∀ x ∈ l, k x = k' x) -> zd3 k l = zd3 k' l
 | [], _ => rfl
 | x :: l, h => by simp [zd3, h x (by simp), zhq (l := l) (fun y hy => h y (by simp [hy]))]
inductive Holds (P : Program) : zdk -> AV -> List (Nat × Ob) -> List Nat -> Prop
 | ok (v : AV) (os : List (Nat × Ob)) (ice : List Nat) : Holds P (.ok v os ice) v os ice
 | okIf (b : Bool) (v : AV) (os : List (Nat × Ob)) (ice : List Nat) (h : b = true) : Holds P (.okIf b v os ice) v os ice
 | okP (p : Prop) (v : AV) (os : List (Nat × Ob)) (ice : List Nat) (h : p) : Holds P (.okP p v os ice) v os ice
 | call (k : FuncId) (xs : List AV) (ice : List Nat) (r : AV) (h : zaf P k xs r) : Holds P (.call k xs ice) r [] ice
 | alt1 (b : Bool) (v : AV) (os : List (Nat × Ob)) (q : Bool) (v' : AV) (os' : List (Nat × Ob)) (h : b = true) : Holds P (.alt b v os q v' os') v os []
 | alt2 (b : Bool) (v : AV) (os : List (Nat × Ob)) (q : Bool) (v' : AV) (os' : List (Nat × Ob)) (h : b = false) (hq : q = true) : Holds P (.alt b v os q v' os') v' os' []
theorem ytx {P : Program} {base : Nat} {M : Two} {W : World} {nt : Nat} {f : Nat -> Option AV} {g : Nat -> Option Ob} {c : Nat -> Bool} {o : Oper} {a : Act} {w : World} {x : zdk} {v : AV} {os : List (Nat × Ob)} {ice : List Nat}
   (h : Holds P x v os ice) (s : zdi P base M W nt f g c o a w x) : Adv P base M W nt f g c o a w v os ice := by
 cases h with
 | ok => exact s
 | okIf _ _ _ _ h => exact s h
 | okP _ _ _ _ h => exact s h
 | call _ _ _ _ h => exact s _ h
 | alt1 _ _ _ _ _ _ h => exact s.1 h
 | alt2 _ _ _ _ _ _ h hq => exact s.2 h hq
inductive Sat (P : Program) (Q : AV -> Prop) : zck -> Prop
 | need {b : Bool} {k : zck} (h : b = true) (hk : Sat P Q k) : Sat P Q (.need b k)
 | must {p : Prop} {k : zck} (h : p) (hk : Sat P Q k) : Sat P Q (.must p k)
 | ite {b : Bool} {t e : zck} (ht : b = true -> Sat P Q t) (he : b = false -> Sat P Q e) : Sat P Q (.ite b t e)
 | done {r : AV} (h : Q r) : Sat P Q (.done r)
 | yes : Sat P Q .yes
 | call {f : FuncId} {xs : List AV} {k : AV -> zck} {r : AV} (h : zaf P f xs r) (hk : Sat P Q (k r)) : Sat P Q (.call f xs k)
 | ex {X : Type} {f : X -> zck} (x : X) (h : Sat P Q (f x)) : Sat P Q (.ex X f)
 | all {X : Type} {f : X -> zck} (h : ∀ x, Sat P Q (f x)) : Sat P Q (.all X f)
 | sup {p : Prop} {k : zck} (h : p -> Sat P Q k) : Sat P Q (.sup p k)
 | and {a b : zck} (h1 : Sat P Q a) (h2 : Sat P Q b) : Sat P Q (.and a b)
structure zdu (P : Program) (S : zn6) : Prop where
 fz : ∀ f xs p r, S.fz f xs = some (p, r) -> p -> zaf P f xs r
 mt : ∀ f m, S.mt f = some m -> ∀ raw ob T, m raw ob = some T -> T.p -> zb0 P f T.xs T.O T.r T.O1
theorem zin {P : Program} {Q : AV -> Prop} {next : zck} : ∀ {ps : List Prop}, Sat P Q (yhq ps next) -> (∀ p, p ∈ ps -> p) /\ Sat P Q next
 | [], h => ⟨fun p hp => by simp at hp, h⟩
 | p :: r, h => by
   cases h with
   | must h hk =>
     obtain ⟨h1, h2⟩ := zin hk
     exact ⟨fun q hq => by rcases List.mem_cons.1 hq with rfl | hq; exact h; exact h1 q hq, h2⟩
theorem yid {P : Program} {T : TT} {f : Nat -> Option AV} {g : Nat -> Option Ob} {c : Nat -> Bool} {kn : List (Nat × Bool)} {o : Oper} {b : Bool} (h : zr6 kn o.op = some b) {v : AV} {os : List (Nat × Ob)} {ice : List Nat}
   (hh : Holds P (zki T std f g c kn o) v os ice) : v = .bool b := by
 have lit : ∀ x b, litOf kn x = some b -> evf f kn x = .bool b := by
   intro x b hx
   unfold litOf at hx
   split at hx
   · cases hx; rfl
   · rename_i t
     simp [evf, hx]
   · cases hx
 unfold zr6 at h
 unfold zki ywq at hh
 split at h
 · rename_i x e
   rw [e] at hh
   simp only [zc4, zd3, yer, lit x b h] at hh
   cases hh; rfl
 · rename_i x e
   rw [e] at hh
   simp only [zc4, zd3, yer, lit x b h] at hh
   cases hh; rfl
 · rename_i x y z e
   rw [e] at hh
   simp only [zc4, zd3] at hh
   split at h
   · rename_i hc
     rw [lit x _ hc, lit y b h] at hh
     simp only [yeq] at hh
     cases hh; rfl
   · rename_i hc
     rw [lit x _ hc, lit z b h] at hh
     simp only [yeq] at hh
     cases hh; rfl
   · cases h
 · cases h
theorem zsa {kn : List (Nat × Bool)} {d t : Nat} : za2 (ynt kn d) t = if t = d then none else za2 kn t := by
 induction kn with
 | nil => simp [ynt, za2]
 | cons x kn ih =>
   obtain ⟨u, b⟩ := x
   unfold ynt
   cases e : zav u d with
   | true =>
     simp only [ih]
     have := za4 e; subst this
     by_cases ht : t = u
     · simp [ht]
     · have : zav u t = false := zaq fun h => ht h.symm
       simp [ht, za2, this]
   | false =>
     simp only [za2]
     cases e' : zav u t with
     | true =>
       have := za4 e'; subst this
       have : u ≠ d := by rintro rfl; rw [za6] at e; cases e
       simp [this]
     | false => simpa using ih
theorem zla (s : St) (dst : Option Nat) (v : AV) : za2 (s.put dst v) = zn3 (za2 s.slots) dst v := by
 funext t
 unfold St.put zn3
 cases dst with
 | none => rfl
 | some d =>
   simp only [za2]
   by_cases e : t = d
   · subst e; simp [za6]
   · have : zav d t = false := zaq fun h => e h.symm
     simp [this, e]
theorem yjr {α : Type} (os l : List (Nat × α)) (id : Nat) : za2 (zc5 os l) id = match za2 os id with | some o => some o | none => za2 l id := zf5 os l id
theorem zsb (os l : List (Nat × Ob)) : za2 (zc5 os l) = zbb (za2 l) os := by
 funext id; rw [yjr]; unfold zbb; cases za2 os id <;> rfl
theorem yi9 (os l : List Nat) : ∀ id, zc7 (zc5 os l) id = (zc7 os id || zc7 l id) := by
 intro id
 induction os with
 | nil => simp [zc5, zc7]
 | cons x os ih =>
   simp only [zc5, zc7]
   cases zav x id <;> simp [ih]
theorem zr4 (os l : List Nat) : zc7 (zc5 os l) = zl7 (zc7 l) os := by
 funext id; rw [yi9]; rfl
theorem zwh {f : Nat -> Option AV} {kn : List (Nat × Bool)} (h : zn7 f kn) {dst : Option Nat} {v : AV} {x : Option Bool} (hx : ∀ b, x = some b -> v = .bool b) : zn7 (zn3 f dst v) (ysh kn dst x) := by
 intro t b ht
 unfold ysh at ht
 cases dst with
 | none => exact h t b ht
 | some d =>
   simp only [zn3]
   cases x with
   | none =>
     simp only at ht
     rw [zsa] at ht
     split at ht
     · cases ht
     · rename_i e; rw [if_neg e]; exact h t b ht
   | some y =>
     simp only [za2] at ht
     cases e : zav d t with
     | true =>
       rw [e] at ht
       have := za4 e; subst this
       cases ht
       rw [if_pos rfl, hx _ rfl]
     | false =>
       rw [e] at ht
       simp only at ht
       rw [zsa] at ht
       split at ht
       · cases ht
       · rename_i e; rw [if_neg e]; exact h t b ht
theorem zex {f : Nat -> Option AV} {kn : List (Nat × Bool)} (h : zn7 f kn) {t : Nat} {b : Bool} (hx : f t = some (.bool b)) : zn7 f ((t, b) :: kn) := by
 intro u y hu
 simp only [za2] at hu
 cases e : zav t u with
 | true =>
   rw [e] at hu
   have := za4 e; subst this
   cases hu; exact hx
 | false => rw [e] at hu; exact h u y hu
def zmx (base : Nat) (M : Two) (W : World) (nt : Nat) (s : St) (a : Act) (w : World) : Prop :=
 zif base M W nt (za2 s.slots) (za2 s.objs) (zc7 s.ice) a w /\ zn7 (za2 s.slots) s.kn
structure Ev where
 want : Bool
 v : AV
 os : List (Nat × Ob)
 ice : List Nat
 ent : Ent
def nothing : Ev := ⟨false, .tup [], [], [], ⟨[], []⟩⟩
def zsd (P : Program) (T : TT) (f : Nat -> Option AV) (g : Nat -> Option Ob) (c : Nat -> Bool) (o : Oper) (e : Ev) : Prop :=
 Holds P (zki T std f g c [] o) e.v e.os e.ice \/ (yld P f g c o e.v e.os /\ e.ice = [])
structure yut (P : Program) (T : TT) (ops : List Oper) (f : Nat -> Option AV) (g : Nat -> Option Ob) (c : Nat -> Bool) (o : Oper) (e : Ev) : Prop where
 guard : match zid ops o with
   | none => e.want = true
   | some (some t, w) => (∃ b, f t = some (.bool b) /\ e.want = (b == w)) \/ (f t = some (.tup []) /\ e.want = false)
   | some (none, _) => False
 no : e.want = false -> e.v = .tup [] /\ e.os = [] /\ e.ice = [] /\ e.ent = ⟨[], []⟩
 yes : e.want = true -> zsd P T f g c o e
def yjx (f : Nat -> Option AV) (o : Oper) (e : Ev) : Prop := e.want = true ->
 (∀ id, id ∈ zdh (zd3 (evf f []) (zc4 o.op)) -> id ∈ e.ent.ids) /\ (zd9 o.op = true -> ∀ d, o.dst = some d -> d ∈ e.ent.ids) /\ (∀ id, id ∈ e.ice -> id ∈ e.ent.ids) /\
 (∀ id, id ∈ zwj e.os -> id ∈ e.ent.wr) /\ (zo8 o.op = true -> ∀ id, id ∈ yix (zd3 (evf f []) (zc4 o.op)) -> id ∈ e.ent.wr)
def yju (ops : List Oper) (o : Oper) (e : Ev) (acc : List (Nat × Ent)) : Prop := e.want = true -> zju ops o.after.toList e.ent acc = true
def zyb (acc : List (Nat × Ent)) (i : Nat) (e : Ev) : List (Nat × Ent) := if e.want = true then zvm acc i e.ent else acc
def yqe (P : Program) (T : TT) (draw : Bool) (ops : List Oper) : List Oper -> Nat -> (Nat -> Option AV) -> (Nat -> Option Ob) -> (Nat -> Bool) -> List (Nat × Ent) -> List Ev -> (Nat -> Option AV) -> (Nat -> Option Ob) -> (Nat -> Bool) -> Prop
 | [], _, f, g, c, _, [], f', g', c' => f' = f /\ g' = g /\ c' = c
 | o :: r, i, f, g, c, acc, e :: es, f', g', c' => yut P T ops f g c o e /\ (draw = true -> yjx f o e /\ yju ops o e acc) /\
     yqe P T draw ops r (i + 1) (zn3 f o.dst e.v) (zbb g e.os) (zl7 c e.ice) (if draw = true then zyb acc i e else acc) es f' g' c'
 | _, _, _, _, _, _, _, _, _, _ => False
section
variable {P : Program} {T : TT} {S : zn6} {Q : AV -> Prop} {draw : Bool} {ops : List Oper}
theorem ylq {f : Nat -> Option AV} {g : Nat -> Option Ob} {c : Nat -> Bool} {kn : List (Nat × Bool)} (h : zn7 f kn) (L : zaa) (o : Oper) : zki T L f g c kn o = zki T L f g c [] o :=
 zlg (zhq fun x _ => yl0 h x) (fun _ _ => rfl) (fun _ _ _ => rfl) (fun _ _ _ => rfl)
theorem zyv (hS : zdu P S) {o : Oper} {i : Nat} {s : St} {acc : List (Nat × Ent)} {next : St -> List (Nat × Ent) -> zck} (hk : zn7 (za2 s.slots) s.kn)
   (h : Sat P Q (zrt T std S draw ops o i s acc next)) : ∃ e : Ev, e.want = true /\ zsd P T (za2 s.slots) (za2 s.objs) (zc7 s.ice) o e /\ (draw = true -> yjx (za2 s.slots) o e /\ yju ops o e acc) /\
     ∃ s', za2 s'.slots = zn3 (za2 s.slots) o.dst e.v /\ za2 s'.objs = zbb (za2 s.objs) e.os /\ zc7 s'.ice = zl7 (zc7 s.ice) e.ice /\ zn7 (za2 s'.slots) s'.kn /\ Sat P Q (next s' (if draw = true then zyb acc i e else acc)) := by
 have hval : zd3 (evf (za2 s.slots) s.kn) (zc4 o.op) = zd3 (evf (za2 s.slots) []) (zc4 o.op) := zhq fun x _ => yl0 hk x
 have key : ∀ v os ice, (∀ ent, zsd P T (za2 s.slots) (za2 s.objs) (zc7 s.ice) o ⟨true, v, os, ice, ent⟩) -> (∀ b, zr6 s.kn o.op = some b -> v = .bool b) ->
     Sat P Q (zhg draw ops o i s acc (zyt draw s o) (yqh draw s o) v os ice next) -> ∃ e : Ev, e.want = true /\ zsd P T (za2 s.slots) (za2 s.objs) (zc7 s.ice) o e /\ (draw = true -> yjx (za2 s.slots) o e /\ yju ops o e acc) /\
     ∃ s', za2 s'.slots = zn3 (za2 s.slots) o.dst e.v /\ za2 s'.objs = zbb (za2 s.objs) e.os /\ zc7 s'.ice = zl7 (zc7 s.ice) e.ice /\ zn7 (za2 s'.slots) s'.kn /\ Sat P Q (next s' (if draw = true then zyb acc i e else acc)) := by
   intro v os ice hh hl h
   refine ⟨⟨true, v, os, ice, ⟨zc5 ice (zyt draw s o), zc5 (yqh draw s o) (zwj os)⟩⟩, rfl, hh _, fun hd => ?_, s.eff o.dst v os ice (zr6 s.kn o.op), zla .., zsb .., zr4 .., ?_, ?_⟩
   · subst hd
     refine ⟨fun _ => ⟨fun id hid => ?_, fun hc d hd => ?_, fun id hid => ?_, fun id hid => ?_, fun hw id hid => ?_⟩, fun _ => ?_⟩
     · simp only [zax, List.mem_append, zyt]; rw [hval]; exact .inr (.inr hid)
     · simp [zax, zyt, hc, hd]
     · simp only [zax, List.mem_append]; exact .inl hid
     · simp only [zax, List.mem_append]; exact .inr hid
     · simp only [zax, List.mem_append, yqh, hw]; rw [hval]; exact .inl hid
     · simp only [zhg] at h
       split at h
       · rename_i e; exact e
       · cases h
   · show zn7 (za2 (s.put o.dst v)) (ysh s.kn o.dst (zr6 s.kn o.op))
     rw [zla]
     exact zwh hk hl
   · unfold zhg at h
     cases draw with
     | false => exact h
     | true =>
       simp only at h
       split at h
       · exact h
       · cases h
 have key1 : ∀ v os ice, Holds P (zki T std (za2 s.slots) (za2 s.objs) (zc7 s.ice) s.kn o) v os ice -> (∀ ent, zsd P T (za2 s.slots) (za2 s.objs) (zc7 s.ice) o ⟨true, v, os, ice, ent⟩) /\ ∀ b, zr6 s.kn o.op = some b -> v = .bool b := by
   intro v os ice hh
   have hh' := hh
   rw [ylq hk] at hh'
   exact ⟨fun _ => .inl hh', fun b hb => yid hb hh⟩
 unfold zrt at h
 split at h
 · rename_i m raw hsel
   obtain ⟨f, first, caps, zs, c1, c2, hm, rfl⟩ : ∃ f first caps zs, zth o.op = true /\ zd3 (evf (za2 s.slots) s.kn) (zc4 o.op) = .fn f first caps :: zs /\ S.mt f = some m /\ raw = zc5 first (zc5 zs caps) := by
     split at hsel
     · rename_i c1
       split at hsel
       · rename_i f first caps zs c2
         split at hsel
         · rename_i m' hm; cases hsel; exact ⟨f, first, caps, zs, c1, c2, hm, rfl⟩
         · cases hsel
       · cases hsel
     · cases hsel
   obtain ⟨fo, ys, ts, e1⟩ : ∃ fo ys ts, o.op = .call { callee := .value fo, args := ys, argTypes := ts } := by
     unfold zth at c1
     split at c1
     · rename_i fo ys ts e1; exact ⟨_, _, _, e1⟩
     · cases c1
   unfold ysz at h
   split at h
   · rename_i T' hT'
     split at h
     · rename_i mt hmt
       split at h
       · rename_i hfr
         obtain ⟨hps, h⟩ := zin h
         cases h with
         | must hp h =>
           refine key _ _ [] (fun ent => .inr ⟨⟨fo, ys, ts, f, first, caps, zs, mt.ids, _, T', e1, by rw [<- hval]; exact c2, hS.mt f m hm _ _ T' hT' hp, yhy hmt hfr hps, rfl, rfl⟩, rfl⟩) (fun b hb => ?_) h
           rw [e1] at hb; cases hb
       · cases h
     · cases h
   · cases h
 unfold yt0 at h
 split at h
 · rename_i v os ice e; obtain ⟨k1, k2⟩ := key1 v os ice (by rw [e]; exact .ok ..); exact key v os ice k1 k2 h
 · rename_i b v os ice e; cases h with | need h hk => obtain ⟨k1, k2⟩ := key1 v os ice (by rw [e]; exact .okIf _ _ _ _ h); exact key v os ice k1 k2 hk
 · rename_i b v os ice e; cases h with | must h hk => obtain ⟨k1, k2⟩ := key1 v os ice (by rw [e]; exact .okP _ _ _ _ h); exact key v os ice k1 k2 hk
 · rename_i b v os q v' os' e
   cases hb : b with
   | true =>
     cases h with | ite ht he => obtain ⟨k1, k2⟩ := key1 v os [] (by rw [e]; exact .alt1 _ _ _ _ _ _ hb); exact key v os [] k1 k2 (ht hb)
   | false =>
     cases h with
     | ite ht he =>
       have h := he hb
       cases h with | need h hk => obtain ⟨k1, k2⟩ := key1 v' os' [] (by rw [e]; exact .alt2 _ _ _ _ _ _ hb h); exact key v' os' [] k1 k2 hk
 · rename_i f xs ice e
   split at h
   · rename_i p r hs
     cases h with | must h hk => obtain ⟨k1, k2⟩ := key1 r [] ice (by rw [e]; exact .call _ _ _ _ (hS.fz f _ p r hs h)); exact key r [] ice k1 k2 hk
   · rename_i hs
     cases h with | call h hk => obtain ⟨k1, k2⟩ := key1 _ [] ice (by rw [e]; exact .call _ _ _ _ h); exact key _ [] ice k1 k2 hk
 · cases h
theorem zfq (hS : zdu P S) {k : St -> zck} : ∀ (r : List Oper) (i : Nat) (s : St) (acc : List (Nat × Ent)), zn7 (za2 s.slots) s.kn -> Sat P Q (zdt T std S draw ops r i s acc k) ->
   ∃ es s', yqe P T draw ops r i (za2 s.slots) (za2 s.objs) (zc7 s.ice) acc es (za2 s'.slots) (za2 s'.objs) (zc7 s'.ice) /\ zn7 (za2 s'.slots) s'.kn /\ Sat P Q (k s')
 | [], i, s, acc, hk, h => ⟨[], s, ⟨rfl, rfl, rfl⟩, hk, h⟩
 | o :: r, i, s, acc, hk, h => by
   have yes : ∀ s1 : St, s1.slots = s.slots -> s1.objs = s.objs -> s1.ice = s.ice -> zn7 (za2 s1.slots) s1.kn ->
       (match zid ops o with
         | none => true = true
         | some (some t, w) => (∃ b, za2 s.slots t = some (.bool b) /\ true = (b == w)) \/ (za2 s.slots t = some (.tup []) /\ true = false)
         | some (none, _) => False) -> Sat P Q (zrt T std S draw ops o i s1 acc (fun s acc => zdt T std S draw ops r (i + 1) s acc k)) ->
       ∃ es s', yqe P T draw ops (o :: r) i (za2 s.slots) (za2 s.objs) (zc7 s.ice) acc es (za2 s'.slots) (za2 s'.objs) (zc7 s'.ice) /\ zn7 (za2 s'.slots) s'.kn /\ Sat P Q (k s') := by
     intro s1 e1 e2 e3 hk1 hg h
     obtain ⟨e, hw, hh, he, s2, h1, h2, h3, h4, h5⟩ := zyv hS hk1 h
     obtain ⟨es, s', hW, hk', h'⟩ := zfq hS r (i + 1) s2 _ h4 h5
     rw [h1, h2, h3, e1, e2, e3] at hW
     rw [e1, e2, e3] at hh
     rw [e1] at he
     refine ⟨e :: es, s', ⟨⟨?_, fun h => (by rw [hw] at h; cases h), fun _ => hh⟩, he, hW⟩, hk', h'⟩
     rw [hw]; exact hg
   have no : ∀ s1 : St, s1.slots = s.slots -> s1.objs = s.objs -> s1.ice = s.ice -> zn7 (za2 s1.slots) s1.kn ->
       (match zid ops o with
         | none => false = true
         | some (some t, w) => (∃ b, za2 s.slots t = some (.bool b) /\ false = (b == w)) \/ (za2 s.slots t = some (.tup []) /\ false = false)
         | some (none, _) => False) -> Sat P Q (zdt T std S draw ops r (i + 1) (s1.eff o.dst (.tup []) [] [] none) acc k) ->
       ∃ es s', yqe P T draw ops (o :: r) i (za2 s.slots) (za2 s.objs) (zc7 s.ice) acc es (za2 s'.slots) (za2 s'.objs) (zc7 s'.ice) /\ zn7 (za2 s'.slots) s'.kn /\ Sat P Q (k s') := by
     intro s1 e1 e2 e3 hk1 hg h
     have h4 : zn7 (za2 (s1.eff o.dst (.tup []) [] [] none).slots) (s1.eff o.dst (.tup []) [] [] none).kn := by
       show zn7 (za2 (s1.put o.dst (.tup []))) (ysh s1.kn o.dst none)
       rw [zla]
       exact zwh hk1 fun b hb => by cases hb
     obtain ⟨es, s', hW, hk', h'⟩ := zfq hS r (i + 1) _ _ h4 h
     have q1 : za2 (s1.eff o.dst (.tup []) [] [] none).slots = zn3 (za2 s.slots) o.dst (.tup []) := by rw [<- e1]; exact zla ..
     have q2 : za2 (s1.eff o.dst (.tup []) [] [] none).objs = zbb (za2 s.objs) [] := by rw [<- e2]; exact zsb ..
     have q3 : zc7 (s1.eff o.dst (.tup []) [] [] none).ice = zl7 (zc7 s.ice) [] := by rw [<- e3]; exact zr4 ..
     rw [q1, q2, q3] at hW
     refine ⟨nothing :: es, s', ⟨⟨hg, fun _ => ⟨rfl, rfl, rfl, rfl⟩, fun h => by cases h⟩, fun _ => ⟨fun h => by simp [nothing] at h, fun h => by simp [nothing] at h⟩, ?_⟩, hk', h'⟩
     simpa [zyb, nothing] using hW
   unfold zdt at h
   split at h
   · rename_i e; exact yes s rfl rfl rfl hk (by rw [e]) h
   · cases h
   · rename_i t w e
     rw [e] at yes no
     split at h
     · rename_i b hb
       have hf := hk t b hb
       split at h
       · exact yes s rfl rfl rfl hk (.inl ⟨true, hf, rfl⟩) h
       · exact yes s rfl rfl rfl hk (.inl ⟨false, hf, rfl⟩) h
       · rename_i h1 h2
         refine no s rfl rfl rfl hk (.inl ⟨b, hf, ?_⟩) h
         cases b <;> cases w <;> simp_all
     · split at h
       · rename_i hb
         exact no s rfl rfl rfl hk (.inr ⟨hb, rfl⟩) h
       · rename_i b hb
         split at h
         · cases h with | ite h1 h2 =>
           cases b with
           | true => exact yes (s.know t true) rfl rfl rfl (zex hk hb) (.inl ⟨true, hb, rfl⟩) (h1 rfl)
           | false => exact no (s.know t false) rfl rfl rfl (zex hk hb) (.inl ⟨false, hb, rfl⟩) (h2 rfl)
         · cases h with | ite h1 h2 =>
           cases b with
           | true => exact no (s.know t true) rfl rfl rfl (zex hk hb) (.inl ⟨true, hb, rfl⟩) (h1 rfl)
           | false => exact yes (s.know t false) rfl rfl rfl (zex hk hb) (.inl ⟨false, hb, rfl⟩) (h2 rfl)
       · cases h
end
end Sy
end Go.Proofs.YtlphgephdhadhaaGreat
namespace Go.Proofs.YtlphgephdhadhaaGreat
namespace Sy
open Go Go.RowKit
set_option linter.unusedSimpArgs false
set_option linter.unusedVariables false
set_option linter.unusedSectionVars false
def zsl : List Operand -> List Nat
 | [] => []
 | .tmp t :: r => t :: zsl r
 | _ :: r => zsl r
def yvr (nt : Nat) (o : Oper) : Bool :=
 (match o.dst with | some d => zbo d nt | none => true) && (zc4 o.op).all fun x => match x with | .const v => zir v | _ => true
def zqr (i : Nat) (o : Oper) (ts : List Nat) : Nat -> List Oper -> Bool
 | _, [] => true
 | j, o' :: r => (match o'.dst with
   | none => true
   | some d => (zav j i || (match o.dst with | some d' => !zav d' d | none => true)) &&
     (!zc7 ts d || (zbo j i && zb1 o.after.toList j) || (zbo i j && zb1 o'.after.toList i))) && zqr i o ts (j + 1) r
def zmm (ops : List Oper) : Nat -> List Oper -> Bool
 | _, [] => true
 | i, o :: r => (o.after.toList.all fun e => !Region.binds .any e || zbo e.on i) && (match o.guard with | none => true | some (g, _) => zb1 o.after.toList g) &&
   zqr i o (zsl (zc4 o.op)) 0 ops && zmm ops (i + 1) r
structure ylb (nt : Nat) (o : Oper) : Prop where
 dst : ∀ d, o.dst = some d -> d < nt
 pl : ∀ x ∈ zc4 o.op, ∀ v, x = .const v -> zir v = true
theorem yc7 {nt : Nat} {o : Oper} (h : yvr nt o = true) : ylb nt o := by
 unfold yvr at h
 simp only [Bool.and_eq_true] at h
 refine ⟨fun d hd => ?_, fun x hx v hv => ?_⟩
 · have h1 := h.1
   rw [hd] at h1
   exact zcr h1
 · have h2 := List.all_eq_true.1 h.2 x hx
   rw [hv] at h2
   exact h2
theorem ycm {l : List Operand} {t : Nat} (h : Operand.tmp t ∈ l) : t ∈ zsl l := by
 induction l with
 | nil => cases h
 | cons x l ih =>
   rcases List.mem_cons.1 h with rfl | h'
   · simp [zsl]
   · cases x <;> simp [zsl, ih h']
structure zmy (ops : List Oper) : Prop where
 back : ∀ (i : Nat) (o : Oper) (e : Edge), ops[i]? = some o -> e ∈ o.after -> Region.binds .any e = true -> e.on < i
 guard : ∀ (i : Nat) (o : Oper) g b, ops[i]? = some o -> o.guard = some (g, b) -> zb1 o.after.toList g = true
 once : ∀ (i j : Nat) (o o' : Oper) d, ops[i]? = some o -> ops[j]? = some o' -> o.dst = some d -> o'.dst = some d -> i = j
 reads : ∀ (i j : Nat) (o o' : Oper) d, ops[i]? = some o -> ops[j]? = some o' -> o'.dst = some d -> Operand.tmp d ∈ zc4 o.op ->
   (j < i /\ zb1 o.after.toList j = true) \/ (i < j /\ zb1 o'.after.toList i = true)
theorem zlt {i : Nat} {o : Oper} {ts : List Nat} : ∀ (l : List Oper) (j : Nat), zqr i o ts j l = true -> ∀ (k : Nat) (o' : Oper), l[k]? = some o' -> ∀ d, o'.dst = some d ->
   (zav (j + k) i || (match o.dst with | some d' => !zav d' d | none => true)) = true /\ (!zc7 ts d || (zbo (j + k) i && zb1 o.after.toList (j + k)) || (zbo i (j + k) && zb1 o'.after.toList i)) = true
 | [], _, _, k, o', hk, _, _ => by simp at hk
 | x :: l, j, h, k, o', hk, d, hd => by
   unfold zqr at h
   rw [Bool.and_eq_true] at h
   cases k with
   | zero =>
     simp only [List.getElem?_cons_zero, Option.some.injEq] at hk
     subst hk
     have h1 := h.1
     rw [hd] at h1
     simp only [Bool.and_eq_true] at h1
     exact h1
   | succ k =>
     have := zlt l (j + 1) h.2 k o' (by simpa using hk) d hd
     rw [show j + 1 + k = j + (k + 1) by omega] at this
     exact this
theorem zrx {ops : List Oper} : ∀ (l : List Oper) (i : Nat), zmm ops i l = true -> ∀ (k : Nat) (o : Oper), l[k]? = some o ->
   ((o.after.toList.all fun e => !Region.binds .any e || zbo e.on (i + k)) && (match o.guard with | none => true | some (g, _) => zb1 o.after.toList g)) = true /\ zqr (i + k) o (zsl (zc4 o.op)) 0 ops = true
 | [], _, _, k, o, hk => by simp at hk
 | x :: l, i, h, k, o, hk => by
   unfold zmm at h
   rw [Bool.and_eq_true, Bool.and_eq_true] at h
   cases k with
   | zero =>
     simp only [List.getElem?_cons_zero, Option.some.injEq] at hk
     subst hk
     exact ⟨h.1.1, h.1.2⟩
   | succ k =>
     have := zrx l (i + 1) h.2 k o (by simpa using hk)
     rw [show i + 1 + k = i + (k + 1) by omega] at this
     exact this
theorem zrw {ops : List Oper} (h : zmm ops 0 ops = true) : zmy ops := by
 have H := zrx ops 0 h
 simp only [Nat.zero_add] at H
 refine ⟨fun i o e ho he hb => ?_, fun i o g b ho hg => ?_, fun i j o o' d ho ho' hd hd' => ?_, fun i j o o' d ho ho' hd hr => ?_⟩
 · have h1 := (H i o ho).1
   rw [Bool.and_eq_true, List.all_eq_true] at h1
   have h2 := h1.1 e (Array.mem_toList_iff.2 he)
   rw [hb] at h2
   exact zcr (by simpa using h2)
 · have h1 := (H i o ho).1
   rw [Bool.and_eq_true] at h1
   have h2 := h1.2
   rw [hg] at h2
   exact h2
 · have h1 := (zlt ops 0 (H i o ho).2 j o' ho' d hd').1
   rw [hd, Nat.zero_add] at h1
   simp only [za6, Bool.not_true, Bool.or_false] at h1
   exact (za4 h1).symm
 · have h1 := (zlt ops 0 (H i o ho).2 j o' ho' d hd).2
   rw [Nat.zero_add, zcp.2 (ycm hr)] at h1
   simp only [Bool.not_true, Bool.false_or, Bool.or_eq_true, Bool.and_eq_true] at h1
   rcases h1 with h1 | h1
   · exact .inl ⟨zcr h1.1, h1.2⟩
   · exact .inr ⟨zcr h1.1, h1.2⟩
section
variable {P : Program} {T : TT} {base : Nat} {M : Two} {W : World} {nt : Nat} {ops : List Oper}
theorem zzs {f : Nat -> Option AV} {g : Nat -> Option Ob} {c : Nat -> Bool} {a : Act} {w : World} {o : Oper} {e : Ev} (hs : zif base M W nt f g c a w) (hops : ∀ o ∈ ops, ylb nt o)
   (hg : match zid ops o with
     | none => e.want = true
     | some (some t, w) => (∃ b, f t = some (.bool b) /\ e.want = (b == w)) \/ (f t = some (.tup []) /\ e.want = false)
     | some (none, _) => False) : Region.wanted o (yielded ops.toArray a.tmps) = e.want := by
 obtain ⟨D, μ, h⟩ := hs
 unfold Region.wanted
 unfold zid at hg
 cases e1 : o.guard with
 | none => rw [e1] at hg; simp only at hg |-; exact hg.symm
 | some x =>
   obtain ⟨j, wt⟩ := x
   rw [e1] at hg
   simp only at hg |-
   cases e2 : ops[j]? with
   | none => rw [e2] at hg; exact hg.elim
   | some o' =>
     rw [e2] at hg
     simp only at hg
     cases e3 : o'.dst with
     | none => rw [e3] at hg; exact hg.elim
     | some t =>
       rw [e3] at hg
       simp only at hg
       rcases hg with ⟨b, hb, hw⟩ | ⟨hb, hw⟩
       rotate_left
       · have ht : t < a.tmps.size := by rw [h.tmps]; exact (hops o' (List.mem_of_getElem? e2)).dst t e3
         obtain ⟨us, hu, l1, _⟩ := (h.slots t _ hb).inv_tup
         have hus : us = #[] := Array.eq_empty_of_size_eq_zero (by simpa using l1.symm)
         have hx : a.tmps[t]? = some (.tuple #[]) := by
           rw [hus] at hu
           rw [<- hu]; simp [ht]
         unfold yielded
         simp only [List.getElem?_toArray, e2, Option.bind_some, e3, hx]
         rw [hw]; cases wt <;> rfl
       have ht : t < a.tmps.size := by rw [h.tmps]; exact (hops o' (List.mem_of_getElem? e2)).dst t e3
       have hr := (h.slots t _ hb).inv_bool
       have hx : a.tmps[t]? = some (.bool b) := by rw [<- hr]; simp [ht]
       unfold yielded
       simp only [List.getElem?_toArray, e2, Option.bind_some, e3, hx]
       rw [hw]
       cases b <;> cases wt <;> rfl
theorem zow {f : Nat -> Option AV} {g : Nat -> Option Ob} {c : Nat -> Bool} {a : Act} {w : World} {o : Oper} {e : Ev} {i : Nat} {Q : Exit -> Act -> World -> Prop} {K : Act -> World -> Prop} (hT : zcb P T)
   (hs : zif base M W nt f g c a w) (hops : ∀ o ∈ ops, ylb nt o) (ho : ops[i]? = some o) (he : yut P T ops f g c o e)
   (hK : ∀ a' w', zif base M W nt (zn3 f o.dst e.v) (zbb g e.os) (zl7 c e.ice) a' w' -> K a' w') : wpOp P ops.toArray Q i K a w := by
 have hw := zzs hs hops he.guard
 have hok := hops o (List.mem_of_getElem? ho)
 obtain ⟨D, μ, h⟩ := hs
 unfold wpOp
 rw [List.getElem?_toArray, ho]
 simp only
 rw [hw]
 cases e1 : e.want with
 | true =>
   rw [if_pos rfl]
   rcases he.yes e1 with h1 | ⟨h1, h2⟩
   · exact .inl (ytx h1 (says h hok.dst hT hok.pl (fun t b ht => by simp [za2] at ht)) K Q hK)
   · rw [h2] at hK
     exact .inl (yx6 h hok.dst hok.pl h1 K Q hK)
 | false =>
   rw [if_neg (by simp)]
   obtain ⟨h1, h2, h3, _⟩ := he.no e1
   rw [h1, h2, h3] at hK
   exact hK _ _ ⟨D, μ, h.put hok.dst (.tup [] #[] rfl (fun i x v hx => by simp at hx))⟩
theorem zzy (hT : zcb P T) (hops : ∀ o ∈ ops, ylb nt o) {Q : Exit -> Act -> World -> Prop} {draw : Bool} : ∀ (r : List Oper) (i : Nat) (f : Nat -> Option AV) (g : Nat -> Option Ob) (c : Nat -> Bool) (acc : List (Nat × Ent)) (es : List Ev) (f' : Nat -> Option AV) (g' : Nat -> Option Ob) (c' : Nat -> Bool) (a : Act) (w : World),
   (∀ k, r[k]? = ops[i + k]?) -> yqe P T draw ops r i f g c acc es f' g' c' -> zif base M W nt f g c a w -> (∀ a' w', zif base M W nt f' g' c' a' w' -> Q .normal a' w') ->
   wpOps P ops.toArray Q (List.range' i r.length) a w
 | [], i, f, g, c, acc, es, f', g', c', a, w, hr, hW, hs, hQ => by
   cases es with
   | nil => obtain ⟨rfl, rfl, rfl⟩ := hW; exact hQ a w hs
   | cons _ _ => exact hW.elim
 | o :: r, i, f, g, c, acc, [], f', g', c', a, w, hr, hW, hs, hQ => hW.elim
 | o :: r, i, f, g, c, acc, e :: es, f', g', c', a, w, hr, hW, hs, hQ => by
   have ho : ops[i]? = some o := by have := hr 0; simpa using this.symm
   rw [List.length_cons, List.range'_succ, wpOps_cons]
   exact zow hT hs hops ho hW.1 fun a' w' hs' => zzy hT hops r (i + 1) _ _ _ _ es f' g' c' a' w' (fun k => by have := hr (k + 1); rw [List.getElem?_cons_succ] at this; rw [this]; congr 1; omega) hW.2.2 hs' hQ
def zzj (ops : List Oper) (E : Nat -> Ev) (t : Nat) (j : Nat) : Option AV := match ops[j]? with
 | some o => if o.dst = some t then some (E j).v else none
 | none => none
theorem zwr (f : Nat -> Option AV) (o : Oper) (v : AV) (t : Nat) : zn3 f o.dst v t = match (if o.dst = some t then some v else none) with | some x => some x | none => f t := by
 unfold zn3
 cases e : o.dst with
 | none => simp
 | some d =>
   by_cases h : t = d
   · subst h; simp
   · simp [h]; rw [if_neg (fun h' => h h'.symm)]
section
variable (ops : List Oper) (E : Nat -> Ev) (f0 : Nat -> Option AV) (g0 : Nat -> Option Ob) (c0 : Nat -> Bool)
def fL (L : Nat -> Bool) (n : Nat) : Nat -> Option AV := fun t => zih L (zzj ops E t) (f0 t) n
def gL (L : Nat -> Bool) (n : Nat) : Nat -> Option Ob := fun id => zih L (fun j => za2 (E j).os id) (g0 id) n
def cL (L : Nat -> Bool) (n : Nat) : Nat -> Bool := fun id => zn5 L (fun j => zc7 (E j).ice id) (c0 id) n
end
abbrev zgy : Nat -> Bool := fun _ => true
variable {E : Nat -> Ev} {f0 : Nat -> Option AV} {g0 : Nat -> Option Ob} {c0 : Nat -> Bool}
theorem yon {i : Nat} {o : Oper} (ho : ops[i]? = some o) : fL ops E f0 zgy (i + 1) = zn3 (fL ops E f0 zgy i) o.dst (E i).v := by
 funext t
 rw [zwr]
 show zih zgy (zzj ops E t) (f0 t) (i + 1) = _
 rw [zm6, if_pos rfl]
 have : zzj ops E t i = if o.dst = some t then some (E i).v else none := by unfold zzj; rw [ho]
 rw [this]
 cases (if o.dst = some t then some (E i).v else none) <;> rfl
theorem yoi {i : Nat} : gL E g0 zgy (i + 1) = zbb (gL E g0 zgy i) (E i).os := by
 funext id
 show zih zgy _ (g0 id) (i + 1) = _
 rw [zm6, if_pos rfl]
 unfold zbb
 cases za2 (E i).os id <;> rfl
theorem ypg {i : Nat} : cL E c0 zgy (i + 1) = zl7 (cL E c0 zgy i) (E i).ice := by
 funext id
 show zn5 zgy _ (c0 id) (i + 1) = _
 rw [zs6]
 rfl
def yhl (E : Nat -> Ev) (acc : List (Nat × Ent)) (i : Nat) : Prop := ∀ k, k < i -> (E k).ent = ⟨[], []⟩ \/ (k, (E k).ent) ∈ acc
theorem zya {acc : List (Nat × Ent)} {i : Nat} (h : yhl E acc i) (hno : (E i).want = false -> (E i).ent = ⟨[], []⟩) : yhl E (zyb acc i (E i)) (i + 1) := by
 intro k hk
 unfold zyb
 by_cases hi : k = i
 · subst hi
   cases hw : (E k).want with
   | false => exact .inl (hno hw)
   | true =>
     rw [if_pos rfl]
     unfold zvm
     generalize (E k).ent = x
     obtain ⟨a, b⟩ := x
     cases a with
     | nil => cases b with
       | nil => exact .inl rfl
       | cons _ _ => exact .inr (by simp)
     | cons _ _ => exact .inr (by simp)
 · rcases h k (by omega) with h | h
   · exact .inl h
   · refine .inr ?_
     split
     · unfold zvm
       split
       · split
         · exact h
         · exact List.mem_cons_of_mem _ h
       · exact List.mem_cons_of_mem _ h
     · exact h
structure At (P : Program) (T : TT) (ops : List Oper) (E : Nat -> Ev) (f0 : Nat -> Option AV) (g0 : Nat -> Option Ob) (c0 : Nat -> Bool) (j : Nat) (o : Oper) : Prop where
 ev : yut P T ops (fL ops E f0 zgy j) (gL E g0 zgy j) (cL E c0 zgy j) o (E j)
 ent : yjx (fL ops E f0 zgy j) o (E j)
 ord : ∃ acc, yhl E acc j /\ yju ops o (E j) acc
theorem zzt : ∀ (r : List Oper) (i : Nat) (f : Nat -> Option AV) (g : Nat -> Option Ob) (c : Nat -> Bool) (acc : List (Nat × Ent)) (es : List Ev) (f' : Nat -> Option AV) (g' : Nat -> Option Ob) (c' : Nat -> Bool),
   (∀ k, r[k]? = ops[i + k]?) -> (∀ k e, es[k]? = some e -> E (i + k) = e) -> f = fL ops E f0 zgy i -> g = gL E g0 zgy i -> c = cL E c0 zgy i -> yhl E acc i -> yqe P T true ops r i f g c acc es f' g' c' ->
   (∀ j o, i <= j -> ops[j]? = some o -> At P T ops E f0 g0 c0 j o) /\ f' = fL ops E f0 zgy (i + r.length) /\ g' = gL E g0 zgy (i + r.length) /\ c' = cL E c0 zgy (i + r.length)
 | [], i, f, g, c, acc, es, f', g', c', hr, hE, ef, eg, ec, hn, hW => by
   cases es with
   | nil =>
     obtain ⟨rfl, rfl, rfl⟩ := hW
     refine ⟨fun j o hj ho => ?_, ef, eg, ec⟩
     have := hr (j - i)
     rw [show i + (j - i) = j by omega, ho] at this
     simp at this
   | cons _ _ => exact hW.elim
 | o :: r, i, f, g, c, acc, [], f', g', c', hr, hE, ef, eg, ec, hn, hW => hW.elim
 | o :: r, i, f, g, c, acc, e :: es, f', g', c', hr, hE, ef, eg, ec, hn, hW => by
   have ho : ops[i]? = some o := by have := hr 0; simpa using this.symm
   obtain ⟨h1, h2, h3⟩ := hW
   obtain ⟨h2, h2'⟩ := h2 rfl
   have hEi : E i = e := hE 0 e rfl
   rw [if_pos rfl] at h3
   have ih := zzt r (i + 1) _ _ _ _ es f' g' c' (fun k => by have := hr (k + 1); rw [List.getElem?_cons_succ] at this; rw [this]; congr 1; omega) (fun k x hx => by rw [show i + 1 + k = i + (k + 1) by omega]; exact hE (k + 1) x (by simpa using hx))
     (by rw [yon ho, hEi, ef]) (by rw [yoi, hEi, eg]) (by rw [ypg, hEi, ec]) (by rw [<- hEi]; exact zya hn (by rw [hEi]; exact fun hw => (h1.no hw).2.2.2)) h3
   obtain ⟨i1, i2, i3, i4⟩ := ih
   rw [show i + 1 + r.length = i + (o :: r).length by simp; omega] at i2 i3 i4
   refine ⟨fun j o' hj ho' => ?_, i2, i3, i4⟩
   by_cases e1 : j = i
   · subst e1
     rw [ho] at ho'
     cases ho'
     subst hEi; subst ef; subst eg; subst ec
     exact ⟨h1, h2, acc, hn, h2'⟩
   · exact i1 j o' (by omega) ho'
theorem zqx {xs ys : List Nat} {id : Nat} (h1 : id ∈ xs) (h2 : id ∈ ys) : yco xs ys = true := by
 induction xs with
 | nil => cases h1
 | cons x xs ih =>
   unfold yco
   rcases List.mem_cons.1 h1 with rfl | h1
   · rw [zcp.2 h2]
   · split
     · rfl
     · exact ih h1
theorem yp6 {a b : Ent} {id : Nat} (h1 : id ∈ a.wr) (h2 : id ∈ b.ids \/ id ∈ b.wr) : zu1 a b = true := by
 unfold zu1
 rw [zqx h1 (by rw [zax, List.mem_append]; exact h2)]
theorem yp5 {a b : Ent} {id : Nat} (h1 : id ∈ b.wr) (h2 : id ∈ a.ids) : zu1 a b = true := by
 unfold zu1
 split
 · rfl
 · exact zqx h1 h2
theorem zt4 {es : List Edge} {x : Ent} {acc : List (Nat × Ent)} (h : zju ops es x acc = true) {k : Nat} {y : Ent} (hm : (k, y) ∈ acc) (hc : zu1 x y = true) : ahead ops 4 es k = true := by
 induction acc with
 | nil => cases hm
 | cons z acc ih =>
   obtain ⟨j, z⟩ := z
   unfold zju at h
   rcases List.mem_cons.1 hm with e | hm
   · cases e
     rw [hc] at h
     simp only at h
     split at h
     · assumption
     · cases h
   · refine ih ?_ hm
     split at h
     · split at h
       · exact h
       · cases h
     · exact h
def zo6 (ops : List Oper) (L : Nat -> Bool) : Prop := ∀ (k : Nat) (o : Oper) (e : Edge), ops[k]? = some o -> L k = true -> e ∈ o.after -> Region.binds .any e = true -> L e.on = true
theorem zhd {L : Nat -> Bool} {es : List Edge} {j : Nat} (h : ∀ e ∈ es, Region.binds .any e = true -> L e.on = true) (hd : zb1 es j = true) : L j = true := by
 induction es with
 | nil => simp [zb1] at hd
 | cons e es ih =>
   have ih := ih fun x hx => h x (by simp [hx])
   unfold zb1 at hd
   split at hd
   · rename_i hb
     split at hd
     · rename_i he
       rw [<- za4 he]; exact h e (by simp) hb
     · exact ih hd
   · exact ih hd
theorem zq3 {L : Nat -> Bool} (hc : zo6 ops L) {j : Nat} : ∀ (n : Nat) (es : List Edge), (∀ e ∈ es, Region.binds .any e = true -> L e.on = true) -> ahead ops n es j = true -> L j = true
 | 0, es, h, hd => zhd h hd
 | n + 1, es, h, hd => by
   unfold ahead at hd
   split at hd
   · rename_i h'; exact zhd h h'
   · rw [List.any_eq_true] at hd
     obtain ⟨e, he, hd⟩ := hd
     split at hd
     · rename_i hb
       split at hd
       · cases hd
       · split at hd
         · rename_i o ho
           exact zq3 hc n o.after.toList (fun x hx hxb => hc e.on o x ho (h e he hb) (Array.mem_toList_iff.1 hx) hxb) hd
         · cases hd
     · cases hd
structure zug (ops : List Oper) (L : Nat -> Bool) (i : Nat) (o : Oper) : Prop where
 at_ : ops[i]? = some o
 not : L i = false
 go : ∀ e ∈ o.after.toList, Region.binds .any e = true -> L e.on = true
variable {L : Nat -> Bool} {i : Nat} {o : Oper}
theorem yt5 (h : At P T ops E f0 g0 c0 i o) {id : Nat} (hid : id ∈ (E i).ent.ids \/ id ∈ (E i).ent.wr) : (E i).want = true := by
 cases hw : (E i).want with
 | true => rfl
 | false =>
   have := (h.ev.no hw).2.2.2
   rw [this] at hid
   simp at hid
theorem zvc (hA : ∀ j o, ops[j]? = some o -> At P T ops E f0 g0 c0 j o) {j k : Nat} {o : Oper} (ho : ops[k]? = some o) (hjk : j < k) {id : Nat} (h : (id ∈ (E k).ent.wr /\ (id ∈ (E j).ent.ids \/ id ∈ (E j).ent.wr)) \/ (id ∈ (E j).ent.wr /\ id ∈ (E k).ent.ids)) : ahead ops 4 o.after.toList j = true := by
 have A := hA k o ho
 have hw : (E k).want = true := yt5 A (id := id) (by rcases h with h | h; exact .inr h.1; exact .inl h.2)
 obtain ⟨acc, hn, ho'⟩ := A.ord
 have hor := ho' hw
 have hcl : zu1 (E k).ent (E j).ent = true := by
   rcases h with h | h
   · exact yp6 h.1 h.2
   · exact yp5 h.1 h.2
 rcases hn j hjk with h0 | h0
 · rw [h0] at h; simp at h
 · exact zt4 hor h0 hcl
theorem yu7 (hA : ∀ j o, ops[j]? = some o -> At P T ops E f0 g0 c0 j o) (hC : zo6 ops L) (hR : zug ops L i o) {j : Nat} (hj : j < ops.length) {id : Nat}
   (h : (id ∈ (E j).ent.wr /\ (id ∈ (E i).ent.ids \/ id ∈ (E i).ent.wr)) \/ (id ∈ (E i).ent.wr /\ id ∈ (E j).ent.ids)) : L j = decide (j < i) := by
 obtain ⟨oj, hoj⟩ : ∃ oj, ops[j]? = some oj := ⟨_, List.getElem?_eq_getElem hj⟩
 rcases Nat.lt_trichotomy j i with hlt | heq | hgt
 · have := zvc hA hR.at_ hlt (id := id) (by
     rcases h with ⟨h1, h2 | h2⟩ | ⟨h1, h2⟩
     · exact .inr ⟨h1, h2⟩
     · exact .inl ⟨h2, .inr h1⟩
     · exact .inl ⟨h1, .inl h2⟩)
   rw [zq3 hC 4 _ hR.go this]; simp [hlt]
 · subst heq
   rw [hR.not]; simp
 · have := zvc hA hoj hgt (id := id) (by
     rcases h with ⟨h1, h2 | h2⟩ | ⟨h1, h2⟩
     · exact .inl ⟨h1, .inl h2⟩
     · exact .inl ⟨h1, .inr h2⟩
     · exact .inr ⟨h1, h2⟩)
   have hn : L j = false := by
     cases hL : L j with
     | false => rfl
     | true =>
       have h2 := zq3 hC 4 _ (fun e he hb => hC j oj e hoj hL (Array.mem_toList_iff.1 he) hb) this
       rw [hR.not] at h2; cases h2
   rw [hn]; simp; omega
theorem ykz (hD : zmy ops) (hC : zo6 ops L) (hR : zug ops L i o) {t : Nat} (ht : Operand.tmp t ∈ zc4 o.op \/ ∃ g b og, o.guard = some (g, b) /\ ops[g]? = some og /\ og.dst = some t) : fL ops E f0 L ops.length t = fL ops E f0 zgy i t := by
 have hi : i < ops.length := (List.getElem?_eq_some_iff.1 hR.at_).1
 show zih L (zzj ops E t) (f0 t) ops.length = zih zgy (zzj ops E t) (f0 t) i
 rw [<- zm7 i ops.length (by omega)]
 refine zde _ fun j hj hh => ?_
 obtain ⟨oj, hoj⟩ : ∃ oj, ops[j]? = some oj := ⟨_, List.getElem?_eq_getElem hj⟩
 have hdj : oj.dst = some t := by
   unfold zzj at hh
   rw [hoj] at hh
   simp only at hh
   split at hh
   · assumption
   · exact absurd rfl hh
 rcases ht with ht | ⟨g, b, og, h1, h2, h3⟩
 · rcases hD.reads i j o oj t hR.at_ hoj hdj ht with h | h
   · rw [zhd hR.go h.2]; simp [h.1]
   · have hn : L j = false := by
       cases hL : L j with
       | false => rfl
       | true =>
         have h2 := zhd (fun e he hb => hC j oj e hoj hL (Array.mem_toList_iff.1 he) hb) h.2
         rw [hR.not] at h2; cases h2
     rw [hn]; simp; omega
 · have := hD.once j g oj og t hoj h2 hdj h3
   subst this
   have hd := hD.guard i o j b hR.at_ h1
   rw [zhd hR.go hd]
   have : j < i := by
     have key : ∀ es : List Edge, (∀ e ∈ es, Region.binds .any e = true -> e.on < i) -> zb1 es j = true -> j < i := by
       intro es
       induction es with
       | nil => intro _ h; simp [zb1] at h
       | cons e es ih =>
         intro h hd
         have ih := ih fun x hx => h x (by simp [hx])
         unfold zb1 at hd
         split at hd
         · rename_i hb
           split at hd
           · rename_i he; rw [<- za4 he]; exact h e (by simp) hb
           · exact ih hd
         · exact ih hd
     exact key _ (fun e he hb => hD.back i o e hR.at_ (Array.mem_toList_iff.1 he) hb) hd
   simp [this]
theorem yip {α : Type} {l : List (Nat × α)} {id : Nat} (h : za2 l id ≠ none) : id ∈ zwj l := by
 induction l with
 | nil => simp [za2] at h
 | cons x l ih =>
   obtain ⟨k, v⟩ := x
   unfold za2 at h
   unfold zwj
   cases e : zav k id with
   | true => simp [za4 e]
   | false => rw [e] at h; simp [ih h]
theorem yhg (h : At P T ops E f0 g0 c0 i o) {id : Nat} (hh : za2 (E i).os id ≠ none) : id ∈ (E i).ent.wr := by
 cases hw : (E i).want with
 | true => exact (h.ent hw).2.2.2.1 id (yip hh)
 | false => rw [(h.ev.no hw).2.1] at hh; simp [za2] at hh
theorem yo9 (h : At P T ops E f0 g0 c0 i o) {id : Nat} (hh : zc7 (E i).ice id = true) : id ∈ (E i).ent.ids := by
 cases hw : (E i).want with
 | true => exact (h.ent hw).2.2.1 id (zcp.1 hh)
 | false => rw [(h.ev.no hw).2.2.1] at hh; simp [zc7] at hh
theorem yt1 (hD : zmy ops) (hA : ∀ j o, ops[j]? = some o -> At P T ops E f0 g0 c0 j o) (hC : zo6 ops L) (hR : zug ops L i o) :
   yut P T ops (fL ops E f0 L ops.length) (gL E g0 L ops.length) (cL E c0 L ops.length) o (E i) := by
 have A := hA i o hR.at_
 have hi : i < ops.length := (List.getElem?_eq_some_iff.1 hR.at_).1
 refine ⟨?_, A.ev.no, fun hw => ?_⟩
 · have hg := A.ev.guard
   unfold zid at hg |-
   cases e1 : o.guard with
   | none => rw [e1] at hg; exact hg
   | some x =>
     obtain ⟨j, b⟩ := x
     rw [e1] at hg
     simp only at hg |-
     cases e2 : ops[j]? with
     | none => rw [e2] at hg; exact hg
     | some o' =>
       rw [e2] at hg
       simp only at hg |-
       cases e3 : o'.dst with
       | none => rw [e3] at hg; exact hg
       | some t =>
         rw [e3] at hg
         simp only at hg |-
         rw [ykz hD hC hR (.inr ⟨j, b, o', e1, e2, e3⟩)]
         exact hg
 · have h1 := A.ev.yes hw
   obtain ⟨n1, n2, n3, n4, n5⟩ := A.ent hw
   have hv : zd3 (evf (fL ops E f0 L ops.length) []) (zc4 o.op) = zd3 (evf (fL ops E f0 zgy i) []) (zc4 o.op) := by
     refine zhq fun x hx => ?_
     cases x with
     | tmp t => simp only [evf, za2]; rw [ykz hD hC hR (.inl hx)]
     | _ => rfl
   have hg : ∀ id, id ∈ (E i).ent.ids -> gL E g0 L ops.length id = gL E g0 zgy i id := by
     intro id hid
     show zih L _ (g0 id) ops.length = zih zgy _ (g0 id) i
     rw [<- zm7 i ops.length (by omega)]
     refine zde _ fun j hj hh => ?_
     obtain ⟨oj, hoj⟩ : ∃ oj, ops[j]? = some oj := ⟨_, List.getElem?_eq_getElem hj⟩
     exact yu7 hA hC hR hj (id := id) (.inl ⟨yhg (hA j oj hoj) hh, .inl hid⟩)
   have hgw : ∀ id, id ∈ (E i).ent.wr -> gL E g0 L ops.length id = gL E g0 zgy i id := by
     intro id hid
     show zih L _ (g0 id) ops.length = zih zgy _ (g0 id) i
     rw [<- zm7 i ops.length (by omega)]
     refine zde _ fun j hj hh => ?_
     obtain ⟨oj, hoj⟩ : ∃ oj, ops[j]? = some oj := ⟨_, List.getElem?_eq_getElem hj⟩
     exact yu7 hA hC hR hj (id := id) (.inl ⟨yhg (hA j oj hoj) hh, .inr hid⟩)
   have hc : ∀ id, id ∈ (E i).ent.wr -> cL E c0 L ops.length id = cL E c0 zgy i id := by
     intro id hid
     show zn5 L _ (c0 id) ops.length = zn5 zgy _ (c0 id) i
     rw [<- yff i ops.length (by omega)]
     refine zg3 _ fun j hj hh => ?_
     obtain ⟨oj, hoj⟩ : ∃ oj, ops[j]? = some oj := ⟨_, List.getElem?_eq_getElem hj⟩
     exact yu7 hA hC hR hj (id := id) (.inr ⟨hid, yo9 (hA j oj hoj) hh⟩)
   rcases h1 with h1 | ⟨h1, h2⟩
   · left
     rw [zlg (f' := fL ops E f0 zgy i) (g' := gL E g0 zgy i) (c' := cL E c0 zgy i) (kn' := []) hv (fun id hid => hg id (n1 id hid)) (fun hcr d hd => hg d (n2 hcr d hd)) (fun hwr id hid => hc id (n5 hwr id hid))]
     exact h1
   · right
     refine ⟨?_, h2⟩
     obtain ⟨fo, xs, ts, k, first, caps, zs, F, fr, T', e, hvals, hM, hm, q1, q2⟩ := h1
     refine ⟨fo, xs, ts, k, first, caps, zs, F, fr, T', e, by rw [hv]; exact hvals, hM, hm.congr (fun id hid => hgw id (n4 id (by rw [q2]; exact hid))) (fun id hid => hc id (n4 id (by rw [q2]; exact hid))), q1, q2⟩
theorem yps (hD : zmy ops) (hA : ∀ j o, ops[j]? = some o -> At P T ops E f0 g0 c0 j o) (hC : zo6 ops L) (hR : zug ops L i o) {L' : Nat -> Bool} (h1 : L' i = true) (hne : ∀ j, j ≠ i -> L' j = L j) :
   zn3 (fL ops E f0 L ops.length) o.dst (E i).v = fL ops E f0 L' ops.length /\ zbb (gL E g0 L ops.length) (E i).os = gL E g0 L' ops.length /\ zl7 (cL E c0 L ops.length) (E i).ice = cL E c0 L' ops.length := by
 have A := hA i o hR.at_
 have hi : i < ops.length := (List.getElem?_eq_some_iff.1 hR.at_).1
 refine ⟨?_, ?_, ?_⟩
 · funext t
   rw [zwr]
   have hf : zzj ops E t i = if o.dst = some t then some (E i).v else none := by unfold zzj; rw [hR.at_]
   have := zpe (hit := zzj ops E t) (s := f0 t) h1 hR.not hne ops.length hi (fun hh j hij hj hLj => by
     rw [hf] at hh
     have hd : o.dst = some t := by
       split at hh
       · assumption
       · exact absurd rfl hh
     obtain ⟨oj, hoj⟩ : ∃ oj, ops[j]? = some oj := ⟨_, List.getElem?_eq_getElem hj⟩
     unfold zzj
     rw [hoj]
     simp only
     rw [if_neg]
     intro hdj
     have := hD.once i j o oj t hR.at_ hoj hd hdj
     omega)
   rw [hf] at this
   show _ = zih L' (zzj ops E t) (f0 t) ops.length
   rw [this]
   cases (if o.dst = some t then some (E i).v else none) <;> rfl
 · funext id
   have := zpe (hit := fun j => za2 (E j).os id) (s := g0 id) h1 hR.not hne ops.length hi (fun hh j hij hj hLj => by
     refine Decidable.byContradiction fun hjn => ?_
     obtain ⟨oj, hoj⟩ : ∃ oj, ops[j]? = some oj := ⟨_, List.getElem?_eq_getElem hj⟩
     have := yu7 hA hC hR hj (id := id) (.inl ⟨yhg (hA j oj hoj) (by intro e; rw [e] at hjn; exact hjn rfl), .inr (yhg A hh)⟩)
     rw [hLj] at this
     simp at this
     omega)
   show _ = zih L' (fun j => za2 (E j).os id) (g0 id) ops.length
   rw [this]
   unfold zbb
   cases za2 (E i).os id <;> rfl
 · funext id
   have := zx2 (p := fun j => zc7 (E j).ice id) (s := c0 id) h1 hR.not hne ops.length hi
   show _ = zn5 L' _ (c0 id) ops.length
   rw [this]
   rfl
def left (L : Array Bool) : Nat := L.toList.count false
theorem yic {L : Array Bool} {i : Nat} (h : L.getD i true = false) (hi : i < L.size) : left (L.setIfInBounds i true) + 1 = left L := by
 have hget : L[i] = false := by simpa [hi] using h
 unfold left
 have hc : 0 < List.count false L.toList := List.count_pos_iff.2 (by rw [<- hget]; simp)
 have h2 := List.count_set (a := true) (b := false) (l := L.toList) (i := i) (by simpa using hi)
 rw [Array.toList_setIfInBounds, h2]
 have e1 : (L.toList[i]'(by simpa using hi)) = false := by simpa using hget
 rw [e1]
 have e2 : ((false == false) = true) := rfl
 have e3 : ¬ ((true == false) = true) := by decide
 rw [if_pos e2, if_neg e3]
 omega
theorem ztm {L : Array Bool} {i : Nat} (h : i < L.size) (d d' : Bool) : L.getD i d = L.getD i d' := by simp [h]
theorem zs8 (hD : zmy ops) {L : Array Bool} (hs : L.size = ops.length) (hn : Region.ready .any ops.toArray L = []) : ∀ j, j < ops.length -> L.getD j true = true := by
 intro j
 induction j using Nat.strongRecOn with
 | _ j ih =>
   intro hj
   refine Decidable.byContradiction fun h => ?_
   have hm : j ∈ Region.ready .any ops.toArray L := by
     rw [mem_ready]
     refine ⟨by simpa using h, ops[j], by simp [hj], fun e he hb => ?_⟩
     have hlt := hD.back j ops[j] e (List.getElem?_eq_getElem hj) he hb
     rw [ztm (by omega) false true]
     exact ih e.on hlt (by omega)
   rw [hn] at hm; cases hm
structure InvA (base : Nat) (M : Two) (W : World) (nt : Nat) (ops : List Oper) (E : Nat -> Ev) (f0 : Nat -> Option AV) (g0 : Nat -> Option Ob) (c0 : Nat -> Bool) (L : Array Bool) (a : Act) (w : World) : Prop where
 size : L.size = ops.length
 closed : zo6 ops (fun i => L.getD i false)
 sim : zif base M W nt (fL ops E f0 (fun i => L.getD i false) ops.length) (gL E g0 (fun i => L.getD i false) ops.length) (cL E c0 (fun i => L.getD i false) ops.length) a w
theorem zrk {L : Array Bool} (hs : L.size = ops.length) (h : ∀ j, j < ops.length -> L.getD j true = true) :
   fL ops E f0 (fun i => L.getD i false) ops.length = fL ops E f0 zgy ops.length /\ gL E g0 (fun i => L.getD i false) ops.length = gL E g0 zgy ops.length /\ cL E c0 (fun i => L.getD i false) ops.length = cL E c0 zgy ops.length := by
 have hj : ∀ j, j < ops.length -> L.getD j false = zgy j := fun j hj => by rw [ztm (by omega) false true]; exact h j hj
 exact ⟨funext fun t => zde _ fun j h _ => hj j h, funext fun t => zde _ fun j h _ => hj j h, funext fun t => zg3 _ fun j h _ => hj j h⟩
theorem yl6 (hT : zcb P T) (hops : ∀ o ∈ ops, ylb nt o) (hD : zmy ops) (hA : ∀ j o, ops[j]? = some o -> At P T ops E f0 g0 c0 j o) {Q : Exit -> Act -> World -> Prop}
   (hQ : ∀ a w, zif base M W nt (fL ops E f0 zgy ops.length) (gL E g0 zgy ops.length) (cL E c0 zgy ops.length) a w -> Q .normal a w) :
   ∀ (fuel : Nat) (L : Array Bool) (a : Act) (w : World), left L <= fuel -> InvA base M W nt ops E f0 g0 c0 L a w -> wpAny P .any ops.toArray Q fuel L a w
 | 0, L, a, w, hf, I => by
   have hall : ∀ j, j < ops.length -> L.getD j true = true := fun j hj => by
     refine Decidable.byContradiction fun h => ?_
     have hm : false ∈ L.toList := by
       have hjL : j < L.size := by rw [I.size]; exact hj
       have : L[j] = false := by simpa [hjL] using h
       rw [<- this]; simp
     have := List.count_pos_iff.2 hm
     unfold left at hf; omega
   obtain ⟨e1, e2, e3⟩ := zrk (E := E) (f0 := f0) (g0 := g0) (c0 := c0) I.size hall
   refine ⟨?_, hQ a w (by have := I.sim; rwa [e1, e2, e3] at this)⟩
   refine List.eq_nil_iff_forall_not_mem.2 fun j hj => ?_
   rw [mem_ready] at hj
   obtain ⟨h1, o, ho, _⟩ := hj
   have hj : j < ops.length := by
     rw [List.getElem?_toArray] at ho
     exact (List.getElem?_eq_some_iff.1 ho).1
   rw [hall j hj] at h1; cases h1
 | fuel + 1, L, a, w, hf, I => by
   refine ⟨fun hn => ?_, fun i hi => ?_⟩
   · obtain ⟨e1, e2, e3⟩ := zrk (E := E) (f0 := f0) (g0 := g0) (c0 := c0) I.size (zs8 hD I.size hn)
     exact hQ a w (by have := I.sim; rwa [e1, e2, e3] at this)
   · rw [mem_ready] at hi
     obtain ⟨hun, o, ho, hed⟩ := hi
     rw [List.getElem?_toArray] at ho
     have hil : i < ops.length := (List.getElem?_eq_some_iff.1 ho).1
     have hiL : i < L.size := by rw [I.size]; exact hil
     have hR : zug ops (fun i => L.getD i false) i o := ⟨ho, by rw [ztm hiL false true]; exact hun, fun e he hb => hed e (Array.mem_toList_iff.1 he) hb⟩
     have hleft := yic hun hiL
     have h1 : (fun j => (L.setIfInBounds i true).getD j false) i = true := by simp [hiL]
     have hne : ∀ j, j ≠ i -> (fun j => (L.setIfInBounds i true).getD j false) j = (fun j => L.getD j false) j := fun j hj => by
       simp only [Array.getD_eq_getD_getElem?, Array.getElem?_setIfInBounds_ne (fun e => hj e.symm)]
     obtain ⟨q1, q2, q3⟩ := yps hD hA I.closed hR h1 hne
     refine zow hT I.sim hops ho (yt1 hD hA I.closed hR) fun a' w' hs => yl6 hT hops hD hA hQ fuel _ a' w' (by omega) ⟨by simpa using I.size, ?_, ?_⟩
     · intro k ok e hk hL he hb
       by_cases hki : k = i
       · subst hki
         rw [ho] at hk; cases hk
         have := hR.go e (Array.mem_toList_iff.2 he) hb
         by_cases hei : e.on = k
         · rw [hei]; exact h1
         · have := hne e.on hei; simp only at this |-; rw [this]; exact hR.go e (Array.mem_toList_iff.2 he) hb
       · have h2 := hne k hki
         simp only at h2 hL
         rw [h2] at hL
         have := I.closed k ok e hk hL he hb
         by_cases hei : e.on = i
         · rw [hei]; exact h1
         · have h3 := hne e.on hei; simp only at h3 |-; rw [h3]; exact this
     · rw [q1, q2, q3] at hs
       exact hs
theorem zfd {L : Array Bool} {i : Nat} (h : i ∈ Region.ready .any ops.toArray L) : ∃ o, ops[i]? = some o /\ L.getD i true = false /\ ∀ j, zb1 o.after.toList j = true -> L.getD j false = true := by
 rw [mem_ready] at h
 obtain ⟨h1, o, ho, h2⟩ := h
 rw [List.getElem?_toArray] at ho
 refine ⟨o, ho, h1, fun j hj => ?_⟩
 have : ∀ es : List Edge, zb1 es j = true -> ∃ e, e ∈ es /\ Region.binds .any e = true /\ e.on = j := by
   intro es
   induction es with
   | nil => intro h; cases h
   | cons x es ih =>
     intro h
     unfold zb1 at h
     split at h
     · rename_i hb
       split at h
       · rename_i he; exact ⟨x, by simp, hb, za4 he⟩
       · obtain ⟨e, e1, e2, e3⟩ := ih h; exact ⟨e, by simp [e1], e2, e3⟩
     · obtain ⟨e, e1, e2, e3⟩ := ih h; exact ⟨e, by simp [e1], e2, e3⟩
 obtain ⟨e, e1, e2, e3⟩ := this _ hj
 rw [<- e3]
 exact h2 e (Array.mem_toList_iff.1 e1) e2
theorem yek {o0 o1 o2 o3 : Oper} (hT : zcb P T) (hops : ∀ o ∈ [o0, o1, o2, o3], ylb nt o) (hD : zmy [o0, o1, o2, o3])
   (d1 : zb1 o1.after.toList 0 = true) (d2 : zb1 o2.after.toList 0 = true) (d3 : zb1 o3.after.toList 1 = true) (d4 : zb1 o3.after.toList 2 = true) {Q : Exit -> Act -> World -> Prop}
   {f f1 f2 f3 f4 f2' f3' f4' : Nat -> Option AV} {g g1 g2 g3 g4 g2' g3' g4' : Nat -> Option Ob} {c c1 c2 c3 c4 c2' c3' c4' : Nat -> Bool}
   (h0 : ∀ a w K, zif base M W nt f g c a w -> (∀ a w, zif base M W nt f1 g1 c1 a w -> K a w) -> wpOp P [o0, o1, o2, o3].toArray Q 0 K a w)
   (h1 : ∀ a w K, zif base M W nt f1 g1 c1 a w -> (∀ a w, zif base M W nt f2 g2 c2 a w -> K a w) -> wpOp P [o0, o1, o2, o3].toArray Q 1 K a w)
   (h2 : ∀ a w K, zif base M W nt f2 g2 c2 a w -> (∀ a w, zif base M W nt f3 g3 c3 a w -> K a w) -> wpOp P [o0, o1, o2, o3].toArray Q 2 K a w)
   (h3 : ∀ a w K, zif base M W nt f3 g3 c3 a w -> (∀ a w, zif base M W nt f4 g4 c4 a w -> K a w) -> wpOp P [o0, o1, o2, o3].toArray Q 3 K a w)
   (h1' : ∀ a w K, zif base M W nt f1 g1 c1 a w -> (∀ a w, zif base M W nt f2' g2' c2' a w -> K a w) -> wpOp P [o0, o1, o2, o3].toArray Q 2 K a w)
   (h2' : ∀ a w K, zif base M W nt f2' g2' c2' a w -> (∀ a w, zif base M W nt f3' g3' c3' a w -> K a w) -> wpOp P [o0, o1, o2, o3].toArray Q 1 K a w)
   (h3' : ∀ a w K, zif base M W nt f3' g3' c3' a w -> (∀ a w, zif base M W nt f4' g4' c4' a w -> K a w) -> wpOp P [o0, o1, o2, o3].toArray Q 3 K a w)
   (hQ : ∀ a w, zif base M W nt f4 g4 c4 a w -> Q .normal a w) (hQ' : ∀ a w, zif base M W nt f4' g4' c4' a w -> Q .normal a w)
   {a : Act} {w : World} (hs : zif base M W nt f g c a w) : wpAny P .any [o0, o1, o2, o3].toArray Q 4 #[false, false, false, false] a w := by
 have nd : ∀ (L : Array Bool), L.size = 4 -> (∃ j, j < 4 /\ L.getD j true = false) -> Region.ready .any [o0, o1, o2, o3].toArray L = [] -> False := by
   intro L hL hj hn
   obtain ⟨j, hj1, hj2⟩ := hj
   have := zs8 hD (L := L) hL hn j hj1
   rw [this] at hj2; cases hj2
 have four : ∀ {i : Nat} {o : Oper}, [o0, o1, o2, o3][i]? = some o -> (i = 0 /\ o = o0) \/ (i = 1 /\ o = o1) \/ (i = 2 /\ o = o2) \/ (i = 3 /\ o = o3) := by
   intro i o h
   match i, h with
   | 0, h => cases h; simp
   | 1, h => cases h; simp
   | 2, h => cases h; simp
   | 3, h => cases h; simp
   | i + 4, h => simp at h
 refine ⟨fun hn => (nd _ rfl ⟨0, by omega, rfl⟩ hn).elim, fun i hi => ?_⟩
 obtain ⟨o, ho, hL, hd⟩ := zfd hi
 rcases four ho with ⟨rfl, rfl⟩ | ⟨rfl, rfl⟩ | ⟨rfl, rfl⟩ | ⟨rfl, rfl⟩
 rotate_left
 · cases hd 0 d1
 · cases hd 0 d2
 · cases hd 1 d3
 refine h0 a w _ hs fun a w hs => ?_
 refine ⟨fun hn => (nd _ rfl ⟨1, by omega, rfl⟩ hn).elim, fun i hi => ?_⟩
 obtain ⟨o, ho, hL, hd⟩ := zfd hi
 rcases four ho with ⟨rfl, rfl⟩ | ⟨rfl, rfl⟩ | ⟨rfl, rfl⟩ | ⟨rfl, rfl⟩
 · cases hL
 · refine h1 a w _ hs fun a w hs => ?_
   refine ⟨fun hn => (nd _ rfl ⟨2, by omega, rfl⟩ hn).elim, fun i hi => ?_⟩
   obtain ⟨o, ho, hL, hd⟩ := zfd hi
   rcases four ho with ⟨rfl, rfl⟩ | ⟨rfl, rfl⟩ | ⟨rfl, rfl⟩ | ⟨rfl, rfl⟩
   · cases hL
   · cases hL
   · refine h2 a w _ hs fun a w hs => ?_
     refine ⟨fun hn => (nd _ rfl ⟨3, by omega, rfl⟩ hn).elim, fun i hi => ?_⟩
     obtain ⟨o, ho, hL, hd⟩ := zfd hi
     rcases four ho with ⟨rfl, rfl⟩ | ⟨rfl, rfl⟩ | ⟨rfl, rfl⟩ | ⟨rfl, rfl⟩
     · cases hL
     · cases hL
     · cases hL
     · refine h3 a w _ hs fun a w hs => ?_
       refine ⟨?_, hQ a w hs⟩
       refine List.eq_nil_iff_forall_not_mem.2 fun i hi => ?_
       obtain ⟨o, ho, hL, hd⟩ := zfd hi
       rcases four ho with ⟨rfl, rfl⟩ | ⟨rfl, rfl⟩ | ⟨rfl, rfl⟩ | ⟨rfl, rfl⟩ <;> cases hL
   · cases hd 2 d4
 · refine h1' a w _ hs fun a w hs => ?_
   refine ⟨fun hn => (nd _ rfl ⟨1, by omega, rfl⟩ hn).elim, fun i hi => ?_⟩
   obtain ⟨o, ho, hL, hd⟩ := zfd hi
   rcases four ho with ⟨rfl, rfl⟩ | ⟨rfl, rfl⟩ | ⟨rfl, rfl⟩ | ⟨rfl, rfl⟩
   · cases hL
   · refine h2' a w _ hs fun a w hs => ?_
     refine ⟨fun hn => (nd _ rfl ⟨3, by omega, rfl⟩ hn).elim, fun i hi => ?_⟩
     obtain ⟨o, ho, hL, hd⟩ := zfd hi
     rcases four ho with ⟨rfl, rfl⟩ | ⟨rfl, rfl⟩ | ⟨rfl, rfl⟩ | ⟨rfl, rfl⟩
     · cases hL
     · cases hL
     · cases hL
     · refine h3' a w _ hs fun a w hs => ?_
       refine ⟨?_, hQ' a w hs⟩
       refine List.eq_nil_iff_forall_not_mem.2 fun i hi => ?_
       obtain ⟨o, ho, hL, hd⟩ := zfd hi
       rcases four ho with ⟨rfl, rfl⟩ | ⟨rfl, rfl⟩ | ⟨rfl, rfl⟩ | ⟨rfl, rfl⟩ <;> cases hL
   · cases hL
   · cases hd 1 d3
 · cases hd 1 d3
def ybg (nt : Nat) (draw : Bool) (ops : List Oper) : Bool := ops.all (yvr nt) && (!draw || zmm ops 0 ops)
theorem znn {Q1 : AV -> Prop} {v : Nat} {k : St -> zck} {s : St} (hk : zn7 (za2 s.slots) s.kn) (h : Sat P Q1 (yim v k s)) : ∃ s' : St, s'.slots = s.slots /\ s'.objs = s.objs /\ s'.ice = s.ice /\ zn7 (za2 s'.slots) s'.kn /\ Sat P Q1 (k s') := by
 unfold yim at h
 split at h
 · rename_i b hb
   exact ⟨s.know v b, rfl, rfl, rfl, zex hk hb, h⟩
 · cases h
theorem zy4 {S : zn6} {Q1 : AV -> Prop} (hT : zcb P T) (hS : zdu P S) (hm : P.follows .mixedOrders = true) {draw : Bool} (hB : ybg nt draw ops = true) {id : Nat} {s : St} {a : Act} {w : World} (hs : zmx base M W nt s a w)
   {k : St -> zck} (h : Sat P Q1 (zdt T std S draw ops ops 0 s [] k)) {Q : Exit -> Act -> World -> Prop} (hQ : ∀ s' a' w', zmx base M W nt s' a' w' -> Sat P Q1 (k s') -> Q .normal a' w') :
   (Code.region id ops.toArray draw).wp P Q a w := by
 unfold ybg at hB
 rw [Bool.and_eq_true, List.all_eq_true] at hB
 have hops : ∀ o ∈ ops, ylb nt o := fun o ho => yc7 (hB.1 o ho)
 obtain ⟨es, s', hW, hk', h'⟩ := zfq hS ops 0 s [] hs.2 h
 cases draw with
 | false =>
   refine wp_region ?_
   have := zzy (base := base) (M := M) (W := W) hT hops (Q := Q) ops 0 _ _ _ _ es _ _ _ a w (fun k => by simp) hW hs.1 fun a' w' hs' => hQ s' a' w' ⟨hs', hk'⟩ h'
   rw [List.range_eq_range']
   simpa using this
 | true =>
   refine wp_region_any hm ?_
   have hD := zrw (by simpa using hB.2 : zmm ops 0 ops = true)
   obtain ⟨hA, e1, e2, e3⟩ := zzt (ops := ops) (E := fun j => es.getD j nothing) (f0 := za2 s.slots) (g0 := za2 s.objs) (c0 := zc7 s.ice) ops 0 _ _ _ _ es _ _ _ (fun k => by simp) (fun k e he => by simp [he]) rfl rfl rfl (fun k hk => by omega) hW
   rw [Nat.zero_add] at e1 e2 e3
   have hl : left (Array.replicate ops.length false) <= ops.toArray.size := by
     unfold left; simp
   have hsz : ops.toArray.size = ops.length := by simp
   rw [hsz] at hl |-
   refine yl6 (E := fun j => es.getD j nothing) hT hops hD (fun j o ho => hA j o (by omega) ho) (fun a' w' hs' => hQ s' a' w' ⟨by rw [e1, e2, e3]; exact hs', hk'⟩ h') ops.length _ a _ hl ⟨by simp, ?_, ?_⟩
   · intro k o e hk hL _ _
     have hk : k < ops.length := (List.getElem?_eq_some_iff.1 hk).1
     simp [hk] at hL
   · have z : ∀ j, j < ops.length -> (fun i => (Array.replicate ops.length false).getD i false) j = false := fun j hj => by simp [hj]
     have h1 : fL ops (fun j => es.getD j nothing) (za2 s.slots) (fun i => (Array.replicate ops.length false).getD i false) ops.length = za2 s.slots := by
       funext t
       exact zj1 0 ops.length (fun j _ hj hL => by have := z j hj; simp only at this; rw [this] at hL; cases hL) (by omega)
     have h2 : gL (fun j => es.getD j nothing) (za2 s.objs) (fun i => (Array.replicate ops.length false).getD i false) ops.length = za2 s.objs := by
       funext t
       exact zj1 0 ops.length (fun j _ hj hL => by have := z j hj; simp only at this; rw [this] at hL; cases hL) (by omega)
     have h3 : cL (fun j => es.getD j nothing) (zc7 s.ice) (fun i => (Array.replicate ops.length false).getD i false) ops.length = zc7 s.ice := by
       funext t
       exact zmv 0 ops.length (fun j _ hj => z j hj) (by omega)
     rw [h1, h2, h3]
     obtain ⟨D, μ, hs⟩ := hs.1
     exact ⟨D, μ, hs.drew⟩
theorem ybf {S : zn6} {Q1 : AV -> Prop} (hT : zcb P T) (hS : zdu P S) (hm : P.follows .mixedOrders = true) {draw : Bool} (hB : ybg nt draw ops = true) {id : Nat} {s : St} {a : Act} {w : World} (hs : zmx base M W nt s a w)
   {k : St -> zck} (h : Sat P Q1 (zsw T std S draw ops s k)) {Q : Exit -> Act -> World -> Prop} (hQ : ∀ s' a' w', zmx base M W nt s' a' w' -> Sat P Q1 (k s') -> Q .normal a' w') :
   (Code.region id ops.toArray draw).wp P Q a w := by
 unfold zsw at h
 split at h
 rotate_left
 · exact zy4 hT hS hm hB hs h hQ
 rename_i v hch
 cases draw with
 | false => cases hch
 | true =>
   simp only [cond_true] at hch
   unfold yel at hch
   split at hch
   rotate_left
   · cases hch
   rename_i o0 o1 o2 o3
   split at hch
   rotate_left
   · cases hch
   split at hch
   rotate_left
   · cases hch
   rename_i d1 d2 d3 d4 hng
   unfold ybg at hB
   rw [Bool.and_eq_true, List.all_eq_true] at hB
   have hops : ∀ o ∈ [o0, o1, o2, o3], ylb nt o := fun o ho => yc7 (hB.1 o ho)
   have hD := zrw (by simpa using hB.2 : zmm [o0, o1, o2, o3] 0 [o0, o1, o2, o3] = true)
   obtain ⟨n0, n1, n2, n3⟩ : o0.guard = none /\ o1.guard = none /\ o2.guard = none /\ o3.guard = none := by
     simp only [zt9] at hng
     cases e0 : o0.guard <;> cases e1 : o1.guard <;> cases e2 : o2.guard <;> cases e3 : o3.guard <;> simp_all
   obtain ⟨es, s1, hW, hk1, h⟩ := zfq hS [o0] 0 s [] hs.2 h
   cases h with
   | and hA hB2 =>
     obtain ⟨esA, sA, hWA, hkA, hA⟩ := zfq hS [o1, o2, o3] 1 s1 [] hk1 hA
     obtain ⟨esB, sB, hWB, hkB, hB2⟩ := zfq hS [o2, o1, o3] 1 s1 [] hk1 hB2
     obtain ⟨sA', q1, q2, q3, hkA', hA⟩ := znn hkA hA
     obtain ⟨sB', p1, p2, p3, hkB', hB2⟩ := znn hkB hB2
     match es, hW with
     | [e0], ⟨x0, _, w0, w0', w0''⟩ =>
       match esA, hWA with
       | [a1, a2, a3], ⟨xa1, _, xa2, _, xa3, _, wa, wa', wa''⟩ =>
         match esB, hWB with
         | [b1, b2, b3], ⟨xb1, _, xb2, _, xb3, _, wb, wb', wb''⟩ =>
           refine wp_region_any hm ?_
           obtain ⟨D, μ, hs0⟩ := hs.1
           rw [w0, w0', w0''] at xa1 xa2 xa3 xb1 xb2 xb3
           rw [w0] at wa wb
           rw [w0'] at wa' wb'
           rw [w0''] at wa'' wb''
           refine yek hT hops hD d1 d2 d3 d4
             (h0 := fun a w K hs hK => zow hT hs hops rfl x0 hK)
             (h1 := fun a w K hs hK => zow hT hs hops rfl xa1 hK)
             (h2 := fun a w K hs hK => zow hT hs hops rfl xa2 hK)
             (h3 := fun a w K hs hK => zow hT hs hops rfl xa3 hK)
             (h1' := fun a w K hs hK => zow hT hs hops rfl xb1 hK)
             (h2' := fun a w K hs hK => zow hT hs hops rfl xb2 hK)
             (h3' := fun a w K hs hK => zow hT hs hops rfl xb3 hK)
             (hQ := fun a w hs => hQ sA' a w ⟨?_, hkA'⟩ hA) (hQ' := fun a w hs => hQ sB' a w ⟨?_, hkB'⟩ hB2) ⟨D, μ, hs0.drew⟩
           · rw [q1, q2, q3, wa, wa', wa'']; exact hs
           · rw [p1, p2, p3, wb, wb', wb'']; exact hs
end
end Sy
end Go.Proofs.YtlphgephdhadhaaGreat
namespace Go.Proofs.YtlphgephdhadhaaGreat
namespace Sy
open Go Go.RowKit
set_option linter.unusedSimpArgs false
set_option linter.unusedVariables false
set_option linter.unusedSectionVars false
section
variable {P : Program} {Q : AV -> Prop} {base : Nat} {M : Two} {W : World} {nt : Nat} {s tm : St} {a : Act} {w : World} {hold : List Nat} {next : zck}
def frz (ice : List Nat) (objs : List (Nat × Ob)) (F : List (Nat × Option Nat)) : List Nat := match objs with
 | [] => []
 | (t, _) :: r => match za2 F t with
   | some (some id) => if zc7 ice t = true then id :: frz ice r F else frz ice r F
   | _ => frz ice r F
theorem zmh {ice : List Nat} {F : List (Nat × Option Nat)} : ∀ {objs : List (Nat × Ob)} {id : Nat}, id ∈ frz ice objs F -> ∃ t, za2 F t = some (some id) /\ zc7 ice t = true /\ za2 objs t ≠ none
 | [], id, h => by cases h
 | (t, o) :: r, id, h => by
   unfold frz at h
   have up : ∀ {t'}, za2 r t' ≠ none -> za2 ((t, o) :: r) t' ≠ none := by
     intro t' h
     unfold za2
     split
     · simp
     · exact h
   split at h
   · rename_i k hk
     split at h
     · rename_i e
       rcases List.mem_cons.1 h with rfl | h
       · exact ⟨t, hk, e, by simp [za2, za6]⟩
       · obtain ⟨t', h1, h2, h3⟩ := zmh h; exact ⟨t', h1, h2, up h3⟩
     · obtain ⟨t', h1, h2, h3⟩ := zmh h; exact ⟨t', h1, h2, up h3⟩
   · obtain ⟨t', h1, h2, h3⟩ := zmh h; exact ⟨t', h1, h2, up h3⟩
theorem ycn {ice : List Nat} {F : List (Nat × Option Nat)} : ∀ {objs : List (Nat × Ob)} {id t : Nat}, za2 F t = some (some id) -> zc7 ice t = true -> za2 objs t ≠ none -> id ∈ frz ice objs F
 | [], id, t, _, _, h => by simp [za2] at h
 | (k, o) :: r, id, t, h1, h2, h3 => by
   unfold frz
   unfold za2 at h3
   cases e : zav k t with
   | true =>
     have := za4 e; subst this
     rw [h1]
     simp only
     rw [if_pos h2]
     simp
   | false =>
     rw [e] at h3
     have ih := ycn (objs := r) h1 h2 h3
     split
     · split
       · exact List.mem_cons_of_mem _ ih
       · exact ih
     · exact ih
theorem zls : ∀ {F : List (Nat × Option Nat)}, zt1 F = true -> ∀ t x, za2 F t = some x -> zfy t = true -> x = some t
 | [], _, t, x, h, _ => by cases h
 | (k, y) :: r, e, t, x, h, hp => by
   unfold zt1 at e
   unfold za2 at h
   split at h
   · rename_i hb
     have hk := za4 hb; subst hk
     cases h
     rw [hp] at e
     simp only at e
     split at e
     · rename_i hi; exact ydh hi
     · cases e
   · have e' : zt1 r = true := by
       split at e
       · split at e
         · exact e
         · cases e
       · exact e
     exact zls e' t x h hp
theorem yrq {pin : Nat -> Option (Nat × Nat × Nat)} {μ : Mu} {F : List (Nat × Option Nat)} (h : ∀ id y, zfy id = true -> μ id = some y -> y = pin id) (hF : zt1 F = true) {id : Nat} {y : Option (Nat × Nat × Nat)} (hp : zfy id = true) (hy : zfl μ F id = some y) : y = pin id := by
 unfold zfl at hy
 split at hy
 · rename_i k hk
   have := zls hF id _ hk hp
   cases this
   exact h id y hp hy
 · rename_i hk
   have := zls hF id _ hk hp
   cases this
 · cases hy
theorem ycp (hs : zmx base M W nt s a w) (h : Sat P Q (zyh s tm hold next)) (hkn : tm.kn = []) : zmx base M W nt tm a w /\ Sat P Q next := by
 unfold zyh at h
 split at h
 · rename_i m1 e1
   split at h
   · rename_i m2 e2
     split at h
     · rename_i hin hice hpin
       obtain ⟨hps, hnext⟩ := zin h
       refine ⟨?_, hnext⟩
       obtain ⟨⟨D, μ, S⟩, _⟩ := hs
       let F := m2.ids
       obtain ⟨x2, -⟩ := ze1 (h := w.heap) (D := D) (μ := μ) e2
       obtain ⟨x1, -⟩ := zff (h := w.heap) (D := D) (μ := μ) (a := a) e1
       have hF2 : Fin m2 F := ⟨fun _ _ h => h, hps⟩
       have hF1 : Fin m1 F := hF2.of x2
       have hInj : Inj F := x2.inj (x1.inj fun t t' id h1 h2 => by
         have q1 := zqg h1; have q2 := zqg h2
         simp only [Option.some.injEq] at q1 q2
         rw [<- q1, <- q2])
       have hal : ∀ id, id ∈ frz tm.ice tm.objs F -> ∃ o, za2 s.objs id = some o /\ o ≠ .gone := by
         intro id hid
         obtain ⟨t, h1, h2, h3⟩ := zmh hid
         obtain ⟨o, ho⟩ := Option.ne_none_iff_exists'.1 h3
         obtain ⟨x2', r2⟩ := ze1 (h := w.heap) (D := D) (μ := μ) e2
         obtain ⟨x, hx, hp⟩ := (r2 F hF2 t o ho).pair
         rw [h1] at hx
         cases hx
         obtain ⟨_, o', ho', hne, _⟩ := hp
         exact ⟨o', ho', hne⟩
       have S' := S.freeze (frz tm.ice tm.objs F) hal
       obtain ⟨_, r1⟩ := zff (h := w.heap) (D := fun b => D b \/ ∃ id z m, id ∈ frz tm.ice tm.objs F /\ μ id = some (some (b, z, m))) (μ := μ) (a := a) e1
       obtain ⟨_, r2⟩ := ze1 (h := w.heap) (D := fun b => D b \/ ∃ id z m, id ∈ frz tm.ice tm.objs F /\ μ id = some (some (b, z, m))) (μ := μ) e2
       generalize hDD : (fun b => D b \/ ∃ id z m, id ∈ frz tm.ice tm.objs F /\ μ id = some (some (b, z, m))) = D' at S' r1 r2
       have r1 := r1 F hF1 S'.slots
       have r2 := r2 F hF2
       have pl : ∀ tid b z, zfl μ F tid = some (some (b, z)) -> ∃ id, za2 F tid = some (some id) /\ μ id = some (some (b, z)) := by
         intro tid b z hm
         unfold zfl at hm
         split at hm
         · rename_i id hid; exact ⟨id, hid, hm⟩
         · cases hm
         · cases hm
       have obj : ∀ tid id, za2 F tid = some (some id) -> ∃ o', za2 s.objs id = some o' /\ o' ≠ .gone /\ (zc7 s.ice id = true -> zc7 tm.ice tid = true) := by
         intro tid id hid
         obtain ⟨o, ho⟩ := Option.ne_none_iff_exists'.1 (zj3 hin tid _ hid)
         obtain ⟨x, hx, hp⟩ := (r2 tid o ho).pair
         rw [show za2 F tid = za2 m2.ids tid from rfl, hx] at hid
         cases hid
         obtain ⟨h1, o', ho', hne, _⟩ := hp
         exact ⟨o', ho', hne, h1⟩
       refine ⟨⟨D', zfl μ F, { S' with slots := r1, dom := fun id => ?_, obs := fun id o x h1 h2 => ?_, inj := ?_, own := fun id b z hm => ?_, kd := ?_, icy := fun id hc => zri hice id hc, pin := fun id y hp hy => yrq S.pin hpin hp hy }⟩, fun t b ht => by rw [hkn] at ht; cases ht⟩
       · constructor
         · intro hm
           refine Decidable.byContradiction fun ho => ?_
           obtain ⟨o, ho⟩ := Option.ne_none_iff_exists'.1 ho
           obtain ⟨x, hx, hp⟩ := (r2 id o ho).pair
           unfold zfl at hm
           rw [hx] at hm
           cases x with
           | none => cases hm
           | some k =>
             simp only at hm hp
             obtain ⟨_, o', ho', _, _⟩ := hp
             have := (S.dom k).1 hm
             rw [ho'] at this; cases this
         · intro ho
           unfold zfl
           cases hf : za2 F id with
           | none => rfl
           | some x => exact absurd ho (zj3 hin id x hf)
       · obtain ⟨y, hy, hp⟩ := (r2 id o h1).pair
         unfold zfl at h2
         rw [hy] at h2
         cases y with
         | none => cases h2; exact hp
         | some k =>
           simp only at h2 hp
           obtain ⟨_, o', ho', _, hr⟩ := hp
           exact hr x (S'.obs k o' x ho' h2)
       · intro id id' b z z' o o' h1 h2 _ _ _ _
         obtain ⟨k, hk, hm⟩ := pl id b z h1
         obtain ⟨k', hk', hm'⟩ := pl id' b z' h2
         obtain ⟨q, hq, hqn, _⟩ := obj id k hk
         obtain ⟨q', hq', hqn', _⟩ := obj id' k' hk'
         have := S.inj k k' b z z' q q' hm hm' hq hq' hqn hqn'
         subst this
         exact hInj _ _ _ hk hk'
       · obtain ⟨k, hk, hm⟩ := pl id b z hm
         exact S.own k b z hm
       · intro id b z o h1 h2 h3
         obtain ⟨k, hk, hm⟩ := pl id b z h1
         obtain ⟨q, hq, hqn, hic⟩ := obj id k hk
         have K := S'.kd k b z q hm hq hqn
         refine ⟨fun hc => K.1 ?_, fun hc => K.2 ?_⟩
         · unfold zl7
           rw [zcp.2 (ycn hk hc (by rw [h2]; simp))]; rfl
         · unfold zl7
           rw [Bool.or_eq_false_iff]
           refine ⟨?_, ?_⟩
           · cases hl : zc7 (frz tm.ice tm.objs F) k with
             | false => rfl
             | true =>
               obtain ⟨t, t1, t2, _⟩ := zmh (zcp.1 hl)
               have := hInj _ _ _ t1 hk
               subst this
               rw [hc] at t2; cases t2
           · cases hl : zc7 s.ice k with
             | false => rfl
             | true => have := hic hl; rw [hc] at this; cases this
     · cases h
   · cases h
 · cases h
theorem zm0 (hs : zmx base M W nt s a w) (h : Sat P Q (zyh s tm hold next)) : ∀ n o, za2 tm.objs n = some o -> o ≠ .gone := by
 unfold zyh at h
 split at h
 · rename_i m1 e1
   split at h
   · rename_i m2 e2
     split at h
     · obtain ⟨hps, hnext⟩ := zin h
       intro n o ho
       obtain ⟨x2, r2⟩ := ze1 (h := #[]) (D := fun _ => False) (μ := zaz) e2
       exact (r2 m2.ids ⟨fun _ _ h => h, hps⟩ n o ho).live
     · cases h
   · cases h
 · cases h
end
end Sy
end Go.Proofs.YtlphgephdhadhaaGreat
namespace Go.Proofs.YtlphgephdhadhaaGreat
namespace Sy
open Go Go.RowKit
set_option linter.unusedSimpArgs false
set_option linter.unusedVariables false
set_option linter.unusedSectionVars false
def yqs : Ex -> Exit
 | .normal => .normal
 | .exit id => .exit id
 | .goto l => .goto l
 | .ret => .ret
def zhc : Code -> List Code
 | .seq a b => zhc a ++ zhc b
 | .skip => []
 | .label _ => []
 | c => [c]
def WPl (P : Program) : List Code -> (Exit -> Act -> World -> Prop) -> Act -> World -> Prop
 | [], Q, a, w => Q .normal a w
 | c :: cs, Q, a, w => c.wp P (Exit.then (WPl P cs Q) Q) a w
theorem zg7 {P : Program} {Q : Exit -> Act -> World -> Prop} : Exit.then (WPl P [] Q) Q = Q := by
 funext e a w; cases e <;> rfl
theorem zzn {P : Program} {ys : List Code} {Q : Exit -> Act -> World -> Prop} : ∀ {xs : List Code}, WPl P (xs ++ ys) Q = WPl P xs (Exit.then (WPl P ys Q) Q)
 | [] => rfl
 | c :: xs => by
   funext a w
   show c.wp P (Exit.then (WPl P (xs ++ ys) Q) Q) a w = c.wp P (Exit.then (WPl P xs (Exit.then (WPl P ys Q) Q)) (Exit.then (WPl P ys Q) Q)) a w
   rw [zzn (xs := xs)]
   congr 1
   funext e a w
   cases e <;> rfl
theorem zzo {P : Program} {c : Code} {Q : Exit -> Act -> World -> Prop} {a : Act} {w : World} (h : WPl P [c] Q a w) : c.wp P Q a w := by
 have : c.wp P (Exit.then (WPl P [] Q) Q) a w := h
 rwa [zg7] at this
theorem zeq {P : Program} : ∀ {c : Code} {Q : Exit -> Act -> World -> Prop} {a : Act} {w : World}, WPl P (zhc c) Q a w -> c.wp P Q a w := by
 intro c
 induction c with
 | seq x y ih1 ih2 =>
   intro Q a w h
   unfold zhc at h
   rw [zzn] at h
   refine wp_seq (wp_mono (ih1 h) fun e a w hq => ?_)
   cases e with
   | normal => exact ih2 hq
   | _ => exact hq
 | skip => intro Q a w h; exact wp_skip h
 | label l => intro Q a w h; exact wp_label h
 | _ => intro Q a w h; exact zzo h
def zkc : List Nat -> Bool
 | [] => true
 | x :: xs => !zc7 xs x && zkc xs
def zc8 (nt : Nat) : Code -> Bool
 | .region _ ops d => ybg nt d ops.toList
 | .seq a b => zc8 nt a && zc8 nt b
 | .cond _ a b => zc8 nt a && zc8 nt b
 | .block _ b => zc8 nt b
 | .loop b => zc8 nt b
 | .scope b => zkc (ze8 b) && zc8 nt b
 | _ => true
theorem zpp : ∀ {c : Code} {l : Nat} {r : Code}, findLabel c l = some r -> l ∈ ze8 c := by
 intro c
 induction c with
 | seq a b ih1 ih2 =>
   intro l r h
   unfold findLabel at h
   simp only [ze8, zax, List.mem_append]
   cases e : findLabel a l with
   | some x => exact .inl (ih1 e)
   | none => rw [e] at h; exact .inr (ih2 h)
 | label l' =>
   intro l r h
   unfold findLabel at h
   split at h
   · rename_i e; simp [ze8, beq_iff_eq.1 e]
   · cases h
 | _ => intro l r h; simp [findLabel] at h
theorem ye3 {nt : Nat} : ∀ {c : Code} {l : Nat} {r : Code}, findLabel c l = some r -> zc8 nt c = true -> zc8 nt r = true := by
 intro c
 induction c with
 | seq a b ih1 ih2 =>
   intro l r h hc
   unfold zc8 at hc
   rw [Bool.and_eq_true] at hc
   unfold findLabel at h
   cases e : findLabel a l with
   | some x =>
     rw [e] at h
     cases h
     unfold zc8
     rw [Bool.and_eq_true]
     exact ⟨ih1 e hc.1, hc.2⟩
   | none => rw [e] at h; exact ih2 h hc.2
 | label l' =>
   intro l r h _
   unfold findLabel at h
   split at h
   · cases h; rfl
   · cases h
 | _ => intro l r h; simp [findLabel] at h
theorem yce {xs ys : List Nat} (h : zkc (xs ++ ys) = true) : zkc xs = true /\ zkc ys = true /\ ∀ l, l ∈ xs -> l ∉ ys := by
 induction xs with
 | nil => exact ⟨rfl, h, fun l hl => by cases hl⟩
 | cons x xs ih =>
   simp only [List.cons_append, zkc, Bool.and_eq_true, Bool.not_eq_true'] at h |-
   obtain ⟨h1, h2⟩ := h
   obtain ⟨i1, i2, i3⟩ := ih h2
   have hx : x ∉ xs ++ ys := fun hm => by rw [zcp.2 hm] at h1; cases h1
   simp only [List.mem_append, not_or] at hx
   refine ⟨⟨?_, i1⟩, i2, fun l hl => ?_⟩
   · cases e : zc7 xs x with
     | false => rfl
     | true => exact absurd (zcp.1 e) hx.1
   · rcases List.mem_cons.1 hl with rfl | hl
     · exact hx.2
     · exact i3 l hl
theorem ye4 : ∀ {c : Code} {l0 l : Nat} {r c' : Code}, zkc (ze8 c) = true -> findLabel c l0 = some r -> findLabel r l = some c' -> ∃ c'', findLabel c l = some c'' /\ zhc c'' = zhc c' := by
 intro c
 induction c with
 | seq a b ih1 ih2 =>
   intro l0 l r c' hn h h'
   simp only [ze8, zax] at hn
   obtain ⟨n1, n2, n3⟩ := yce hn
   have none_of : ∀ {x}, findLabel b l = some x -> findLabel a l = none := by
     intro x hx
     cases e : findLabel a l with
     | none => rfl
     | some y => exact absurd (zpp hx) (n3 l (zpp e))
   unfold findLabel at h
   cases e : findLabel a l0 with
   | some x =>
     rw [e] at h
     cases h
     unfold findLabel at h'
     cases e' : findLabel x l with
     | some y =>
       rw [e'] at h'
       cases h'
       obtain ⟨c'', h1, h2⟩ := ih1 n1 e e'
       exact ⟨.seq c'' b, by simp [findLabel, h1], by simp [zhc, h2]⟩
     | none =>
       rw [e'] at h'
       exact ⟨c', by simp only [findLabel]; rw [none_of h']; exact h', rfl⟩
   | none =>
     rw [e] at h
     obtain ⟨c'', h1, h2⟩ := ih2 n2 h h'
     exact ⟨c'', by simp only [findLabel]; rw [none_of h1]; exact h1, h2⟩
 | label l' =>
   intro l0 l r c' _ h h'
   unfold findLabel at h
   split at h
   · cases h; simp [findLabel] at h'
   · cases h
 | _ => intro l0 l r c' _ h; simp [findLabel] at h
inductive yqf (P : Program) (Q : Exit -> Act -> World -> Prop) (body : Code) : Code -> Act -> World -> Prop
 | mk {c : Code} {a : Act} {w : World} (R : Exit -> Act -> World -> Prop) (h : c.wp P R a w)
     (hn : ∀ e a' w', R e a' w' -> (∀ l rest, e = .goto l -> findLabel body l = some rest -> False) -> Q e a' w')
     (hg : ∀ l rest a' w', R (.goto l) a' w' -> findLabel body l = some rest -> yqf P Q body rest a' w') : yqf P Q body c a w
def Qg (P : Program) (Q : Exit -> Act -> World -> Prop) (body : Code) : Exit -> Act -> World -> Prop
 | .goto l, a, w => match findLabel body l with
   | some rest => yqf P Q body rest a w
   | none => Q (.goto l) a w
 | e, a, w => Q e a w
theorem yds {P : Program} {Q : Exit -> Act -> World -> Prop} {body c : Code} {a : Act} {w : World} (h : c.wp P (Qg P Q body) a w) : yqf P Q body c a w := by
 refine .mk _ h (fun e a' w' hq hno => ?_) (fun l rest a' w' hq hf => ?_)
 · cases e with
   | goto l =>
     simp only [Qg] at hq
     split at hq
     · rename_i rest hf; exact (hno l rest rfl hf).elim
     · exact hq
   | _ => exact hq
 · simp only [Qg] at hq
   rw [hf] at hq
   exact hq
theorem yoc {P : Program} {Q : Exit -> Act -> World -> Prop} {body : Code} {c : Code} {a : Act} {w : World} (g : yqf P Q body c a w) :
   ∀ (b : Frame) (k : List Item) (cs : List Frame), ∃ e a' w', Q e a' w' /\ Arrives P (lone (b.at a (.code c :: .inScope body :: k)) cs w) b k cs e a' w' := by
 induction g with
 | mk R h hn hg ih =>
   intro b k cs
   obtain ⟨e, a₁, w₁, hq, harr⟩ := h b (.inScope body :: k) cs
   cases e with
   | normal => exact ⟨.normal, a₁, w₁, hn _ _ _ hq (fun _ _ h => by cases h), Steps.trans harr (.one step_inScope)⟩
   | exit id => exact ⟨.exit id, a₁, w₁, hn _ _ _ hq (fun _ _ h => by cases h), fun k' hk => harr k' (by simp [exitTo, hk])⟩
   | goto l =>
     cases hf : findLabel body l with
     | some rest =>
       obtain ⟨e₂, a₂, w₂, hq₂, harr₂⟩ := ih l rest a₁ w₁ hq hf b k cs
       exact ⟨e₂, a₂, w₂, hq₂, .of_steps (harr _ (by simp [gotoIn, hf])) harr₂⟩
     | none =>
       refine ⟨.goto l, a₁, w₁, hn _ _ _ hq (fun l' r h hf' => by cases h; rw [hf] at hf'; cases hf'), fun k' hk => harr k' (by simp [gotoIn, hf, hk])⟩
   | ret => exact ⟨_, a₁, w₁, hn _ _ _ hq (fun _ _ h => by cases h), harr⟩
   | panic ch => exact ⟨_, a₁, w₁, hn _ _ _ hq (fun _ _ h => by cases h), harr⟩
   | outgrown => exact ⟨_, a₁, w₁, hn _ _ _ hq (fun _ _ h => by cases h), harr⟩
theorem zoa {P : Program} {Q : Exit -> Act -> World -> Prop} {body : Code} {a : Act} {w : World} (g : yqf P Q body body a w) : (Code.scope body).wp P Q a w := by
 intro b k cs
 obtain ⟨e, a₁, w₁, hq, harr⟩ := yoc g b k cs
 exact ⟨e, a₁, w₁, hq, .of_steps (.one step_scope) harr⟩
section
variable {P : Program} {T : TT} {S : zn6} {lo lb : Nat -> St -> Option Ann} {base : Nat} {M : Two} {W : World} {nt : Nat} {Q1 : AV -> Prop}
def Kon (P : Program) (base : Nat) (M : Two) (W : World) (nt : Nat) (Q1 : AV -> Prop) (k : K) (Q : Exit -> Act -> World -> Prop) : Prop := ∀ e s a w, zmx base M W nt s a w -> Sat P Q1 (k e s) -> Q (yqs e) a w
def yx9 (P : Program) (base : Nat) (M : Two) (W : World) (nt : Nat) (Q1 : AV -> Prop) (sc : Code -> St -> K -> zck) : Prop :=
 ∀ body s k Q a w, zc8 nt (.scope body) = true -> zmx base M W nt s a w -> Sat P Q1 (sc body s k) -> Kon P base M W nt Q1 k Q -> (Code.scope body).wp P Q a w
theorem zfw {an : Ann} {ks : List (Nat × AV)} {ko : List (Nat × Ob)} {ice : List Nat} {m : Option Nat} {s : St} {a : Act} {w : World} (hs : zmx base M W nt s a w) (h : Sat P Q1 (zgj an ks ko ice m s)) :
   ∃ x, an.inv x /\ (∀ m0, m = some m0 -> an.mu x < m0) /\ zmx base M W nt (an.st ks ko ice x) a w := by
 unfold zgj at h
 cases h with
 | ex x h =>
   obtain ⟨h1, h2⟩ := ycp hs h rfl
   cases h2 with
   | must h3 h4 =>
     refine ⟨x, h3, fun m0 hm => ?_, h1⟩
     subst hm
     cases h4 with | must h5 _ => exact h5
theorem yb1 {sc : Code -> St -> K -> zck} {A : Nat -> Bool} {id : Nat} {b : Code} (hb : ∀ body, b ≠ .loop body) {s : St} {k : K} :
   run T std S lo sc A (.block id b) s k = run T std S lo sc noL b s (fun e s' => match e with
   | .exit j => match zav j id with
     | true => k .normal s'
     | false => k (.exit j) s'
   | e => k e s') := by
 cases b <;> first | rfl | exact absurd rfl (hb _)
def ypu (P : Program) (T : TT) (S : zn6) (lo : Nat -> St -> Option Ann) (base : Nat) (M : Two) (W : World) (nt : Nat) (Q1 : AV -> Prop) (sc : Code -> St -> K -> zck) (c : Code) : Prop := zc8 nt c = true ->
   ∀ (A : Nat -> Bool) (s : St) (k : K) (Q : Exit -> Act -> World -> Prop) (ys : List Code) (a : Act) (w : World), zmx base M W nt s a w -> Sat P Q1 (run T std S lo sc A c s k) ->
   Kon P base M W nt Q1 k (Exit.then (WPl P ys Q) Q) ->
   (∀ l c' s' a' w', A l = true -> findLabel c l = some c' -> zmx base M W nt s' a' w' -> Sat P Q1 (k (.goto l) s') -> WPl P (zhc c' ++ ys) Q a' w') -> WPl P (zhc c ++ ys) Q a w
theorem yma (hT : zcb P T) (hS : zdu P S) (hm : P.follows .mixedOrders = true) {sc : Code -> St -> K -> zck} (hsc : yx9 P base M W nt Q1 sc) : ∀ (c : Code),
   ypu P T S lo base M W nt Q1 sc c /\ (∀ body, c = .loop body -> ypu P T S lo base M W nt Q1 sc body) := by
 intro c
 induction c with
 | skip => refine ⟨?_, fun body e => by cases e⟩; intro _ A s k Q ys a w hs h hk _; exact hk .normal s a w hs h
 | region id ops d =>
   refine ⟨?_, fun body e => by cases e⟩
   intro hc A s k Q ys a w hs h hk _
   show (Code.region id ops d).wp P (Exit.then (WPl P ys Q) Q) a w
   have := ybf (id := id) (Q := Exit.then (WPl P ys Q) Q) hT hS hm hc hs h (fun s' a' w' hs' h' => hk .normal s' a' w' hs' h')
   simpa using this
 | seq x y ih1 ih2 =>
   refine ⟨?_, fun body e => by cases e⟩
   intro hc A s k Q ys a w hs h hk hl
   unfold zc8 at hc
   rw [Bool.and_eq_true] at hc
   show WPl P ((zhc x ++ zhc y) ++ ys) Q a w
   rw [List.append_assoc]
   refine ih1.1 hc.1 A s _ Q (zhc y ++ ys) a w hs h (fun e s' a' w' hs' h' => ?_) (fun l c' s' a' w' hA hf hs' h' => ?_)
   · cases e with
     | normal =>
       refine ih2.1 hc.2 _ s' k Q ys a' w' hs' h' hk (fun l c' s2 a2 w2 hA hf hs2 h2 => hl l c' s2 a2 w2 ?_ ?_ hs2 h2)
       · split at hA
         · cases hA
         · exact hA
       · split at hA
         · cases hA
         · rename_i e; simp only [findLabel]; rw [e]; exact hf
     | exit id => exact hk (.exit id) s' a' w' hs' h'
     | goto l => exact hk (.goto l) s' a' w' hs' h'
     | ret => exact hk .ret s' a' w' hs' h'
   · have := hl l (.seq c' y) s' a' w' hA (by simp [findLabel, hf]) hs' h'
     simpa [zhc] using this
 | cond x p q ih1 ih2 =>
   refine ⟨?_, fun body e => by cases e⟩
   intro hc A s k Q ys a w hs h hk _
   unfold zc8 at hc
   rw [Bool.and_eq_true] at hc
   show (Code.cond x p q).wp P (Exit.then (WPl P ys Q) Q) a w
   have yes : ∀ (k1 : K) (s1 : St), zmx base M W nt s1 a w -> Sat P Q1 (run T std S lo sc noL p s1 k1) -> Kon P base M W nt Q1 k1 (Exit.then (WPl P ys Q) Q) -> p.wp P (Exit.then (WPl P ys Q) Q) a w := fun k1 s1 h1 h2 hk1 => zeq (by
     have := ih1.1 hc.1 noL s1 k1 (Exit.then (WPl P ys Q) Q) [] a w h1 h2 (by rw [zg7]; exact hk1) (fun l c' s' a' w' hA => by cases hA)
     simpa using this)
   have no : ∀ (k1 : K) (s1 : St), zmx base M W nt s1 a w -> Sat P Q1 (run T std S lo sc noL q s1 k1) -> Kon P base M W nt Q1 k1 (Exit.then (WPl P ys Q) Q) -> q.wp P (Exit.then (WPl P ys Q) Q) a w := fun k1 s1 h1 h2 hk1 => zeq (by
     have := ih2.1 hc.2 noL s1 k1 (Exit.then (WPl P ys Q) Q) [] a w h1 h2 (by rw [zg7]; exact hk1) (fun l c' s' a' w' hA => by cases hA)
     simpa using this)
   have lit : ∀ b, litOf s.kn x = some b -> a.eval x = .bool b := by
     intro b hb
     cases x with
     | tmp t =>
       obtain ⟨⟨D, μ, S⟩, hkn⟩ := hs
       exact (S.slots t _ (hkn t b hb)).inv_bool
     | const v => cases v <;> simp [litOf] at hb; subst hb; rfl
     | _ => simp [litOf] at hb
   have one : ∀ v : Bool, litOf s.kn x = some v -> ∀ k1 : K, Kon P base M W nt Q1 k1 (Exit.then (WPl P ys Q) Q) -> Sat P Q1 (match v with | true => run T std S lo sc noL p s k1 | false => run T std S lo sc noL q s k1) -> (Code.cond x p q).wp P (Exit.then (WPl P ys Q) Q) a w := by
     intro v e k1 hk1 h2
     cases v with
     | true => exact wp_cond_true (lit true e) (yes k1 s hs h2 hk1)
     | false => exact wp_cond_false (lit false e) (no k1 s hs h2 hk1)
   unfold run at h
   split at h
   · rename_i v e
     replace one := one v e
     clear e
     split at h
     · exact one k hk h
     · rename_i an _
       split at h
       · rename_i ks _
         split at h
         · rename_i ko _
           cases h with
           | and h1 h2 =>
             refine one _ (fun e s' a' w' hs' h' => ?_) h1
             cases e with
             | normal =>
               obtain ⟨y, hy, _, hsy⟩ := zfw hs' (show Sat P Q1 (zgj an ks ko s.ice none s') from h')
               cases h2 with
               | all h2 => cases h2 y with
                 | sup h3 => exact hk .normal _ a' w' hsy (h3 hy)
             | exit j => exact hk (.exit j) s' a' w' hs' h'
             | goto l => exact hk (.goto l) s' a' w' hs' h'
             | ret => exact hk .ret s' a' w' hs' h'
         · cases h
       · cases h
   · split at h
     · rename_i t _ _
       split at h
       · rename_i b hb
         have he : a.eval (.tmp t) = .bool b := by
           obtain ⟨⟨D, μ, S⟩, hkn⟩ := hs
           exact (S.slots t _ hb).inv_bool
         have both : ∀ k1 : K, Kon P base M W nt Q1 k1 (Exit.then (WPl P ys Q) Q) -> Sat P Q1 (.ite b (run T std S lo sc noL p (s.know t true) k1) (run T std S lo sc noL q (s.know t false) k1)) -> (Code.cond (.tmp t) p q).wp P (Exit.then (WPl P ys Q) Q) a w := by
           intro k1 hk1 h
           cases h with
           | ite h1 h2 =>
             refine wp_cond_split he (fun ht => ?_) (fun hf => ?_)
             · subst ht
               exact yes k1 (s.know t true) ⟨hs.1, zex hs.2 hb⟩ (h1 rfl) hk1
             · subst hf
               exact no k1 (s.know t false) ⟨hs.1, zex hs.2 hb⟩ (h2 rfl) hk1
         split at h
         · exact both k hk h
         · rename_i an _
           split at h
           · rename_i ks _
             split at h
             · rename_i ko _
               cases h with
               | and h1 h2 =>
                 refine both _ (fun e s' a' w' hs' h' => ?_) h1
                 cases e with
                 | normal =>
                   obtain ⟨y, hy, _, hsy⟩ := zfw hs' h'
                   cases h2 with
                   | all h2 => cases h2 y with
                     | sup h3 => exact hk .normal _ a' w' hsy (h3 hy)
                 | exit j => exact hk (.exit j) s' a' w' hs' h'
                 | goto l => exact hk (.goto l) s' a' w' hs' h'
                 | ret => exact hk .ret s' a' w' hs' h'
             · cases h
           · cases h
       · cases h
     · cases h
 | block id b ih =>
   refine ⟨?_, fun body e => by cases e⟩
   intro hc A s k Q ys a w hs h hk _
   show (Code.block id b).wp P (Exit.then (WPl P ys Q) Q) a w
   generalize Exit.then (WPl P ys Q) Q = Q' at hk
   by_cases hb : ∃ body, b = .loop body
   · obtain ⟨body, rfl⟩ := hb
     have hbody := ih.2 body rfl hc
     unfold run at h
     split at h
     · rename_i an hlo
       split at h
       · rename_i ks hks
         split at h
         · rename_i ko hko
           cases h with
           | and h1 h2 =>
             obtain ⟨x0, i0, _, s0⟩ := zfw hs h1
             cases h2 with
             | all h2 =>
               refine wp_block (wp_loop_ghost (fun n a w => ∃ x, an.inv x /\ an.mu x = n /\ zmx base M W nt (an.st ks ko s.ice x) a w) (an.mu x0) ⟨x0, i0, rfl, s0⟩ ?_)
               rintro n a1 w1 ⟨x, hx, rfl, hsx⟩
               refine zeq ?_
               cases h2 x with
               | sup h3 =>
                 have := hbody noL _ _ (Exit.then (fun a' w' => ∃ n', n' < an.mu x /\ ∃ x, an.inv x /\ an.mu x = n' /\ zmx base M W nt (an.st ks ko s.ice x) a' w') (Exit.inBlock id Q')) [] a1 w1 hsx (h3 hx) (fun e s' a' w' hs' h' => ?_) (fun l c' s' a' w' hA => by cases hA)
                 · simpa using this
                 · rw [zg7]
                   cases e with
                   | exit j =>
                     simp only at h'
                     show (if j = id then Q' .normal a' w' else Q' (.exit j) a' w')
                     cases e : zav j id with
                     | true => rw [e] at h'; rw [if_pos (za4 e)]; exact hk .normal s' a' w' hs' h'
                     | false =>
                       rw [e] at h'
                       rw [if_neg (by rintro rfl; rw [za6] at e; cases e)]
                       exact hk (.exit j) s' a' w' hs' h'
                   | normal =>
                     obtain ⟨x', i', m', s2⟩ := zfw hs' h'
                     exact ⟨an.mu x', m' _ rfl, x', i', rfl, s2⟩
                   | goto l => exact hk (.goto l) s' a' w' hs' h'
                   | ret => exact hk .ret s' a' w' hs' h'
         · cases h
       · cases h
     · cases h
   · rw [yb1 (fun body e => hb ⟨body, e⟩)] at h
     refine wp_block (zeq ?_)
     have := ih.1 hc noL s _ (Exit.inBlock id Q') [] a w hs h (fun e s' a' w' hs' h' => ?_) (fun l c' s' a' w' hA => by cases hA)
     · simpa using this
     · rw [zg7]
       cases e with
       | exit j =>
         simp only at h'
         show (if j = id then Q' .normal a' w' else Q' (.exit j) a' w')
         cases e : zav j id with
         | true => rw [e] at h'; rw [if_pos (za4 e)]; exact hk .normal s' a' w' hs' h'
         | false =>
           rw [e] at h'
           rw [if_neg (by rintro rfl; rw [za6] at e; cases e)]
           exact hk (.exit j) s' a' w' hs' h'
       | normal => exact hk .normal s' a' w' hs' h'
       | goto l => exact hk (.goto l) s' a' w' hs' h'
       | ret => exact hk .ret s' a' w' hs' h'
 | exit id => refine ⟨?_, fun body e => by cases e⟩; intro _ A s k Q ys a w hs h hk _; exact wp_exit (hk (.exit id) s a w hs h)
 | goto l => refine ⟨?_, fun body e => by cases e⟩; intro _ A s k Q ys a w hs h hk _; exact wp_goto (hk (.goto l) s a w hs h)
 | ret => refine ⟨?_, fun body e => by cases e⟩; intro _ A s k Q ys a w hs h hk _; exact wp_ret (hk .ret s a w hs h)
 | label l =>
   refine ⟨?_, fun body e => by cases e⟩
   intro _ A s k Q ys a w hs h hk hl
   unfold run at h
   split at h
   · rename_i hA
     exact hl l .skip s a w hA (by simp [findLabel]) hs h
   · exact hk .normal s a w hs h
 | scope b ih =>
   refine ⟨?_, fun body e => by cases e⟩
   intro hc A s k Q ys a w hs h hk _
   exact hsc b s k _ a w hc hs h hk
 | loop b ih => exact ⟨fun _ A s k Q ys a w hs h hk _ => (by cases h), fun body e => by cases e; exact ih.1⟩
 | _ => refine ⟨?_, fun body e => by cases e⟩; intro _ A s k Q ys a w hs h hk _; cases h
theorem yka (hT : zcb P T) (hS : zdu P S) (hm : P.follows .mixedOrders = true) {sc : Code -> St -> K -> zck} (hsc : yx9 P base M W nt Q1 sc) (c : Code) : ypu P T S lo base M W nt Q1 sc c := (yma hT hS hm hsc c).1
def yxc (P : Program) (base : Nat) (M : Two) (W : World) (nt : Nat) (lb : Nat -> St -> Option Ann) (body : Code) (bs : St) (Q : Exit -> Act -> World -> Prop) (m : Option Nat) : Prop :=
 ∀ l an rest ks ko x a w, lb l bs = some an -> findLabel body l = some rest -> zn2 bs.slots an.keep = some ks -> zpg bs.objs an.hold = some ko -> an.inv x -> (∀ m0, m = some m0 -> an.mu x < m0) ->
   zmx base M W nt (an.st ks ko bs.ice x) a w -> WPl P (zhc rest) (Qg P Q body) a w
def yla (P : Program) (T : TT) (S : zn6) (lo lb : Nat -> St -> Option Ann) (base : Nat) (M : Two) (W : World) (nt : Nat) (Q1 : AV -> Prop) (n : Nat) : Prop :=
 ∀ body rest bs s k m Q a w, zkc (ze8 body) = true -> zc8 nt rest = true -> zc8 nt body = true -> (rest = body \/ ∃ l, findLabel body l = some rest) -> zmx base M W nt s a w -> Sat P Q1 (pass T std S lo lb n body rest s k m bs) ->
   Kon P base M W nt Q1 k Q -> yxc P base M W nt lb body bs Q m -> WPl P (zhc rest) (Qg P Q body) a w
theorem zpq {body : Code} {bs : St} {ps : Code -> St -> Nat -> zck} {t : zck} : ∀ {ls : List Nat}, Sat P Q1 (zg1 lb body bs ps ls t) -> Sat P Q1 t /\
   ∀ l, l ∈ ls -> ∀ an rest ks ko, lb l bs = some an -> findLabel body l = some rest -> zn2 bs.slots an.keep = some ks -> zpg bs.objs an.hold = some ko -> ∀ x, an.inv x -> Sat P Q1 (ps rest (an.st ks ko bs.ice x) (an.mu x))
 | [], h => ⟨h, fun l hl => by cases hl⟩
 | l0 :: ls, h => by
   unfold zg1 at h
   split at h
   · rename_i an hlb
     split at h
     · rename_i rest hf
       split at h
       · rename_i ks hks
         split at h
         · rename_i ko hko
           cases h with
           | and h1 h2 =>
             obtain ⟨i1, i2⟩ := zpq h2
             refine ⟨i1, fun l hl an' rest' ks' ko' q1 q2 q3 q4 x hx => ?_⟩
             rcases List.mem_cons.1 hl with rfl | hl
             · rw [hlb] at q1; cases q1
               rw [hf] at q2; cases q2
               rw [hks] at q3; cases q3
               rw [hko] at q4; cases q4
               cases h1 with
               | all h1 => cases h1 x with | sup h1 => exact h1 hx
             · exact i2 l hl an' rest' ks' ko' q1 q2 q3 q4 x hx
         · cases h
       · cases h
     · rename_i hf
       obtain ⟨i1, i2⟩ := zpq h
       refine ⟨i1, fun l hl an' rest' ks' ko' q1 q2 => ?_⟩
       rcases List.mem_cons.1 hl with rfl | hl
       · rw [hf] at q2; cases q2
       · exact i2 l hl an' rest' ks' ko' q1 q2
   · rename_i hlb
     obtain ⟨i1, i2⟩ := zpq h
     refine ⟨i1, fun l hl an' rest' ks' ko' q1 => ?_⟩
     rcases List.mem_cons.1 hl with rfl | hl
     · rw [hlb] at q1; cases q1
     · exact i2 l hl an' rest' ks' ko' q1
theorem zuv (n : Nat) (hp : yla P T S lo lb base M W nt Q1 n) : yx9 P base M W nt Q1 (znb lb (pass T std S lo lb n)) := by
 intro body s k Q a w hc hs h hk
 unfold zc8 at hc
 rw [Bool.and_eq_true] at hc
 unfold znb at h
 obtain ⟨h1, h2⟩ := zpq h
 have lab : ∀ m, ∀ l an rest ks ko x a w, lb l s = some an -> findLabel body l = some rest -> zn2 s.slots an.keep = some ks -> zpg s.objs an.hold = some ko -> an.inv x -> an.mu x = m ->
     zmx base M W nt (an.st ks ko s.ice x) a w -> WPl P (zhc rest) (Qg P Q body) a w := by
   intro m
   induction m using Nat.strongRecOn with
   | _ m ih =>
     intro l an rest ks ko x a w q1 q2 q3 q4 hx hm hsx
     subst hm
     refine hp body rest s _ k (some (an.mu x)) Q a w hc.1 (ye3 q2 hc.2) hc.2 (.inr ⟨l, q2⟩) hsx (h2 l (zpp q2) an rest ks ko q1 q2 q3 q4 x hx) hk ?_
     intro l' an' rest' ks' ko' x' a' w' p1 p2 p3 p4 hx' hlt hs'
     exact ih (an'.mu x') (hlt _ rfl) l' an' rest' ks' ko' x' a' w' p1 p2 p3 p4 hx' rfl hs'
 have := hp body body s s k none Q a w hc.1 hc.2 hc.2 (.inl rfl) hs h1 hk (fun l an rest ks ko x a w q1 q2 q3 q4 hx _ hsx => lab _ l an rest ks ko x a w q1 q2 q3 q4 hx rfl hsx)
 exact zoa (yds (zeq this))
theorem ybz (hT : zcb P T) (hS : zdu P S) (hm : P.follows .mixedOrders = true) : ∀ n, yla P T S lo lb base M W nt Q1 n
 | 0 => by intro body rest bs s k m Q a w _ _ _ _ _ h; cases h
 | n + 1 => by
   intro body rest bs s k m Q a w hn hr hb hsuf hs h hk hl
   have ih := ybz hT hS hm n
   unfold pass at h
   have go : ∀ l rest' s' a' w', findLabel body l = some rest' -> zmx base M W nt s' a' w' -> Sat P Q1 (jump lb (fun rest' s' => pass T std S lo lb n body rest' s' k m bs) body bs m k (.goto l) s') -> WPl P (zhc rest') (Qg P Q body) a' w' := by
     intro l rest' s' a' w' hf hs' h'
     simp only [jump, hf] at h'
     split at h'
     · rename_i an hlb
       split at h'
       · rename_i ks hks
         split at h'
         · rename_i ko hko
           obtain ⟨x, i1, i2, i3⟩ := zfw hs' h'
           exact hl l an rest' ks ko x a' w' hlb hf hks hko i1 i2 i3
         · cases h'
       · cases h'
     · exact ih body rest' bs s' k m Q a' w' hn (ye3 hf hb) hb (.inr ⟨l, hf⟩) hs' h' hk hl
   have := yka hT hS hm (zuv n ih) rest hr _ s _ (Qg P Q body) [] a w hs h (fun e s' a' w' hs' h' => ?_) (fun l c' s' a' w' hA hf hs' h' => ?_)
   · simpa using this
   · rw [zg7]
     cases e with
     | goto l =>
       show Qg P Q body (.goto l) a' w'
       simp only [Qg]
       cases hf : findLabel body l with
       | some rest' => exact yds (zeq (go l rest' s' a' w' hf hs' h'))
       | none =>
         simp only [jump, hf] at h'
         exact hk (.goto l) s' a' w' hs' h'
     | normal => exact hk .normal s' a' w' hs' h'
     | exit id => exact hk (.exit id) s' a' w' hs' h'
     | ret => exact hk .ret s' a' w' hs' h'
   · rw [List.append_nil]
     rcases hsuf with rfl | ⟨l0, h0⟩
     · exact go l c' s' a' w' hf hs' h'
     · obtain ⟨c'', e1, e2⟩ := ye4 hn h0 hf
       rw [<- e2]
       exact go l c'' s' a' w' e1 hs' h'
theorem ztz (hT : zcb P T) (hS : zdu P S) (hm : P.follows .mixedOrders = true) {n : Nat} {c : Code} (hc : zc8 nt c = true) {s : St} {k : K} {Q : Exit -> Act -> World -> Prop} {a : Act} {w : World} (hs : zmx base M W nt s a w)
   (h : Sat P Q1 (run T std S lo (znb lb (pass T std S lo lb n)) noL c s k)) (hk : Kon P base M W nt Q1 k Q) : c.wp P Q a w := by
 refine zeq ?_
 have := yka hT hS hm (zuv n (ybz hT hS hm n)) c hc noL s k Q [] a w hs h (by rw [zg7]; exact hk) (fun l c' s' a' w' hA => by cases hA)
 simpa using this
end
end Sy
end Go.Proofs.YtlphgephdhadhaaGreat
namespace Go.Proofs.YtlphgephdhadhaaGreat
namespace Sy
open Go Go.RowKit
set_option linter.unusedSimpArgs false
set_option linter.unusedVariables false
set_option linter.unusedSectionVars false
def zs7 : List Prop -> Prop
 | [] => True
 | p :: r => p /\ zs7 r
def zb9 (r v : AV) : Prop := match ziw ⟨[], []⟩ r v with
 | some ⟨ps, []⟩ => zs7 ps
 | _ => False
def ztq : List AV -> List AV -> Prop
 | [], [] => True
 | x :: xs, y :: ys => zb9 x y /\ ztq xs ys
 | _, _ => False
def zed (r v : AV) : Prop := match r, v with
 | .tup rs, .tup vs => ztq rs vs
 | r, v => zb9 r v
theorem zx3 : ∀ {l : List Prop}, zs7 l -> ∀ p, p ∈ l -> p
 | [], _, p, h => by cases h
 | q :: l, ⟨h1, h2⟩, p, h => by
   rcases List.mem_cons.1 h with rfl | h
   · exact h1
   · exact zx3 h2 p h
theorem ync (μ : Mu) : zfl μ [] = zaz := rfl
theorem ye1 {h : Array Obj} {D : Nat -> Prop} {r v : AV} {x : Value} (f : zb9 r v) (hr : R h D zaz v x) : R h D zaz r x := by
 unfold zb9 at f
 split at f
 · rename_i ps e
   have := (zvv (h := h) (D := D) (μ := zaz) e).2 [] x ⟨fun _ _ h => h, zx3 f⟩ hr
   rwa [ync] at this
 · exact f.elim
theorem ydz {h : Array Obj} {D : Nat -> Prop} : ∀ {rs vs : List AV}, ztq rs vs -> rs.length = vs.length /\ ∀ (i : Nat) r v x, rs[i]? = some r -> vs[i]? = some v -> R h D zaz v x -> R h D zaz r x
 | [], [], _ => ⟨rfl, fun i r v x h => by simp at h⟩
 | r :: rs, v :: vs, ⟨f1, f2⟩ => by
   obtain ⟨l1, h1⟩ := ydz (h := h) (D := D) f2
   refine ⟨by simp [l1], fun i r' v' x hr hv hx => ?_⟩
   cases i with
   | zero => simp at hr hv; subst hr; subst hv; exact ye1 f1 hx
   | succ i => exact h1 i r' v' x (by simpa using hr) (by simpa using hv) hx
 | [], _ :: _, f => f.elim
 | _ :: _, [], f => f.elim
theorem ykx {h : Array Obj} {D : Nat -> Prop} {r v : AV} {x : Value} (f : zed r v) (hr : R h D zaz v x) : R h D zaz r x := by
 unfold zed at f
 split at f
 · rename_i rs vs
   obtain ⟨us, rfl, l1, h1⟩ := hr.inv_tup
   obtain ⟨l2, h2⟩ := ydz (h := h) (D := D) f
   refine .tup _ _ (by rw [l2, l1]) fun i r x hr hx => ?_
   obtain ⟨v, hv⟩ : ∃ v, vs[i]? = some v := ⟨_, List.getElem?_eq_getElem (by rw [<- l2]; exact (List.getElem?_eq_some_iff.1 hr).1)⟩
   exact h2 i r v x hr hv (h1 i v x hv hx)
 · exact ye1 f hr
theorem zz2 {α : Type} (x : Sem α) : x.bind .pure = x := by
 induction x <;> simp only [Sem.bind] <;> (try (congr 1; try funext _)) <;> (first | rfl | (rename_i ih; exact ih _) | (rename_i ih; exact ih) | (rename_i ih _; exact ih _))
theorem zud {α β γ : Type} (x : Sem α) (f : α -> Sem β) (g : β -> Sem γ) : (x.bind f).bind g = x.bind fun a => (f a).bind g := by
 induction x <;> simp only [Sem.bind] <;> (try (congr 1; try funext _)) <;> (first | rfl | (rename_i ih; exact ih _) | (rename_i ih; exact ih) | (rename_i ih _; exact ih _))
instance : LawfulMonad Sem := LawfulMonad.mk' Sem (fun x => zz2 x) (fun _ _ => rfl) (fun x f g => zud x f g)
theorem zvx {α : Type} {P : Program} {w : World} {k : α -> Sem Value} : ∀ {zs : List α} {us : Nat -> Value}, (∀ (i : Nat) x, zs[i]? = some x -> (k x).run P w = .ok (us i) w) ->
   (zs.mapM k).run P w = .ok ((List.range zs.length).map us) w
 | [], us, h => by simp
 | z :: zs, us, h => by
   have ih := zvx (zs := zs) (us := fun i => us (i + 1)) (fun i x hx => h (i + 1) x (by simpa using hx))
   rw [List.mapM_cons, Sem.run_bind, h 0 z rfl]
   simp only [Result.andThen_ok, Sem.run_bind, ih, Sem.run_pure]
   rw [List.length_cons, List.range_succ_eq_map]
   simp [Function.comp_def]
section
variable {P : Program} {T : TT} {base : Nat} {M : Two} {W : World} {nt : Nat} {s : St} {a : Act} {w : World} {D : Nat -> Prop} {μ : Mu}
def zy1 (tmps : Array Value) : ResultVar -> Sem Value
 | .tmp t => pure (tmps.getD t undef)
 | .cell a t => do loadVar t (<- asAddr (tmps.getD a undef))
theorem yrh (h : Sim base M W nt (za2 s.slots) (za2 s.objs) (zc7 s.ice) a w D μ) (hT : zcb P T) {x : ResultVar} {v : AV} (e : yuh T s x = some v) : ∃ u, (zy1 a.tmps x).run P w = .ok u w /\ R w.heap D μ v u := by
 have ev : ∀ t, R w.heap D μ (evf (za2 s.slots) [] (.tmp t)) (a.tmps.getD t undef) := fun t => yot h (fun t b ht => by simp [za2] at ht) (.tmp t) (fun v hv => by cases hv)
 cases x with
 | tmp t =>
   simp only [yuh, Option.some.injEq] at e
   subst e
   exact ⟨_, rfl, ev t⟩
 | cell p t =>
   simp only [yuh] at e
   have hl := zw2 h hT (t := t) (ev p) (ob := za2 s.objs) (fun _ _ h => h)
   split at e
   · rename_i v' os ice hc
     rw [hc] at hl
     cases e
     obtain ⟨_, _, y, hy, r⟩ := hl
     refine ⟨y, ?_, r⟩
     simp only [zy1]
     generalize a.tmps.getD p undef = u at *
     unfold Instr.loadAt Instr.sureAddr at hy
     unfold asAddr
     split at hy
     · rename_i q; simpa using hy
     · simp [stuck] at hy
   · cases e
theorem zsv (h : Sim base M W nt (za2 s.slots) (za2 s.objs) (zc7 s.ice) a w D μ) (hT : zcb P T) : ∀ {rs : List ResultVar} {vs : List AV}, ybc T s rs = some vs ->
   vs.length = rs.length /\ ∃ us : Nat -> Value, (∀ (i : Nat) x, rs[i]? = some x -> (zy1 a.tmps x).run P w = .ok (us i) w) /\ ∀ (i : Nat) v, vs[i]? = some v -> R w.heap D μ v (us i)
 | [], vs, e => by cases e; exact ⟨rfl, fun _ => undef, fun i x hx => by simp at hx, fun i x hx => by simp at hx⟩
 | x :: rs, vs, e => by
   unfold ybc at e
   split at e
   · rename_i v hv
     split at e
     · rename_i l hl
       cases e
       obtain ⟨u, hu, r⟩ := yrh h hT hv
       obtain ⟨l1, us, h1, h2⟩ := zsv h hT hl
       refine ⟨by simp [l1], fun i => match i with | 0 => u | i + 1 => us i, fun i x' hx => ?_, fun i v' hv' => ?_⟩
       · cases i with
         | zero => simp at hx; subst hx; exact hu
         | succ i => exact h1 i x' (by simpa using hx)
       · cases i with
         | zero => simp at hv'; subst hv'; exact r
         | succ i => exact h2 i v' (by simpa using hv')
     · cases e
   · cases e
theorem zlm {fn : Func} {tmps : Array Value} {us : Nat -> Value} (h : ∀ (i : Nat) x, fn.results.toList[i]? = some x -> (zy1 tmps x).run P w = .ok (us i) w) :
   (results fn tmps).run P w = .ok (if fn.results.size = 1 then us 0 else .tuple ((List.range fn.results.size).map us).toArray) w := by
 have h1 : (fn.results.mapM (zy1 tmps)).run P w = .ok ((List.range fn.results.size).map us).toArray w := by
   have e : fn.results = fn.results.toList.toArray := by simp
   rw [e, List.mapM_toArray, map_eq_pure_bind, Sem.run_bind, zvx h]
   simp
 have h2 : results fn tmps = (do
     let vs <- fn.results.mapM (zy1 tmps)
     pure (if h : vs.size = 1 then vs[0] else .tuple vs)) := by
   unfold results
   congr 1
 rw [h2, Sem.run_bind, h1]
 simp only [Result.andThen_ok, Sem.run_pure]
 congr 1
 by_cases e : fn.results.size = 1
 · rw [if_pos e, dif_pos (by simp [e])]
   try simp
 · rw [if_neg e, dif_neg (by simp [e])]
end
theorem zmw {α : Type} : ∀ (xs : List α) (i t : Nat), za2 (zit i xs) t = if i <= t then xs[t - i]? else none
 | [], i, t => by simp [zit, za2]
 | x :: xs, i, t => by
   unfold zit za2
   cases e : zav i t with
   | true => have := za4 e; subst this; simp
   | false =>
     have hne : i ≠ t := by rintro rfl; rw [za6] at e; cases e
     simp only
     rw [zmw xs (i + 1) t]
     by_cases h : i <= t
     · rw [if_pos (by omega), if_pos h]
       obtain ⟨k, hk⟩ : ∃ k, t - i = k + 1 := ⟨t - i - 1, by omega⟩
       rw [hk, show t - (i + 1) = k by omega]
       simp
     · rw [if_neg (by omega), if_neg h]
theorem zcn {P : Program} {f : FuncId} {fn : Func} {args : Array Value} {w : World} (hf : P.funcs[f]? = some fn) (hn : (fn.name == "runtime.NumGoroutine") = false) {c : Code} (hb : fn.body = some c) :
   (callFunc f args).run P w = .ok (.enter f args) w := by
 have hn' : ¬ fn.name = "runtime.NumGoroutine" := by simpa using hn
 unfold callFunc
 simp [program, Sem.run, hf, hn', hb]
theorem zsc {P : Program} {T : TT} {S : zn6} {lo lb : Nat -> St -> Option Ann} {n : Nat} {f : FuncId} {fn : Func} {c : Code} {xs : List AV} {r : AV} (hf : P.funcs[f]? = some fn) (hb : fn.body = some c) (hn : (fn.name == "runtime.NumGoroutine") = false)
   (hc : zc8 fn.ntmps c = true) (hx : (zbv xs.length fn.ntmps && zbv fn.ntmps 500000) = true) (hT : zcb P T) (hS : zdu P S) (hm : P.follows .mixedOrders = true) (h : Sat P (zed r) (yuf T std S lo lb n fn xs)) : zaf P f xs r := by
 intro D w vs hD hxs hg
 rw [Bool.and_eq_true] at hx
 have hnb := zbk hx.2
 have hx := zbk hx.1
 unfold zdv
 rw [zcn hf hn hb]
 simp only
 refine calls_of_wp hf hb ?_
 unfold yuf at h
 rw [hb] at h
 refine ztz (base := w.heap.size) (M := ⟨fun _ => False, D, fun _ => none⟩) (W := w) hT hS hm hc ⟨⟨D, zaz, ?_⟩, fun t b ht => by simp [za2] at ht⟩ h (fun e s a w' hs h' => ?_)
 · refine { os := rfl, tape := rfl, output := rfl, size := Nat.le_refl _, bs := Nat.le_refl _, old := fun _ _ _ => rfl, defers := rfl, tmps := ?_, slots := fun t v hv => ?_, dlt := hD, low := fun b hb _ => .inl hb, dom := fun id => by simp [za2], obs := fun id o x ho => (by simp [za2] at ho), inj := fun id id' b z z' o o' h => (by cases h), own := fun id b z h => (by cases h), kd := fun id b z o h => (by cases h), icy := fun id h => by (simp [zc7] at h), ntb := hnb, pin := fun id y _ h => (by cases h), gl := ⟨hg, zq4 hg, fun _ h => h.elim⟩ }
   · rw [hxs.1] at hx
     simp; omega
   · rw [zmw, if_pos (by omega), Nat.sub_zero] at hv
     have hlt : t < vs.size := by rw [<- hxs.1]; exact (List.getElem?_eq_some_iff.1 hv).1
     have h1 : vs[t]? = some vs[t] := by simp [hlt]
     have h2 : (vs ++ Array.replicate (fn.ntmps - vs.size) undef).getD t undef = vs[t] := by
       rw [Array.getD_eq_getD_getElem?, Array.getElem?_append_left hlt, h1]; rfl
     rw [h2]
     exact hxs.2 t v vs[t] hv h1
 · obtain ⟨⟨D1, μ, S1⟩, _⟩ := hs
   have key : Sat P (zed r) (yuq T std fn.results.toList s) -> a.defers = [] /\ ∃ v, (results fn a.tmps).run P w' = .ok v w' /\ ∃ v' D', Ending.returned v = .returned v' /\ Below w.heap.size w w' /\ (∀ b, D b -> D' b) /\ (∀ b, D' b -> D b \/ (w.heap.size <= b /\ b < w'.heap.size)) /\ R w'.heap D' zaz r v' := by
     intro h'
     unfold yuq at h'
     split at h'
     · rename_i vs1 hvs
       obtain ⟨l1, us, h1, h2⟩ := zsv S1 hT hvs
       have hres := zlm (P := P) (w := w') (fn := fn) (tmps := a.tmps) h1
       have hB : Below w.heap.size w w' := ⟨S1.os, S1.tape, S1.output, S1.size, fun b hb => S1.old b hb (fun h => h)⟩
       have hD' : ∀ b, (D b \/ DF D1 μ (zdh vs1) b) -> D b \/ (w.heap.size <= b /\ b < w'.heap.size) := by
         rintro b (hb | hb | ⟨id, z, m, _, hm⟩)
         · exact .inl hb
         · by_cases hlt : b < w.heap.size
           · rcases S1.low b hb hlt with h | h
             · exact .inl h
             · exact h.elim
           · exact .inr ⟨by omega, S1.dlt b hb⟩
         · rcases S1.own id b _ hm with ⟨q1, q2 | q2⟩
           · exact .inr ⟨q2, q1⟩
           · exact q2.elim
       have imm : ∀ vs2, immVs std (za2 s.objs) vs1 = some vs2 -> vs2.length = vs1.length /\ ∀ (i : Nat) v, vs2[i]? = some v -> R w'.heap (fun b => D b \/ DF D1 μ (zdh vs1) b) zaz v (us i) := by
         intro vs2 e2
         obtain ⟨i1, _, i3⟩ := zl4 S1 (ob := za2 s.objs) (fun _ _ h => h) e2 (ids := zdh vs1) (fun _ h => h)
         refine ⟨i1, fun i v hv => ?_⟩
         obtain ⟨v1, hv1⟩ : ∃ v1, vs1[i]? = some v1 := ⟨_, List.getElem?_eq_getElem (by rw [<- i1]; exact (List.getElem?_eq_some_iff.1 hv).1)⟩
         exact (i3 i v1 v (us i) hv1 hv (h2 i v1 hv1)).mono (fun _ _ => rfl) (fun b hb => .inr hb) (fun _ _ h => by cases h)
       refine ⟨S1.defers, _, hres, _, fun b => D b \/ DF D1 μ (zdh vs1) b, rfl, hB, fun b hb => .inl hb, hD', ?_⟩
       split at h'
       · rename_i v1 e2
         cases h' with
         | done h' =>
           obtain ⟨i1, i2⟩ := imm _ e2
           have hsz : fn.results.size = 1 := by rw [<- Array.length_toList, <- l1, <- i1]; rfl
           rw [if_pos hsz]
           exact ykx h' (i2 0 v1 rfl)
       · rename_i vs2 hne e2
         cases h' with
         | done h' =>
           obtain ⟨i1, i2⟩ := imm _ e2
           have hl : vs2.length = fn.results.size := by rw [i1, l1, Array.length_toList]
           have hsz : ¬ fn.results.size = 1 := by
             rw [<- hl]
             intro h1
             obtain ⟨v, hv⟩ := List.length_eq_one_iff.1 h1
             exact hne v hv
           rw [if_neg hsz]
           refine ykx h' (.tup _ _ (by simp [hl]) fun i v x hv hx => ?_)
           have hlt : i < fn.results.size := by rw [<- hl]; exact (List.getElem?_eq_some_iff.1 hv).1
           simp [hlt] at hx
           subst hx
           exact i2 i v hv
       · cases h'
     · cases h'
   cases e with
   | normal => exact key h'
   | ret => exact key h'
   | exit id => cases h'
   | goto l => cases h'
end Sy
end Go.Proofs.YtlphgephdhadhaaGreat
namespace Go.Proofs.YtlphgephdhadhaaGreat
namespace Sy
open Go Go.RowKit
section
variable (a b c : Int) (l m : List UInt8) (n : Nat)
theorem zc6 : (ilt a b = true) = (a < b) := by simp [ilt]
theorem ze4 : (ilt a b = false) = (b <= a) := by simp [ilt]
theorem yo6 : (ile a b = true) = (a <= b) := by simp [ile]
theorem ysr : (ile a b = false) = (b < a) := by simp [ile]
theorem ydo : (ieq a b = true) = (a = b) := by simp [ieq]
theorem yss : (ieq a b = false) = (a ≠ b) := by simp [ieq]
theorem zhx : (ine a b = true) = (a ≠ b) := by simp [ine]
theorem zic : (ine a b = false) = (a = b) := by simp [ine]
theorem ym1 : (seq l m = true) = (l = m) := by simp [seq]
theorem yr2 : (seq l m = false) = (l ≠ m) := by simp [seq]
theorem zfn : (inR a b = true) = (0 <= a /\ a < b) := by simp [inR]
theorem yso : (inS a b c = true) = (0 <= a /\ a <= b /\ b <= c) := by simp [inS, and_assoc]
theorem yo2 : (inC a b = true) = (0 <= a /\ a <= b) := by simp [inC]
theorem ykp (eb : Nat) : (ys6 eb a b = true) = (0 <= a /\ a <= b /\ (eb : Int) * b <= 140737488355328 /\ b <= 9223372036854775807) := by simp [ys6, and_assoc]
theorem zhk (eb p q : Nat) : (zcq eb p q = true) = ((p + q) * eb <= 140737488355328 /\ p + q <= 9223372036854775807) := by simp [zcq]
theorem zpv : (yp8 l m = true) = (l.length + m.length <= 9223372036854775807) := by simp [yp8]
theorem zbp (x y : Bool) : zed (.bool x) (.bool y) = (y = x) := by simp [zed, zb9, ziw, zf9, zds.add, zs7]
theorem zgo (k : IntKind) : zed (.int k a) (.int k b) = (b = a) := by simp [zed, zb9, ziw, zf9, zds.add, zs7]
theorem zhr : zed (.str l) (.str m) = (m = l) := by simp [zed, zb9, ziw, zf9, zds.add, zs7]
theorem zen (x y : Bool) : zb9 (.bool x) (.bool y) = (y = x) := by simp [zb9, ziw, zf9, zds.add, zs7]
theorem zg0 (k : IntKind) : zb9 (.int k a) (.int k b) = (b = a) := by simp [zb9, ziw, zf9, zds.add, zs7]
theorem ye0 : zb9 (.str l) (.str m) = (m = l) := by simp [zb9, ziw, zf9, zds.add, zs7]
theorem zea (x y : List AV) : zed (.tup x) (.tup y) = ztq x y := rfl
theorem zay (x y : AV) (r q : List AV) : ztq (x :: r) (y :: q) = (zb9 x y /\ ztq r q) := rfl
theorem zcz : ztq [] [] = True := rfl
theorem zdl : slen l = l.length := rfl
theorem ym3 : yft l m = l ++ m := rfl
theorem ylt : yq0 l a b = (l.take b.toNat).drop a.toNat := rfl
theorem ylz : zoh l a = (l.getD a.toNat 0).toNat := rfl
theorem ynj : lenN l = l.length := rfl
theorem yj7 (p q r : Nat) : ysy p q r = (p + q <= r) := rfl
theorem yvx (p : Nat) : Nat.add 0 p = p := Nat.zero_add p
theorem yqi (k : IntKind) : yu5 k a b = k.wrap (a.tdiv b) := rfl
theorem yo4 : ysp a b = min a b := rfl
theorem yo5 : yun a b = max a b := rfl
theorem za5 : za8 n = n := rfl
end
theorem zct (n : Int) : IntKind.i64.wrap n = (n + 9223372036854775808) % 18446744073709551616 - 9223372036854775808 := by simp [IntKind.wrap, IntKind.bits, IntKind.signed]; omega
theorem yuy (n : Int) : IntKind.i32.wrap n = (n + 2147483648) % 4294967296 - 2147483648 := by simp [IntKind.wrap, IntKind.bits, IntKind.signed]; omega
theorem zsj (n : Int) : IntKind.u64.wrap n = n % 18446744073709551616 := by simp [IntKind.wrap, IntKind.bits, IntKind.signed]
theorem yqo (n : Int) : IntKind.u32.wrap n = n % 4294967296 := by simp [IntKind.wrap, IntKind.bits, IntKind.signed]
theorem yuw (n : Int) : IntKind.u16.wrap n = n % 65536 := by simp [IntKind.wrap, IntKind.bits, IntKind.signed]
theorem w_u8 (n : Int) : IntKind.u8.wrap n = n % 256 := by simp [IntKind.wrap, IntKind.bits, IntKind.signed]
theorem zqq (ps q : List Prop) (ids : List (Nat × Option Nat)) (x y : Nat) : zh3 ⟨ps ++ q, ids⟩ x y = (zh3 ⟨ps, ids⟩ x y).map fun m => ⟨m.ps ++ q, m.ids⟩ := by
 unfold zh3
 dsimp only
 repeat' split
 all_goals rfl
theorem znf (ps q : List Prop) (ids : List (Nat × Option Nat)) (x : Nat) : zi5 ⟨ps ++ q, ids⟩ x = (zi5 ⟨ps, ids⟩ x).map fun m => ⟨m.ps ++ q, m.ids⟩ := by
 unfold zi5
 dsimp only
 split <;> rfl
theorem yhw (ps q : List Prop) (ids : List (Nat × Option Nat)) (x y : AV) : zf9 ⟨ps ++ q, ids⟩ x y = (zf9 ⟨ps, ids⟩ x y).map fun m => ⟨m.ps ++ q, m.ids⟩ := by
 cases x <;> cases y <;> first
   | rfl
   | (simp only [zf9, zds.add, zqq, znf]; done)
   | (simp only [zf9, zds.add, zqq, znf]
      (repeat' split) <;> (try simp_all) <;> (try (rename_i hh _; subst hh; simp)) <;> (try (rename_i hh _ _; subst hh; simp)))
theorem zvt : ∀ (xs ys : List AV) (ps q : List Prop) (ids : List (Nat × Option Nat)), ziv ⟨ps ++ q, ids⟩ xs ys = (ziv ⟨ps, ids⟩ xs ys).map fun m => ⟨m.ps ++ q, m.ids⟩
 | [], [], ps, q, ids => rfl
 | [], _ :: _, ps, q, ids => rfl
 | _ :: _, [], ps, q, ids => rfl
 | x :: xs, y :: ys, ps, q, ids => by
   unfold ziv
   rw [yhw]
   cases e : zf9 ⟨ps, ids⟩ x y with
   | none => rfl
   | some m => exact zvt xs ys m.ps q m.ids
theorem zx4 : ∀ (p : List Prop) (q : Prop), zs7 (p ++ [q]) = (q /\ zs7 p)
 | [], q => by simp [zs7]
 | a :: p, q => by
   show (a /\ zs7 (p ++ [q])) = (q /\ a /\ zs7 p)
   rw [zx4 p q]
   exact propext ⟨fun ⟨h1, h2, h3⟩ => ⟨h2, h1, h3⟩, fun ⟨h1, h2, h3⟩ => ⟨h2, h1, h3⟩⟩
theorem zd0 {x y : AV} {q : Prop} (e : zf9 ⟨[], []⟩ x y = some ⟨[q], []⟩) (xs ys : List AV) : zb9 (.agg (x :: xs)) (.agg (y :: ys)) = (q /\ zb9 (.agg xs) (.agg ys)) := by
 unfold zb9 ziw
 simp only [ziv, e]
 have := zvt xs ys [] [q] []
 rw [List.nil_append] at this
 rw [this]
 cases ziv ⟨[], []⟩ xs ys with
 | none => simp
 | some m =>
   obtain ⟨ps, ids⟩ := m
   cases ids with
   | nil => exact zx4 ps q
   | cons a b => simp
theorem zbh : zb9 (.agg []) (.agg []) = True := rfl
theorem zc2 (k : IntKind) (a b : Int) (xs ys : List AV) : zb9 (.agg (.int k a :: xs)) (.agg (.int k b :: ys)) = (b = a /\ zb9 (.agg xs) (.agg ys)) := zd0 (by simp [zf9, zds.add]) _ _
theorem zch (a b : List UInt8) (xs ys : List AV) : zb9 (.agg (.str a :: xs)) (.agg (.str b :: ys)) = (b = a /\ zb9 (.agg xs) (.agg ys)) := zd0 rfl _ _
theorem zk1 (a b : Bool) (xs ys : List AV) : zb9 (.agg (.bool a :: xs)) (.agg (.bool b :: ys)) = (b = a /\ zb9 (.agg xs) (.agg ys)) := zd0 rfl _ _
theorem zj8 (sz n n' : Nat) (g g' : Nat -> Nat -> AV) : zb9 (.lst sz n g) (.lst sz n' g') = (n' = n /\ ∀ i j, i < n -> j < sz -> g' i j = g i j) := by simp [zb9, ziw, zf9, zds.add, za6, zs7]
theorem yj6 (sz n n' : Nat) (g g' : Nat -> Nat -> AV) : zed (.lst sz n g) (.lst sz n' g') = (n' = n /\ ∀ i j, i < n -> j < sz -> g' i j = g i j) := zj8 sz n n' g g'
theorem zk0 (sz n : Nat) (g : Nat -> Nat -> AV) : zb9 (.lst sz n g) .nils = (0 = n) := by simp [zb9, ziw, zf9, zds.add, zs7]
theorem ydv (sz n : Nat) (g : Nat -> Nat -> AV) : zed (.lst sz n g) .nils = (0 = n) := zk0 sz n g
theorem zeo (sz n n' : Nat) (g g' : Nat -> Nat -> AV) (xs ys : List AV) : zb9 (.agg (.lst sz n g :: xs)) (.agg (.lst sz n' g' :: ys)) = ((n' = n /\ ∀ i j, i < n -> j < sz -> g' i j = g i j) /\ zb9 (.agg xs) (.agg ys)) := zd0 (by simp [zf9, zds.add, za6]) _ _
theorem zdf (sz n : Nat) (g : Nat -> Nat -> AV) (xs ys : List AV) : zb9 (.agg (.lst sz n g :: xs)) (.agg (.nils :: ys)) = (0 = n /\ zb9 (.agg xs) (.agg ys)) := zd0 rfl _ _
theorem zrp (n : Nat) (g g' : Nat -> AV) : zb9 (.arr n g) (.arr n g') = (∀ j, j < n -> g' j = g j) := by simp [zb9, ziw, zf9, zds.add, za6, zs7]
theorem zpn (n : Nat) (g g' : Nat -> AV) : zed (.arr n g) (.arr n g') = (∀ j, j < n -> g' j = g j) := zrp n g g'
theorem ydy : zed (.agg []) (.agg []) = True := rfl
theorem zj7 (k : IntKind) (a b : Int) (xs ys : List AV) : zed (.agg (.int k a :: xs)) (.agg (.int k b :: ys)) = (b = a /\ zb9 (.agg xs) (.agg ys)) := zc2 _ _ _ _ _
theorem ydw (a b : List UInt8) (xs ys : List AV) : zed (.agg (.str a :: xs)) (.agg (.str b :: ys)) = (b = a /\ zb9 (.agg xs) (.agg ys)) := zch _ _ _ _
theorem ydx (a b : Bool) (xs ys : List AV) : zed (.agg (.bool a :: xs)) (.agg (.bool b :: ys)) = (b = a /\ zb9 (.agg xs) (.agg ys)) := zk1 _ _ _ _
theorem ya2 {h : Array Obj} {D : Nat -> Prop} {μ : Mu} {l : List UInt8} {v : Value} (r : R h D μ (.str l) v) : v = .string ⟨l.toArray⟩ := by
 obtain ⟨s, rfl, rfl⟩ := r.inv_str
 simp
theorem ya1 (h : Array Obj) (D : Nat -> Prop) (μ : Mu) (l : List UInt8) : R h D μ (.str l) (.string ⟨l.toArray⟩) := .str l _ (by simp)
theorem zf6 {P : Program} {f : FuncId} {fn : Func} {c : Code} {xs : List AV} {args : Array Value} {v : Value} {r : AV} (hf : P.funcs[f]? = some fn) (hb : fn.body = some c) (hn : (fn.name == "runtime.NumGoroutine") = false)
   (ha : ∀ h D vs, RL h D zaz xs vs -> vs = args) (hv : ∀ h D, R h D zaz r v) (h : ∀ w, Calls P f args w fun e w' => e = .returned v /\ Below w.heap.size w w') : zaf P f xs r := by
 intro D w vs hD hxs hg
 have := ha _ _ _ hxs
 subst this
 unfold zdv
 rw [zcn hf hn hb]
 refine (h w).mono ?_
 rintro e w' ⟨rfl, hw⟩
 exact ⟨v, D, rfl, hw, fun _ h => h, fun b hb => .inl hb, hv _ _⟩
theorem zq2 {P : Program} {f : FuncId} {args : Array Value} {v : Value} (h : ∀ w, Calls P f args w fun e w' => e = .returned v /\ w = w') : ∀ w, Calls P f args w fun e w' => e = .returned v /\ Below w.heap.size w w' :=
 fun w => (h w).mono fun e w' ⟨h1, h2⟩ => ⟨h1, by subst h2; exact Below.refl _ _⟩
def yfk (x : AV) (v : Value) : Prop := ∀ h D u, R h D zaz x u -> u = v
theorem zil (k : IntKind) (n : Int) : yfk (.int k n) (.int k n) := fun _ _ _ r => by cases r; rfl
theorem zlf (l : List UInt8) : yfk (.str l) (.string ⟨l.toArray⟩) := fun _ _ _ r => ya2 r
theorem ypr {x : AV} {v : Value} (hx : yfk x v) : ∀ h D vs, RL h D zaz [x] vs -> vs = #[v] := by
 intro h D vs ⟨hl, hr⟩
 obtain ⟨a, ha⟩ : ∃ a, vs.toList = [a] := List.length_eq_one_iff.1 (by simpa using hl.symm)
 have : vs = #[a] := by rw [<- Array.toArray_toList (xs := vs), ha]
 subst this
 rw [hx _ _ a (hr 0 x a rfl rfl)]
theorem ytu {x y : AV} {v u : Value} (hx : yfk x v) (hy : yfk y u) : ∀ h D vs, RL h D zaz [x, y] vs -> vs = #[v, u] := by
 intro h D vs ⟨hl, hr⟩
 obtain ⟨a, b, ha⟩ : ∃ a b, vs.toList = [a, b] := by
   have hl : vs.toList.length = 2 := by simpa using hl.symm
   match vs.toList, hl with
   | [a, b], _ => exact ⟨a, b, rfl⟩
 have : vs = #[a, b] := by rw [<- Array.toArray_toList (xs := vs), ha]
 subst this
 rw [hx _ _ a (hr 0 x a rfl rfl), hy _ _ b (hr 1 y b rfl rfl)]
abbrev zcl := Nat × (List AV -> Option (Prop × AV))
abbrev zgz := Nat × yxb
def yup (l : List zcl) : FuncId -> List AV -> Option (Prop × AV) := fun f xs => match za2 l f with | some g => g xs | none => none
def zbi (l : List zcl) : zn6 := ⟨yup l, fun _ => none⟩
def zbe (l : List zcl) (lm : List zgz) : zn6 := ⟨yup l, za2 lm⟩
def zcs (P : Program) (e : zcl) : Prop := ∀ xs p r, e.2 xs = some (p, r) -> p -> zaf P e.1 xs r
def yjv (P : Program) : List zcl -> Prop
 | [] => True
 | e :: l => zcs P e /\ yjv P l
def zd1 (P : Program) (e : zgz) : Prop := ∀ raw ob T, e.2 raw ob = some T -> T.p -> zb0 P e.1 T.xs T.O T.r T.O1
def yfp (P : Program) : List zgz -> Prop
 | [] => True
 | e :: l => zd1 P e /\ yfp P l
theorem ztn {P : Program} : ∀ {l : List zcl}, yjv P l -> ∀ f xs p r, yup l f xs = some (p, r) -> p -> zaf P f xs r
 | [], _, f, xs, p, r, h => by cases h
 | (n, g) :: l, ⟨hg, hl⟩, f, xs, p, r, h => by
   unfold yup za2 at h
   by_cases e : n = f
   · subst e
     rw [za6] at h
     exact hg xs p r h
   · rw [zaq e] at h
     exact ztn hl f xs p r h
theorem yck {P : Program} : ∀ {l : List zgz}, yfp P l -> ∀ f m, za2 l f = some m -> ∀ raw ob T, m raw ob = some T -> T.p -> zb0 P f T.xs T.O T.r T.O1
 | [], _, f, m, h => by cases h
 | (n, g) :: l, ⟨hg, hl⟩, f, m, h => by
   unfold za2 at h
   by_cases e : n = f
   · subst e
     rw [za6] at h
     cases h
     exact hg
   · rw [zaq e] at h
     exact yck hl f m h
theorem za9 {P : Program} {l : List zcl} (h : yjv P l) : zdu P (zbi l) := ⟨ztn h, fun f m h => by cases h⟩
theorem zai {P : Program} {l : List zcl} {lm : List zgz} (h : yjv P l) (hm : yfp P lm) : zdu P (zbe l lm) := ⟨ztn h, yck hm⟩
theorem law_of_ac {P : Program} {f : FuncId} {fn : Func} {c : Code} {xs : List AV} {vs : Array Value} (hf : P.funcs[f]? = some fn) (hb : fn.body = some c) (hn : (fn.name == "runtime.NumGoroutine") = false)
   (h : zaf P f xs (.bool true)) (D : Nat -> Prop) (w : World) (hD : ∀ b, D b -> b < w.heap.size) (hr : RL w.heap D zaz xs vs) (hg : GOk w := by trivial) : Calls P f vs w fun e w' => e = .returned (.bool true) /\ Below w.heap.size w w' := by
 have h := h D w vs hD hr hg
 unfold zdv at h
 rw [zcn hf hn hb] at h
 refine h.mono ?_
 rintro e w' ⟨v, D', rfl, hw, _, _, r⟩
 cases r
 exact ⟨rfl, hw⟩
theorem rl_nil {h : Array Obj} {D : Nat -> Prop} : RL h D zaz [] #[] := ⟨rfl, fun i x v h => by simp at h⟩
theorem rl_of {h : Array Obj} {D : Nat -> Prop} {xs : List AV} {vs : Array Value} {x : AV} {v : Value} (hx : R h D zaz x v) (hr : RL h D zaz xs ⟨vs.toList⟩) : RL h D zaz (x :: xs) ⟨v :: vs.toList⟩ := by
 obtain ⟨h1, h2⟩ := hr
 refine ⟨by simpa using h1, ?_⟩
 intro i y u hy hu
 cases i with
 | zero => simp at hy hu; subst hy hu; exact hx
 | succ i => simp at hy hu; exact h2 i y u hy (by simpa using hu)
theorem yrs (q : Nat) (k : IntKind) (v : Int) (f : Nat -> Int) (i j : Nat) (h : j < 1) : over std q 0 1 [.int k v] (fun i _ => .int k (f i)) i j = .int k (if i = q then v else f i) := by
 rw [zgf, if_pos (by omega)]
 have h0 : j = 0 := by omega
 subst h0
 by_cases e : i = q
 · subst e; simp [zhv, zby, L3, std, za6]
 · simp [zaq e, zhv, zby, L3, std, e]
theorem zms {p q : Nat} (h : p < q) : zbo p q = true := by rw [zc9]; exact h
theorem zq1 {p q : Nat} (h : ¬ p < q) : zbo p q = false := by rw [Bool.eq_false_iff, ne_eq, zc9]; exact h
theorem zp5 {h : Array Obj} {D : Nat -> Prop} {μ : Mu} {sz n : Nat} {g g' : Nat -> Nat -> AV} {v : Value} (r : R h D μ (.lst sz n g) v) (e : ∀ i j, i < n -> j < sz -> g i j = g' i j) : R h D μ (.lst sz n g') v := by
 cases r with
 | lst0 sz get a cap hn => exact .lst0 _ _ _ _ hn
 | lst sz n get b o cap vs hD hc hv h1 hr => exact .lst _ _ _ b o cap vs hD hc hv h1 (fun i j hi hj => by rw [<- e i j hi hj]; exact hr i j hi hj)
set_option linter.defProp false in
def sySet := And.intro @zc6 (And.intro @ze4 (And.intro @yo6 (And.intro @ysr (And.intro @ydo (And.intro @yss (And.intro @zhx (And.intro @zic (And.intro @ym1 (And.intro @yr2 (And.intro @zfn (And.intro @yso (And.intro @yo2 (And.intro @ykp (And.intro @zhk (And.intro @zpv (And.intro @zbp (And.intro @zgo (And.intro @zhr (And.intro @zen (And.intro @zg0 (And.intro @ye0 (And.intro @zea (And.intro @zay (And.intro @zcz (And.intro @zdl (And.intro @ym3 (And.intro @ylt (And.intro @ylz (And.intro @za5 (And.intro @yo4 (And.intro @yo5 (And.intro @Bool.not_eq_true' (And.intro @Bool.not_eq_false' (And.intro @Bool.and_eq_true (And.intro @Bool.and_eq_false_imp (And.intro @Bool.or_eq_true (And.intro @Bool.or_eq_false_iff (And.intro @Bool.not_true (And.intro @Bool.not_false (And.intro @zct (And.intro @yuy (And.intro @zsj (And.intro @yqo (And.intro @yuw (And.intro @w_u8 (And.intro @Int.zero_add (And.intro @ynj (And.intro @yj7 (And.intro @yvx (And.intro @zbh (And.intro @zc2 (And.intro @zch (And.intro @zk1 (And.intro @ydy (And.intro @zj7 (And.intro @ydw (And.intro @ydx (And.intro @zj8 (And.intro @yj6 (And.intro @zk0 (And.intro @ydv (And.intro @zeo (And.intro @zdf (And.intro @zrp @zpn))))))))))))))))))))))))))))))))))))))))))))))))))))))))))))))))
set_option linter.defProp false in
def syB := And.intro @Decidable.not_not (And.intro @true_and (And.intro @and_true (And.intro @decide_eq_true_eq (And.intro @decide_eq_false_iff_not (And.intro @imp_false (And.intro not_false_eq_true (And.intro not_true_eq_false (And.intro @false_imp_iff (And.intro @true_imp_iff (And.intro @forall_const.{0} (And.intro @forall_const.{1} (And.intro @implies_true.{0} (And.intro @implies_true.{1} (And.intro @ne_eq.{1} (And.intro @Int.cast_ofNat_Int (And.intro @Int.toNat_natCast (And.intro @Nat.succ_eq_add_one (And.intro @Nat.le_eq (And.intro @Nat.sub_eq (And.intro @zcc.eq_1 (And.intro @zkq.eq_1 (@zlc.eq_1))))))))))))))))))))))
set_option linter.defProp false in
def syS := And.intro sySet syB
end Sy
end Go.Proofs.YtlphgephdhadhaaGreat
namespace Go.Proofs.YtlphgephdhadhaaGreat
namespace Sy
open Go Go.RowKit
set_option linter.unusedSimpArgs false
set_option linter.unusedVariables false
set_option linter.unusedSectionVars false
def yvo : List (Nat × Ob) -> List Nat
 | [] => []
 | (n, _) :: r => match zfy n with | true => n :: yvo r | false => yvo r
def zkh : List (Nat × Ob) -> Bool
 | [] => true
 | (n, _) :: r => match zfy n with | true => zkh r | false => false
def ztl (L : zaa) (ice : List Nat) : Nat -> List AV -> List (Nat × Ob) -> Option (List AV × List (Nat × Ob))
 | _, [], O => some ([], O)
 | d, .slc id sz off n cap :: r, O => match za2 O id, zc7 ice id, za2 O d, zfy d with
   | some (.row ty sz' _ get), false, none, false => match cond (zbo 0 sz) (zav sz sz') false with
     | true => match ztl L ice (d + 1) r ((d, .row ty sz (L2 L Nat.add off n) get) :: (id, .gone) :: O) with
       | some (vs, O') => some (.sl d sz off n :: vs, O')
       | none => none
     | false => none
   | _, _, _, _ => none
 | d, v :: r, O => match ztl L ice d r O with
   | some (vs, O') => some (v :: vs, O')
   | none => none
def ye5 (L : zaa) : List AV -> List (Nat × Ob) -> Option (Nat × (Nat -> List AV) × (Nat -> List (Nat × Ob)))
 | .sl id sz 0 n :: r, O => match za2 O id with
   | some (.row ty sz' _ get) => match zav sz sz', zbo 0 sz, za2 O 600001 with
     | true, true, none => some (n, (fun cap => .slc 600001 sz 0 n cap :: r), (fun cap => (600001, .row ty sz cap (fun i j => L3 L zoi (L2 L zbo i n) (get i j) .dead)) :: (id, .gone) :: O))
     | _, _, _ => none
   | _ => none
 | _, _ => none
section
variable (T : TT) (L : zaa) (S : zn6) (lo lb : Nat -> St -> Option Ann)
def yq9 (rts : List AV) (O1 : List (Nat × Ob)) (rs : List ResultVar) (s : St) : zck :=
 match ybc T s rs with
 | some vs => match zav (ze7 vs) (ze7 rts) with
   | true => match ztl L s.ice 600010 vs s.objs with
     | some (vs, O) => zyh ⟨zqu 0 vs, O, s.ice, []⟩ ⟨zqu 0 rts, O1, [], []⟩ (yvo O1) .yes
     | none => .fail 265
   | false => .fail 263
 | none => .fail 264
def finM (rts : List AV) (O1 : List (Nat × Ob)) (rs : List ResultVar) : K := fun e s => match e with
 | .normal => yq9 T L rts O1 rs s
 | .ret => yq9 T L rts O1 rs s
 | _ => .fail 262
def yr8 (n : Nat) (f : Func) (xs : List AV) (O : List (Nat × Ob)) (rts : List AV) (O1 : List (Nat × Ob)) : zck :=
 match f.body with
 | some c => run T L S lo (znb lb (pass T L S lo lb n)) noL c ⟨zqu 0 xs, O, [], []⟩ (finM T L rts O1 f.results.toList)
 | none => .fail 270
def yv8 (n : Nat) (f : Func) (xs : List AV) (O : List (Nat × Ob)) (rts : List AV) (O1 : List (Nat × Ob)) : zck :=
 match ye5 L xs O with
 | some (k, xs', O') => .all Nat fun cap => .sup (L2 L Nat.le k cap) (yr8 T L S lo lb n f (xs' cap) (O' cap) rts O1)
 | none => .fail 266
end
def zqi : List AV -> AV
 | [r] => r
 | rs => .tup rs
theorem zo5 : ∀ {O : List (Nat × Ob)}, zkh O = true -> ∀ n, za2 O n ≠ none -> zfy n = true
 | [], _, n, h => by simp [za2] at h
 | (m, o) :: r, e, n, h => by
   unfold zkh at e
   unfold za2 at h
   split at e
   · rename_i hp
     split at h
     · rename_i hb; rw [<- za4 hb]; exact hp
     · exact zo5 e n h
   · cases e
section
variable {P : Program} {T : TT} {base : Nat} {M : Two} {W : World} {nt : Nat} {f : Nat -> Option AV} {g : Nat -> Option Ob} {c : Nat -> Bool} {a : Act} {w : World} {D : Nat -> Prop} {μ : Mu} {o : Oper}
theorem Sim.rename (h : Sim base M W nt f g c a w D μ) {d id b z m k ty sz : Nat} {get get' : Nat -> Nat -> AV} (hp : zfy d = false) (hd : g d = none) (hμ : μ id = some (some (b, z, m))) (hg : g id = some (.row ty sz m get)) (hc : c id = false)
   (hz : k * sz <= z) (hs : 0 < sz) (hget : ∀ i j, i < k -> j < sz -> (i < m /\ get' i j = get i j) \/ get' i j = .dead) :
   Sim base M W nt f (zbb g [(d, .row ty sz k get'), (id, .gone)]) c a w D (fun i => if i = d then some (some (b, z, k)) else μ i) := by
 have hdid : d ≠ id := by rintro rfl; rw [hd] at hg; cases hg
 obtain ⟨_, C, tt, fr, hh, hcs, hf, hle, hrow⟩ := h.obs id _ _ hg hμ
 obtain ⟨hblt, hbb⟩ := h.own id b _ hμ
 have hnD := (h.kd id b _ _ hμ hg (by simp)).2 hc
 have hfree : ∀ i o2 z2, μ i = some (some (b, z2)) -> zbb g [(id, .gone)] i = some o2 -> o2 = .gone := by
   intro i o2 z2 k1 k2
   by_cases k3 : id = i
   · subst k3
     simp [zbb, za2, za6] at k2
     exact k2.symm
   · simp [zbb, za2, zaq k3] at k2
     by_cases k4 : o2 = .gone
     · exact k4
     · exact absurd (h.inj id i b _ z2 _ o2 hμ k1 hg k2 (by simp) k4) k3
 have hgone := h.gone hg
 have hd2 : zbb g [(id, .gone)] d = none := by simp [zbb, za2, zaq (fun x => hdid x.symm : ¬ id = d), hd]
 have had := hgone.adopt (d := d) hp hd2 (b := b) (z := z) (m := k) hblt hbb hnD hfree (ob := .row ty sz k get') (by simp) C (fun hD => by
   rw [setRow_self w b C tt fr hh]
   refine ⟨rfl, C, tt, fr, hh, hcs, hf, hz, fun i j hi hj => ?_⟩
   have hlt : i * sz + j < C.size := by
     have h3 : (i + 1) * sz <= k * sz := Nat.mul_le_mul_right _ hi
     rw [Nat.add_mul] at h3
     omega
   rcases hget i j hi hj with ⟨him, e⟩ | e
   · rw [e]; exact hrow i j him hj
   · rw [e]
     exact ⟨_, getD_some hlt, hf.2.2.1 _ _ (getD_some hlt), .dead _⟩)
 rw [setRow_self w b C tt fr hh] at had
 have e2 : zbb (zbb g [(id, .gone)]) [(d, .row ty sz k get')] = zbb g [(d, .row ty sz k get'), (id, .gone)] := by
   funext q
   simp only [zbb, za2]
   by_cases k1 : d = q
   · subst k1; simp [za6]
   · by_cases k2 : id = q
     · subst k2; simp [za6, zaq hdid]
     · simp [zaq k1, zaq k2]
 rw [e2] at had
 exact had
theorem Sim.renameNil (h : Sim base M W nt f g c a w D μ) {d id m ty sz : Nat} {get get' : Nat -> Nat -> AV} (hp : zfy d = false) (hd : g d = none) (hμ : μ id = some none) (hg : g id = some (.row ty sz m get)) :
   Sim base M W nt f (zbb g [(d, .row ty sz 0 get'), (id, .gone)]) c a w D (fun i => if i = d then some none else μ i) := by
 have hdid : d ≠ id := by rintro rfl; rw [hd] at hg; cases hg
 have hgone := h.gone hg
 have hd2 : zbb g [(id, .gone)] d = none := by simp [zbb, za2, zaq (fun x => hdid x.symm : ¬ id = d), hd]
 have had := hgone.newNil (d := d) hp hd2 ty sz get'
 have e2 : zbb (zbb g [(id, .gone)]) [(d, .row ty sz 0 get')] = zbb g [(d, .row ty sz 0 get'), (id, .gone)] := by
   funext q
   simp only [zbb, za2]
   by_cases k1 : d = q
   · subst k1; simp [za6]
   · by_cases k2 : id = q
     · subst k2; simp [za6, zaq hdid]
     · simp [zaq k1, zaq k2]
 rw [e2] at had
 exact had
theorem znw {d : Nat} {y : Option (Nat × Nat × Nat)} (hd : μ d = none) : ∀ i x, μ i = some x -> (if i = d then some y else μ i) = some x := by
 intro i x hx
 have : i ≠ d := by rintro rfl; rw [hd] at hx; cases hx
 rw [if_neg this, hx]
theorem ytw (O : List (Nat × Ob)) (p : Nat × Ob) (q : Nat × Ob) : za2 (p :: q :: O) = zbb (za2 O) [p, q] := by
 funext i
 obtain ⟨p, x⟩ := p
 obtain ⟨q, y⟩ := q
 simp only [zbb, za2]
 cases zav p i with
 | true => rfl
 | false => cases zav q i <;> rfl
theorem ywg (h : Sim base M W nt f g c a w D μ) {d id ty sz m off n cap : Nat} {get : Nat -> Nat -> AV} {v : Value} (hp : zfy d = false) (hd : g d = none) (hg : g id = some (.row ty sz m get)) (hc : c id = false) (hs : 0 < sz) (r : R w.heap D μ (.slc id sz off n cap) v) :
   ∃ μ', Sim base M W nt f (zbb g [(d, .row ty sz (off + n) get), (id, .gone)]) c a w D μ' /\ (∀ i y, μ i = some y -> μ' i = some y) /\ R w.heap D μ' (.sl d sz off n) v := by
 have hmd : μ d = none := (h.dom d).2 hd
 cases r with
 | slcv _ _ ad hm =>
   exact ⟨_, h.renameNil hp hd hm hg, znw hmd, .slv _ _ _ (by simp)⟩
 | slc0 _ _ _ b z mm o hm ho =>
   have hmm := (h.obs id _ _ hg hm).1
   subst hmm
   obtain ⟨_, C, tt, fr, hh, hcs, hf, hle, hrow⟩ := h.obs id _ _ hg hm
   exact ⟨_, h.rename (k := off + 0) (get' := get) hp hd hm hg hc (Nat.le_trans (Nat.mul_le_mul_right _ ho) hle) hs (fun i j hi hj => .inl ⟨by omega, rfl⟩), znw hmd, .sl0 _ _ _ b z off o (by simp) (by omega)⟩
 | slc _ _ _ _ _ b z mm hm hn hz ho =>
   have hmm := (h.obs id _ _ hg hm).1
   subst hmm
   exact ⟨_, h.rename (k := off + n) (get' := get) hp hd hm hg hc (Nat.le_trans (Nat.mul_le_mul_right _ (by omega)) hz) hs (fun i j hi hj => .inl ⟨by omega, rfl⟩), znw hmd, .sl _ _ _ _ b z (off + n) cap (by simp) hn hz (by omega)⟩
theorem zpm {ice : List Nat} : ∀ (vs : List AV) (d : Nat) (O : List (Nat × Ob)) (vs' : List AV) (O' : List (Nat × Ob)) (us : Nat -> Value) {μ : Mu}, ztl std ice d vs O = some (vs', O') -> Sim base M W nt f (za2 O) (zc7 ice) a w D μ -> (∀ t v, vs[t]? = some v -> R w.heap D μ v (us t)) ->
   ∃ μ', Sim base M W nt f (za2 O') (zc7 ice) a w D μ' /\ vs'.length = vs.length /\ (∀ i y, μ i = some y -> μ' i = some y) /\ ∀ t v, vs'[t]? = some v -> R w.heap D μ' v (us t)
 | [], d, O, vs', O', us, μ, e, h, hr => by cases e; exact ⟨μ, h, rfl, fun _ _ h => h, hr⟩
 | x :: r, d, O, vs', O', us, μ, e, h, hr => by
   have plain : ∀ vs1, ztl std ice d r O = some (vs1, O') -> vs' = x :: vs1 -> ∃ μ', Sim base M W nt f (za2 O') (zc7 ice) a w D μ' /\ vs'.length = (x :: r).length /\ (∀ i y, μ i = some y -> μ' i = some y) /\ ∀ t v, vs'[t]? = some v -> R w.heap D μ' v (us t) := by
     rintro vs1 e1 rfl
     obtain ⟨μ2, k1, k2, k3, k4⟩ := zpm r d O vs1 O' (fun t => us (t + 1)) e1 h (fun t v hv => hr (t + 1) v hv)
     refine ⟨μ2, k1, by simp [k2], k3, fun t v hv => ?_⟩
     cases t with
     | zero => cases hv; exact (hr 0 _ rfl).mono (fun _ _ => rfl) (fun _ h => h) k3
     | succ t => exact k4 t v hv
   by_cases hx : ∃ id sz off n cap, x = .slc id sz off n cap
   · obtain ⟨id, sz, off, n, cap, rfl⟩ := hx
     simp only [ztl] at e
     split at e
     · rename_i ty sz' m get hg hc hd hp
       split at e
       · rename_i hsz
         have hs : zbo 0 sz = true := by cases hq : zbo 0 sz <;> simp_all
         rw [hs] at hsz
         obtain rfl := za4 hsz
         split at e
         · rename_i vs1 O1 e1
           cases e
           obtain ⟨μ1, h1, h2, h3⟩ := ywg h hp hd hg hc (zcr hs) (hr 0 _ rfl)
           rw [<- ytw] at h1
           obtain ⟨μ2, k1, k2, k3, k4⟩ := zpm r (d + 1) _ vs1 _ (fun t => us (t + 1)) e1 h1 (fun t v hv => (hr (t + 1) v hv).mono (fun _ _ => rfl) (fun _ h => h) h2)
           refine ⟨μ2, k1, by simp [k2], fun i y hy => k3 i y (h2 i y hy), fun t v hv => ?_⟩
           cases t with
           | zero => cases hv; exact h3.mono (fun _ _ => rfl) (fun _ h => h) k3
           | succ t => exact k4 t v hv
         · cases e
       · cases e
     · cases e
   · have e' : (match ztl std ice d r O with | some (vs, O') => some (x :: vs, O') | none => none) = some (vs', O') := by
       cases x <;> first | exact e | exact absurd ⟨_, _, _, _, _, rfl⟩ hx
     split at e'
     · rename_i vs1 O1 e1
       cases e'
       exact plain vs1 e1 rfl
     · cases e'
theorem yoo (h : Sim base M W nt f g c a w D μ) {d id ty sz m n : Nat} {get : Nat -> Nat -> AV} {v : Value} (hp : zfy d = false) (hd : g d = none) (hg : g id = some (.row ty sz m get)) (hc : c id = false) (hs : 0 < sz) (r : R w.heap D μ (.sl id sz 0 n) v) :
   ∃ cap μ', n <= cap /\ Sim base M W nt f (zbb g [(d, .row ty sz cap (fun i j => L3 std zoi (L2 std zbo i n) (get i j) .dead)), (id, .gone)]) c a w D μ' /\ (∀ i y, μ i = some y -> μ' i = some y) /\ R w.heap D μ' (.slc d sz 0 n cap) v := by
 have hmd : μ d = none := (h.dom d).2 hd
 cases r with
 | slv _ _ ad hm =>
   exact ⟨0, _, Nat.le_refl _, h.renameNil hp hd hm hg, znw hmd, .slcv _ _ _ (by simp)⟩
 | sl0 _ _ _ b z mm o hm ho =>
   have hmm := (h.obs id _ _ hg hm).1
   subst hmm
   exact ⟨0, _, Nat.le_refl _, h.rename (k := 0) hp hd hm hg hc (by omega) hs (fun i j hi hj => by omega), znw hmd, .slc0 _ _ _ b z 0 o (by simp) (by omega)⟩
 | sl _ _ _ _ b z mm cap hm hn hz ho =>
   have hmm := (h.obs id _ _ hg hm).1
   subst hmm
   refine ⟨cap, _, hn, h.rename (k := cap) hp hd hm hg hc (by simpa using hz) hs (fun i j hi hj => ?_), znw hmd, .slc _ _ _ _ _ b z cap (by simp) hn hz (by omega)⟩
   by_cases hin : i < n
   · have : L2 std zbo i n = true := by show zbo i n = true; rw [zc9]; exact hin
     exact .inl ⟨by omega, by rw [this]; rfl⟩
   · have : L2 std zbo i n = false := by
       show zbo i n = false
       cases hx : zbo i n with
       | false => rfl
       | true => exact absurd (zcr hx) hin
     exact .inr (by rw [this]; rfl)
end
theorem zni {P : Program} {T : TT} {Q : AV -> Prop} {fn : Func} {O O1 : List (Nat × Ob)} {rts : List AV} {D : Nat -> Prop} {w : World} {μ : Mu} (hT : zcb P T) (hD : ∀ b, D b -> b < w.heap.size) (hdom : ∀ n, μ n = none ↔ za2 O n = none)
   (hown : ∀ n b z, μ n = some (some (b, z)) -> b < w.heap.size /\ ¬ D b) (hrb : fn.results.size <= 500000) (hpin : zkh O = true) {nt : Nat} {s : St} {a : Act} {w' : World} {D1 : Nat -> Prop} {μ1 : Mu}
   (S1 : Sim w.heap.size ⟨fun b => ∃ n z, μ n = some (some (b, z)), D, fun n => (μ n).getD none⟩ w nt (za2 s.slots) (za2 s.objs) (zc7 s.ice) a w' D1 μ1)
   (h' : Sat P Q (yq9 T std rts O1 fn.results.toList s)) : a.defers = [] /\ ∃ v, (results fn a.tmps).run P w' = .ok v w' /\ ∃ v' D' μ', ylc D w μ O O1 (zqi rts) (Ending.returned v) v' w' D' μ' := by
 unfold yq9 at h'
 split at h'
 · rename_i vs1 hvs
   split at h'
   · rename_i hlen
     have hlen := za4 hlen
     rw [zap, zap] at hlen
     obtain ⟨l1, us, h1, h2⟩ := zsv S1 hT hvs
     split at h'
     rotate_left
     · cases h'
     rename_i vs2 O2 hhide
     obtain ⟨μ3, S3, l3, _, h4⟩ := zpm vs1 600010 s.objs vs2 O2 us hhide S1 h2
     have l1 : vs2.length = fn.results.toList.length := l3.trans l1
     have hlen : vs2.length = rts.length := l3.trans hlen
     clear h2
     have h2 := h4
     have hres := zlm (P := P) (w := w') (fn := fn) (tmps := a.tmps) h1
     have hk : vs2.length = fn.results.size := by rw [l1, Array.length_toList]
     have hut : ∀ t, t < fn.results.size -> (((List.range fn.results.size).map us).toArray).getD t undef = us t := by
       intro t ht
       rw [Array.getD_eq_getD_getElem?]
       simp [ht]
     have hs1 : zmx w.heap.size ⟨fun b => ∃ n z, μ n = some (some (b, z)), D, fun n => (μ n).getD none⟩ w fn.results.size ⟨zqu 0 vs2, O2, s.ice, []⟩ ⟨((List.range fn.results.size).map us).toArray, []⟩ w' :=
       ⟨⟨D1, μ3, {
         os := S1.os, tape := S1.tape, output := S1.output, size := S1.size, bs := S1.bs, old := S1.old, defers := rfl
         tmps := by simp
         slots := fun t v hv => by
           have hv : za2 (zqu 0 vs2) t = some v := hv
           rw [zee, if_pos (by omega), Nat.sub_zero] at hv
           have ht := (List.getElem?_eq_some_iff.1 hv).1
           rw [hut t (by omega)]
           exact h2 t v hv
         dlt := S3.dlt, low := S3.low, dom := S3.dom, obs := S3.obs, inj := S3.inj, own := S3.own, kd := S3.kd, icy := S3.icy, ntb := hrb, pin := S3.pin, gl := S3.gl }⟩, fun t b ht => by simp [za2] at ht⟩
     obtain ⟨⟨⟨D2, μ2, S2⟩, _⟩, _⟩ := ycp hs1 h' rfl
     refine ⟨S1.defers, _, hres, (if fn.results.size = 1 then us 0 else .tuple ((List.range fn.results.size).map us).toArray), fun b => D b \/ D2 b, μ2, ?_⟩
     exact {
       ret := rfl, os := S2.os, tape := S2.tape, output := S2.output, size := S2.size
       old := fun b h1 h2 => S2.old b h1 fun ⟨n, z, hn⟩ => h2 n z hn
       up := fun b hb => .inl hb
       dn := fun b hb => by
         rcases hb with hb | hb
         · exact .inl hb
         · by_cases hlt : b < w.heap.size
           · rcases S2.low b hb hlt with q | q
             · exact .inl q
             · exact .inr (.inr q)
           · exact .inr (.inl ⟨by omega, S2.dlt b hb⟩)
       dom := S2.dom
       obs := fun n o x ho hx => (S2.obs n o x ho hx).mono (fun _ _ => rfl) (fun _ h => .inr h) (fun _ _ h => h) (fun _ _ _ _ => rfl)
       inj := fun n n' b z z' h1 h2 => by
         have g1 : za2 O1 n ≠ none := fun e => by rw [(S2.dom n).2 e] at h1; cases h1
         have g2 : za2 O1 n' ≠ none := fun e => by rw [(S2.dom n').2 e] at h2; cases h2
         obtain ⟨o1, q1⟩ := Option.ne_none_iff_exists'.1 g1
         obtain ⟨o2, q2⟩ := Option.ne_none_iff_exists'.1 g2
         exact S2.inj n n' b z z' o1 o2 h1 h2 q1 q2 (zm0 hs1 h' n o1 q1) (zm0 hs1 h' n' o2 q2)
       own := fun n b z h1 => by
         have g1 : za2 O1 n ≠ none := fun e => by rw [(S2.dom n).2 e] at h1; cases h1
         obtain ⟨o1, q1⟩ := Option.ne_none_iff_exists'.1 g1
         have k := (S2.kd n b z o1 h1 q1 (zm0 hs1 h' n o1 q1)).2 rfl
         obtain ⟨p1, p2⟩ := S2.own n b z h1
         refine ⟨p1, ?_, ?_⟩
         · rintro (hb | hb)
           · rcases p2 with p2 | ⟨m, z2, p2⟩
             · have := hD b hb; omega
             · exact (hown m b z2 p2).2 hb
           · exact k hb
         · rcases p2 with p2 | ⟨m, z2, p2⟩
           · exact .inl p2
           · exact .inr ⟨m, z2, p2⟩
       keep := fun n hn hn1 => by
         obtain ⟨y, hy⟩ := Option.ne_none_iff_exists'.1 (fun e => hn1 ((S2.dom n).1 e) : μ2 n ≠ none)
         have := S2.pin n y (zo5 hpin n hn) hy
         have h3 : μ n ≠ none := fun e => hn ((hdom n).1 e)
         obtain ⟨y0, hy0⟩ := Option.ne_none_iff_exists'.1 h3
         have h4 : y = (μ n).getD none := this
         rw [hy0] at h4
         rw [hy, hy0, h4]; rfl
       val := by
         have each : ∀ (i : Nat) r, rts[i]? = some r -> R w'.heap (fun b => D b \/ D2 b) μ2 r (us i) := by
           intro i r hr
           have hlt : i < fn.results.size := by
             have := (List.getElem?_eq_some_iff.1 hr).1
             omega
           have := S2.slots i r (by show za2 (zqu 0 rts) i = some r; rw [zee, if_pos (by omega), Nat.sub_zero]; exact hr)
           have h3 := hut i hlt
           have this : R w'.heap D2 μ2 r ((((List.range fn.results.size).map us).toArray).getD i undef) := this
           rw [h3] at this
           exact this.mono (fun _ _ => rfl) (fun _ h => .inr h) (fun _ _ h => h)
         unfold zqi
         split
         · rename_i r
           have hsz : fn.results.size = 1 := by rw [<- hk, hlen]; rfl
           rw [if_pos hsz]
           exact each 0 _ rfl
         · rename_i hne
           have hsz : ¬ fn.results.size = 1 := by
             rw [<- hk, hlen]
             intro h1
             obtain ⟨v, hv⟩ := List.length_eq_one_iff.1 h1
             exact hne v hv
           rw [if_neg hsz]
           refine .tup _ _ (by simp; omega) fun i v x hv hx => ?_
           have hlt : i < fn.results.size := by
             have := (List.getElem?_eq_some_iff.1 hv).1
             omega
           simp [hlt] at hx
           subst hx
           exact each i v hv }
   · cases h'
 · cases h'
theorem ycr {P : Program} {T : TT} {S : zn6} {lo lb : Nat -> St -> Option Ann} {n : Nat} {f : FuncId} {fn : Func} {c : Code} {xs : List AV} {O : List (Nat × Ob)} {rts : List AV} {O1 : List (Nat × Ob)} (hf : P.funcs[f]? = some fn) (hb : fn.body = some c) (hn : (fn.name == "runtime.NumGoroutine") = false)
   (hc : zc8 fn.ntmps c = true) (hx : (zbv xs.length fn.ntmps && zbv fn.ntmps 500000 && zbv fn.results.size 500000 && zkh O) = true) (hT : zcb P T) (hS : zdu P S) (hm : P.follows .mixedOrders = true) {Q : AV -> Prop} (h : Sat P Q (yr8 T std S lo lb n fn xs O rts O1)) : zb0 P f xs O (zqi rts) O1 := by
 intro D w μ vs hD hxs hdom hobs hinj hown hg hgb
 rw [Bool.and_eq_true, Bool.and_eq_true, Bool.and_eq_true] at hx
 obtain ⟨⟨⟨hx, hnb⟩, hrb⟩, hpin⟩ := hx
 have hx := zbk hx
 have hnb := zbk hnb
 have hrb := zbk hrb
 unfold zdv
 rw [zcn hf hn hb]
 simp only
 refine calls_of_wp hf hb ?_
 unfold yr8 at h
 rw [hb] at h
 refine ztz (base := w.heap.size) (M := ⟨fun b => ∃ n z, μ n = some (some (b, z)), D, fun n => (μ n).getD none⟩) (W := w) hT hS hm hc ⟨⟨D, μ, ?_⟩, fun t b ht => by simp [za2] at ht⟩ h (fun e s a w' hs h' => ?_)
 · exact {
     os := rfl, tape := rfl, output := rfl, size := Nat.le_refl _, bs := Nat.le_refl _, old := fun _ _ _ => rfl, defers := rfl
     tmps := by
       rw [hxs.1] at hx
       simp; omega
     slots := fun t v hv => by
       have hv : za2 (zqu 0 xs) t = some v := hv
       rw [zee, if_pos (by omega), Nat.sub_zero] at hv
       have hlt : t < vs.size := by rw [<- hxs.1]; exact (List.getElem?_eq_some_iff.1 hv).1
       have h1 : vs[t]? = some vs[t] := by simp [hlt]
       have h2 : (vs ++ Array.replicate (fn.ntmps - vs.size) undef).getD t undef = vs[t] := by
         rw [Array.getD_eq_getD_getElem?, Array.getElem?_append_left hlt, h1]; rfl
       rw [h2]
       exact hxs.2 t v vs[t] hv h1
     dlt := hD, low := fun b hb _ => .inl hb, dom := hdom, obs := hobs
     inj := fun id id' b z z' o o' h1 h2 _ _ _ _ => hinj id id' b z z' h1 h2
     own := fun id b z h1 => ⟨(hown id b z h1).1, .inr ⟨id, z, h1⟩⟩
     kd := fun id b z o h1 _ _ => ⟨fun hx => by simp [zc7] at hx, fun _ => (hown id b z h1).2⟩
     icy := fun id h => by simp [zc7] at h
     ntb := hnb
     pin := fun id y _ hy => by show y = (μ id).getD none; rw [hy]; rfl
     gl := ⟨hg, zq4 hg, fun b ⟨n, z, hn⟩ => hgb n b z hn⟩ }
 · obtain ⟨⟨D1, μ1, S1⟩, _⟩ := hs
   have key : Sat P Q (yq9 T std rts O1 fn.results.toList s) -> a.defers = [] /\ ∃ v, (results fn a.tmps).run P w' = .ok v w' /\ ∃ v' D' μ', ylc D w μ O O1 (zqi rts) (Ending.returned v) v' w' D' μ' := fun h' => zni hT hD hdom hown hrb hpin S1 h'
   cases e with
   | normal => exact key h'
   | ret => exact key h'
   | exit id => cases h'
   | goto l => cases h'
theorem zyj {P : Program} {T : TT} {S : zn6} {lo lb : Nat -> St -> Option Ann} {n : Nat} {f : FuncId} {fn : Func} {c : Code} {xs : List AV} {O : List (Nat × Ob)} {rts : List AV} {O1 : List (Nat × Ob)} (hf : P.funcs[f]? = some fn) (hb : fn.body = some c) (hn : (fn.name == "runtime.NumGoroutine") = false)
   (hc : zc8 fn.ntmps c = true) (hx : (zbv xs.length fn.ntmps && zbv fn.ntmps 500000 && zbv fn.results.size 500000 && zkh O) = true) (hT : zcb P T) (hS : zdu P S) (hm : P.follows .mixedOrders = true) {Q : AV -> Prop} (h : Sat P Q (yv8 T std S lo lb n fn xs O rts O1)) : zb0 P f xs O (zqi rts) O1 := by
 intro D w μ vs hD hxs hdom hobs hinj hown hg hgb
 rw [Bool.and_eq_true, Bool.and_eq_true, Bool.and_eq_true] at hx
 obtain ⟨⟨⟨hx0, hnb0⟩, hrb0⟩, hpin⟩ := hx
 have hx := zbk hx0
 have hnb := zbk hnb0
 have hrb := zbk hrb0
 unfold zdv
 rw [zcn hf hn hb]
 simp only
 refine calls_of_wp hf hb ?_
 unfold yv8 at h
 split at h
 rotate_left
 · cases h
 rename_i k xs' O' hex
 unfold ye5 at hex
 split at hex
 rotate_left
 · cases hex
 rename_i id sz n0 r1
 split at hex
 rotate_left
 · cases hex
 rename_i ty sz' m get hg0
 split at hex
 rotate_left
 · cases hex
 rename_i hsz hs hfree
 obtain rfl := za4 hsz
 have hs := zcr hs
 cases hex
 have S0 : Sim w.heap.size ⟨fun b => ∃ n z, μ n = some (some (b, z)), D, fun n => (μ n).getD none⟩ w fn.ntmps (za2 (zqu 0 (.sl id sz 0 k :: r1))) (za2 O) (zc7 []) { tmps := vs ++ Array.replicate (fn.ntmps - vs.size) undef, defers := [] } w D μ := {
     os := rfl, tape := rfl, output := rfl, size := Nat.le_refl _, bs := Nat.le_refl _, old := fun _ _ _ => rfl, defers := rfl
     tmps := by
       rw [hxs.1] at hx
       simp; omega
     slots := fun t v hv => by
       have hv : za2 (zqu 0 (.sl id sz 0 k :: r1)) t = some v := hv
       rw [zee, if_pos (by omega), Nat.sub_zero] at hv
       have hlt : t < vs.size := by rw [<- hxs.1]; exact (List.getElem?_eq_some_iff.1 hv).1
       have h1 : vs[t]? = some vs[t] := by simp [hlt]
       have h2 : (vs ++ Array.replicate (fn.ntmps - vs.size) undef).getD t undef = vs[t] := by
         rw [Array.getD_eq_getD_getElem?, Array.getElem?_append_left hlt, h1]; rfl
       rw [h2]
       exact hxs.2 t v vs[t] hv h1
     dlt := hD, low := fun b hb _ => .inl hb, dom := hdom, obs := hobs
     inj := fun id id' b z z' o o' h1 h2 _ _ _ _ => hinj id id' b z z' h1 h2
     own := fun id b z h1 => ⟨(hown id b z h1).1, .inr ⟨id, z, h1⟩⟩
     kd := fun id b z o h1 _ _ => ⟨fun hx => by simp [zc7] at hx, fun _ => (hown id b z h1).2⟩
     icy := fun id h => by simp [zc7] at h
     ntb := hnb
     pin := fun id y _ hy => by show y = (μ id).getD none; rw [hy]; rfl
     gl := ⟨hg, zq4 hg, fun b ⟨n, z, hn⟩ => hgb n b z hn⟩ }
 obtain ⟨cap, μ0, hcap, S0, hext, hr0⟩ := yoo S0 (d := 600001) (by rfl) hfree hg0 (by rfl) hs (S0.slots 0 _ rfl)
 rw [<- ytw] at S0
 have h := (match h with | .all h => h cap : Sat P Q (.sup (L2 std Nat.le k cap) _))
 have h := (match h with | .sup h => h hcap)
 unfold yr8 at h
 rw [hb] at h
 refine ztz (base := w.heap.size) (M := ⟨fun b => ∃ n z, μ n = some (some (b, z)), D, fun n => (μ n).getD none⟩) (W := w) hT hS hm hc ⟨⟨D, μ0, ?_⟩, fun t b ht => by simp [za2] at ht⟩ h (fun e s a w' hs h' => ?_)
 · exact { S0 with
     slots := fun t v hv => by
       cases t with
       | zero => cases hv; exact hr0
       | succ t =>
         have : za2 (zqu 0 (.sl id sz 0 k :: r1)) (t + 1) = some v := by
           have hv : za2 (zqu 0 (.slc 600001 sz 0 k cap :: r1)) (t + 1) = some v := hv
           rw [zee, if_pos (by omega)] at hv |-
           exact hv
         exact S0.slots (t + 1) v this }
 · obtain ⟨⟨D1, μ1, S1⟩, _⟩ := hs
   have key : Sat P Q (yq9 T std rts O1 fn.results.toList s) -> a.defers = [] /\ ∃ v, (results fn a.tmps).run P w' = .ok v w' /\ ∃ v' D' μ', ylc D w μ O O1 (zqi rts) (Ending.returned v) v' w' D' μ' := fun h' => zni hT hD hdom hown hrb hpin S1 h'
   cases e with
   | normal => exact key h'
   | ret => exact key h'
   | exit id => cases h'
   | goto l => cases h'
end Sy
end Go.Proofs.YtlphgephdhadhaaGreat
namespace Go.Proofs.YtlphgephdhadhaaGreat
namespace Sy
open Go Go.RowKit
set_option maxRecDepth 100000
set_option linter.unusedSimpArgs false
section
variable {P : Program} {Q : AV -> Prop}
theorem ygt {b : Bool} {k : zck} : Sat P Q (.need b k) ↔ b = true /\ Sat P Q k := ⟨fun h => by cases h with | need h hk => exact ⟨h, hk⟩, fun h => .need h.1 h.2⟩
theorem ygu {p : Prop} {k : zck} : Sat P Q (.must p k) ↔ p /\ Sat P Q k := ⟨fun h => by cases h with | must h hk => exact ⟨h, hk⟩, fun h => .must h.1 h.2⟩
theorem ym7 {b : Bool} {t e : zck} : Sat P Q (.ite b t e) ↔ (b = true -> Sat P Q t) /\ (b = false -> Sat P Q e) := ⟨fun h => by cases h with | ite h hk => exact ⟨h, hk⟩, fun h => .ite h.1 h.2⟩
theorem ygw {r : AV} : Sat P Q (.done r) ↔ Q r := ⟨fun h => by cases h with | done h => exact h, fun h => .done h⟩
theorem ym5 : Sat P Q .yes ↔ True := ⟨fun _ => trivial, fun _ => .yes⟩
theorem yr5 {X : Type} {f : X -> zck} : Sat P Q (.ex X f) ↔ ∃ x, Sat P Q (f x) := ⟨fun h => by cases h with | ex x h => exact ⟨x, h⟩, fun ⟨x, h⟩ => .ex x h⟩
theorem ym9 {X : Type} {f : X -> zck} : Sat P Q (.all X f) ↔ ∀ x, Sat P Q (f x) := ⟨fun h => by cases h with | all h => exact h, fun h => .all h⟩
theorem ym6 {p : Prop} {k : zck} : Sat P Q (.sup p k) ↔ (p -> Sat P Q k) := ⟨fun h => by cases h with | sup h => exact h, fun h => .sup h⟩
theorem ym8 {a b : zck} : Sat P Q (.and a b) ↔ Sat P Q a /\ Sat P Q b := ⟨fun h => by cases h with | and h hk => exact ⟨h, hk⟩, fun h => .and h.1 h.2⟩
theorem ygv {n : Nat} : Sat P Q (.fail n) ↔ False := ⟨fun h => (by cases h), fun h => h.elim⟩
set_option linter.defProp false in
def syT := And.intro @ygt (And.intro @ygu (And.intro @ym7 (And.intro @ygw (And.intro @ym5 (And.intro @yr5 (And.intro @ym9 (And.intro @ym6 (And.intro @ym8 (@ygv)))))))))
end
theorem zab {P : Program} {T : TT} {S : zaa -> zn6} {lo lb : zaa -> Nat -> St -> Option Ann} (n : Nat) {f : FuncId} {fn : Func} {c : Code} {xs : List AV} {r : AV} (hf : P.funcs[f]? = some fn) (hb : fn.body = some c) (hn : (fn.name == "runtime.NumGoroutine") = false)
   (hc : zc8 fn.ntmps c = true) (hx : (zbv xs.length fn.ntmps && zbv fn.ntmps 500000) = true) (hT : zcb P T) (hS : zdu P (S std)) (hm : P.follows .mixedOrders = true)
   (h : ∀ (L : zaa) (P' : Program) (Q' : AV -> Prop), @L = @std -> P' = P -> Q' = zed r -> Sat P' Q' (yuf T L (S L) (lo L) (lb L) n fn xs)) : zaf P f xs r :=
 zsc (lo := lo std) (lb := lb std) hf hb hn hc hx hT hS hm (h std _ _ rfl rfl rfl)
theorem zau {P : Program} {T : TT} {S : zaa -> zn6} {lo lb : zaa -> Nat -> St -> Option Ann} (n : Nat) {f : FuncId} {fn : Func} {c : Code} {xs : zaa -> List AV} {r : AV} (hf : P.funcs[f]? = some fn) (hb : fn.body = some c) (hn : (fn.name == "runtime.NumGoroutine") = false)
   (hc : zc8 fn.ntmps c = true) (hx : (zbv (xs std).length fn.ntmps && zbv fn.ntmps 500000) = true) (hT : zcb P T) (hS : zdu P (S std)) (hm : P.follows .mixedOrders = true)
   (h : ∀ (L : zaa) (P' : Program) (Q' : AV -> Prop), @L = @std -> P' = P -> Q' = zed r -> Sat P' Q' (yuf T L (S L) (lo L) (lb L) n fn (xs L))) : zaf P f (xs std) r :=
 zsc (lo := lo std) (lb := lb std) hf hb hn hc hx hT hS hm (h std _ _ rfl rfl rfl)
theorem zat {P : Program} {T : TT} {S : zaa -> zn6} {lo lb : zaa -> Nat -> St -> Option Ann} (n : Nat) {f : FuncId} {fn : Func} {c : Code} {xs rts : zaa -> List AV} {O O1 : zaa -> List (Nat × Ob)} (hf : P.funcs[f]? = some fn) (hb : fn.body = some c) (hn : (fn.name == "runtime.NumGoroutine") = false)
   (hc : zc8 fn.ntmps c = true) (hx : (zbv (xs std).length fn.ntmps && zbv fn.ntmps 500000 && zbv fn.results.size 500000 && zkh (O std)) = true) (hT : zcb P T) (hS : zdu P (S std)) (hm : P.follows .mixedOrders = true)
   (h : ∀ (L : zaa) (P' : Program) (Q' : AV -> Prop), @L = @std -> P' = P -> Q' = (fun _ => True) -> Sat P' Q' (yr8 T L (S L) (lo L) (lb L) n fn (xs L) (O L) (rts L) (O1 L))) : zb0 P f (xs std) (O std) (zqi (rts std)) (O1 std) :=
 ycr (lo := lo std) (lb := lb std) hf hb hn hc hx hT hS hm (h std _ _ rfl rfl rfl)
theorem zqz {P : Program} {T : TT} {S : zaa -> zn6} {lo lb : zaa -> Nat -> St -> Option Ann} (n : Nat) {f : FuncId} {fn : Func} {c : Code} {xs rts : zaa -> List AV} {O O1 : zaa -> List (Nat × Ob)} (hf : P.funcs[f]? = some fn) (hb : fn.body = some c) (hn : (fn.name == "runtime.NumGoroutine") = false)
   (hc : zc8 fn.ntmps c = true) (hx : (zbv (xs std).length fn.ntmps && zbv fn.ntmps 500000 && zbv fn.results.size 500000 && zkh (O std)) = true) (hT : zcb P T) (hS : zdu P (S std)) (hm : P.follows .mixedOrders = true)
   (h : ∀ (L : zaa) (P' : Program) (Q' : AV -> Prop), @L = @std -> P' = P -> Q' = (fun _ => True) -> Sat P' Q' (yv8 T L (S L) (lo L) (lb L) n fn (xs L) (O L) (rts L) (O1 L))) : zb0 P f (xs std) (O std) (zqi (rts std)) (O1 std) :=
 zyj (lo := lo std) (lb := lb std) hf hb hn hc hx hT hS hm (h std _ _ rfl rfl rfl)
def noS : zaa -> zn6 := fun _ => ⟨fun _ _ => none, fun _ => none⟩
theorem zdd (P : Program) : zdu P (noS std) := ⟨fun f xs p r h => by (cases h), fun f m h => by cases h⟩
def noA : zaa -> Nat -> St -> Option Ann := fun _ _ _ => none
def tt : TT :=
 (.node (.node (.node (.node (.node (.node (.node (.node .leaf 1 ⟨1, false, [.nilf], .func, false, none, false, false⟩
        .leaf) 2 ⟨1, false, [.int .i64 0], .int .i64, false, none, false, false⟩
       (.node .leaf 3 ⟨1, false, [.int .i64 0], .int .i64, false, none, false, false⟩
        .leaf)) 4 ⟨1, false, [.bool false], .bool, false, none, false, false⟩
      (.node (.node .leaf 5 ⟨1, false, [.int .u8 0], .int .u8, false, none, false, false⟩
        .leaf) 6 ⟨1, false, [.int .u8 0], .int .u8, false, none, false, false⟩
       .leaf)) 7 ⟨4, true, [.int .i64 0, .int .i64 0, .bool false, .int .u8 0], .struct [(0, 2), (1, 3), (2, 4), (3, 6)], true, none, false, false⟩
     (.node (.node (.node .leaf 8 ⟨4, true, [.int .i64 0, .int .i64 0, .bool false, .int .u8 0], .struct [(0, 2), (1, 3), (2, 4), (3, 6)], true, none, false, false⟩
        .leaf) 9 ⟨1, false, [.str []], .str, false, none, false, false⟩
       .leaf) 10 ⟨1, false, [.str []], .str, false, none, false, false⟩
      (.node (.node .leaf 11 ⟨1, false, [.str []], .str, false, none, false, false⟩
        .leaf) 12 ⟨1, false, [.int .u64 0], .int .u64, false, none, false, false⟩
       .leaf))) 13 ⟨2, true, [.str [], .int .u64 0], .struct [(0, 9), (1, 12)], false, none, false, false⟩
    (.node (.node (.node (.node .leaf 14 ⟨2, true, [.str [], .int .u64 0], .struct [(0, 9), (1, 12)], false, none, false, false⟩
        .leaf) 15 ⟨1, false, [.nilp], .ptr, false, some 213, false, false⟩
       (.node .leaf 16 ⟨1, false, [.nilp], .ptr, false, some 216, false, false⟩
        .leaf)) 17 ⟨1, false, [.nilp], .ptr, false, some 223, false, false⟩
      (.node (.node .leaf 18 ⟨1, true, [.nilp], .struct [(0, 17)], false, none, false, false⟩
        .leaf) 19 ⟨1, true, [.nilp], .struct [(0, 17)], false, none, false, false⟩
       .leaf)) 20 ⟨1, false, [.nili], .iface, false, none, false, false⟩
     (.node (.node (.node .leaf 21 ⟨1, false, [.int .i32 0], .int .i32, false, none, false, false⟩
        .leaf) 22 ⟨1, false, [.nilf], .func, false, none, false, false⟩
       .leaf) 23 ⟨1, false, [.nils], .slice 33 18 32, false, none, false, false⟩
      (.node (.node .leaf 24 ⟨1, true, [.nils], .struct [(0, 23)], false, none, false, false⟩
        .leaf) 25 ⟨1, true, [.nils], .struct [(0, 23)], false, none, false, false⟩
       .leaf)))) 26 ⟨1, false, [.int .i64 0], .int .i64, false, none, false, false⟩
   (.node (.node (.node (.node (.node .leaf 28 ⟨1, false, [.nilf], .func, false, none, false, false⟩
        .leaf) 29 ⟨16, true, [.int .u8 0, .int .u8 0, .int .u8 0, .int .u8 0, .int .u8 0, .int .u8 0, .int .u8 0, .int .u8 0, .int .u8 0, .int .u8 0, .int .u8 0, .int .u8 0, .int .u8 0, .int .u8 0, .int .u8 0, .int .u8 0], .arr 16 5 1, true, none, false, false⟩
       (.node .leaf 30 ⟨16, true, [.int .u8 0, .int .u8 0, .int .u8 0, .int .u8 0, .int .u8 0, .int .u8 0, .int .u8 0, .int .u8 0, .int .u8 0, .int .u8 0, .int .u8 0, .int .u8 0, .int .u8 0, .int .u8 0, .int .u8 0, .int .u8 0], .arr 16 5 1, true, none, false, false⟩
        .leaf)) 31 ⟨1, false, [.nilf], .func, false, none, false, false⟩
      (.node (.node .leaf 32 ⟨18, true, [.int .u8 0, .int .u8 0, .int .u8 0, .int .u8 0, .int .u8 0, .int .u8 0, .int .u8 0, .int .u8 0, .int .u8 0, .int .u8 0, .int .u8 0, .int .u8 0, .int .u8 0, .int .u8 0, .int .u8 0, .int .u8 0, .int .i64 0, .bool false], .struct [(0, 30), (16, 3), (17, 4)], true, none, false, false⟩
        .leaf) 33 ⟨18, true, [.int .u8 0, .int .u8 0, .int .u8 0, .int .u8 0, .int .u8 0, .int .u8 0, .int .u8 0, .int .u8 0, .int .u8 0, .int .u8 0, .int .u8 0, .int .u8 0, .int .u8 0, .int .u8 0, .int .u8 0, .int .u8 0, .int .i64 0, .bool false], .struct [(0, 30), (16, 3), (17, 4)], true, none, false, false⟩
       .leaf)) 34 ⟨1, false, [.nilf], .func, false, none, false, false⟩
     (.node (.node (.node .leaf 35 ⟨1, false, [.nilf], .func, false, none, false, false⟩
        .leaf) 36 ⟨1, false, [.nils], .slice 38 3 16, false, none, false, false⟩
       .leaf) 37 ⟨3, true, [.int .u8 0, .int .u8 0, .int .i64 0], .struct [(0, 5), (1, 5), (2, 3)], true, none, false, false⟩
      (.node (.node .leaf 38 ⟨3, true, [.int .u8 0, .int .u8 0, .int .i64 0], .struct [(0, 5), (1, 5), (2, 3)], true, none, false, false⟩
        .leaf) 39 ⟨1, false, [.nilf], .func, false, none, false, false⟩
       .leaf))) 40 ⟨1, false, [.nilf], .func, false, none, false, false⟩
    (.node (.node (.node (.node .leaf 41 ⟨1, false, [.nilf], .func, false, none, false, false⟩
        .leaf) 42 ⟨1, false, [.nils], .slice 50 18 32, false, none, false, false⟩
       .leaf) 44 ⟨1, false, [.nilf], .func, false, none, false, false⟩
      (.node (.node .leaf 45 ⟨1, false, [.nilf], .func, false, none, false, false⟩
        .leaf) 46 ⟨1, false, [.nilf], .func, false, none, false, false⟩
       .leaf)) 47 ⟨1, false, [.nilf], .func, false, none, false, false⟩
     (.node (.node (.node .leaf 48 ⟨1, false, [.nilf], .func, false, none, false, false⟩
        .leaf) 49 ⟨1, false, [.nilf], .func, false, none, false, false⟩
       .leaf) 50 ⟨18, true, [.int .u8 0, .int .u8 0, .int .u8 0, .int .u8 0, .int .u8 0, .int .u8 0, .int .u8 0, .int .u8 0, .int .u8 0, .int .u8 0, .int .u8 0, .int .u8 0, .int .u8 0, .int .u8 0, .int .u8 0, .int .u8 0, .int .i64 0, .bool false], .struct [(0, 30), (16, 3), (17, 4)], true, none, false, false⟩
      (.node (.node .leaf 51 ⟨1, false, [.nilf], .func, false, none, false, false⟩
        .leaf) 53 ⟨1, false, [.nilf], .func, false, none, false, false⟩
       .leaf))))) 54 ⟨1, false, [.nilf], .func, false, none, false, false⟩
  (.node (.node (.node (.node (.node (.node .leaf 55 ⟨1, false, [.nilf], .func, false, none, false, false⟩
        .leaf) 57 ⟨1, false, [.nilf], .func, false, none, false, false⟩
       (.node .leaf 58 ⟨1, false, [.nilf], .func, false, none, false, false⟩
        .leaf)) 59 ⟨1, false, [.nilf], .func, false, none, false, false⟩
      (.node (.node .leaf 60 ⟨1, false, [.nilf], .func, false, none, false, false⟩
        .leaf) 61 ⟨1, false, [.nilf], .func, false, none, false, false⟩
       .leaf)) 62 ⟨1, false, [.nilf], .func, false, none, false, false⟩
     (.node (.node (.node .leaf 63 ⟨1, false, [.int .u64 0], .int .u64, false, none, false, false⟩
        .leaf) 64 ⟨1, false, [.nils], .slice 66 4 56, false, none, false, false⟩
       .leaf) 65 ⟨4, true, [.int .i64 0, .int .u64 0, .str [], .nils], .struct [(0, 3), (1, 63), (2, 9), (3, 64)], false, none, false, false⟩
      (.node (.node .leaf 66 ⟨4, true, [.int .i64 0, .int .u64 0, .str [], .nils], .struct [(0, 3), (1, 63), (2, 9), (3, 64)], false, none, false, false⟩
        .leaf) 68 ⟨1, false, [.nilf], .func, false, none, false, false⟩
       .leaf))) 70 ⟨1, false, [.nilf], .func, false, none, false, false⟩
    (.node (.node (.node (.node .leaf 71 ⟨1, false, [.nils], .slice 73 4 56, false, none, false, false⟩
        .leaf) 72 ⟨4, true, [.int .i64 0, .int .u64 0, .str [], .nils], .struct [(0, 3), (1, 63), (2, 9), (3, 71)], false, none, false, false⟩
       .leaf) 73 ⟨4, true, [.int .i64 0, .int .u64 0, .str [], .nils], .struct [(0, 3), (1, 63), (2, 9), (3, 71)], false, none, false, false⟩
      (.node (.node .leaf 75 ⟨1, false, [.nilf], .func, false, none, false, false⟩
        .leaf) 76 ⟨1, false, [.nilf], .func, false, none, false, false⟩
       .leaf)) 77 ⟨1, false, [.nilf], .func, false, none, false, false⟩
     (.node (.node (.node .leaf 78 ⟨1, false, [.nilf], .func, false, none, false, false⟩
        .leaf) 79 ⟨1, false, [.nils], .slice 5 1 1, false, none, false, false⟩
       .leaf) 80 ⟨1, false, [.nilf], .func, false, none, false, false⟩
      (.node (.node .leaf 81 ⟨1, false, [.nilf], .func, false, none, false, false⟩
        .leaf) 83 ⟨1, false, [.nilf], .func, false, none, false, false⟩
       .leaf)))) 84 ⟨1, false, [.nilf], .func, false, none, false, false⟩
   (.node (.node (.node (.node (.node .leaf 85 ⟨1, false, [.nilf], .func, false, none, false, false⟩
        .leaf) 86 ⟨1, false, [.nilf], .func, false, none, false, false⟩
       (.node .leaf 87 ⟨1, false, [.nilf], .func, false, none, false, false⟩
        .leaf)) 88 ⟨1, false, [.nilf], .func, false, none, false, false⟩
      (.node (.node .leaf 89 ⟨1, false, [.nilf], .func, false, none, false, false⟩
        .leaf) 91 ⟨1, false, [.nilf], .func, false, none, false, false⟩
       .leaf)) 93 ⟨1, false, [.nilf], .func, false, none, false, false⟩
     (.node (.node (.node .leaf 94 ⟨1, false, [.nilf], .func, false, none, false, false⟩
        .leaf) 95 ⟨1, false, [.nilp], .ptr, false, some 97, false, false⟩
       .leaf) 96 ⟨2, true, [.nilp, .nils], .struct [(0, 95), (1, 79)], false, none, false, false⟩
      (.node (.node .leaf 97 ⟨2, true, [.nilp, .nils], .struct [(0, 95), (1, 79)], false, none, false, true⟩
        .leaf) 98 ⟨1, false, [.nilf], .func, false, none, false, false⟩
       .leaf))) 99 ⟨1, false, [.nilf], .func, false, none, false, false⟩
    (.node (.node (.node (.node .leaf 100 ⟨1, false, [.nilf], .func, false, none, false, false⟩
        .leaf) 101 ⟨1, false, [.nilf], .func, false, none, false, false⟩
       .leaf) 102 ⟨1, false, [.nilf], .func, false, none, false, false⟩
      (.node (.node .leaf 103 ⟨1, false, [.nilf], .func, false, none, false, false⟩
        .leaf) 104 ⟨1, false, [.nilf], .func, false, none, false, false⟩
       .leaf)) 105 ⟨1, false, [.int .u64 0], .int .u64, false, none, false, false⟩
     (.node (.node (.node .leaf 106 ⟨1, false, [.nilf], .func, false, none, false, false⟩
        .leaf) 107 ⟨1, false, [.nilf], .func, false, none, false, false⟩
       .leaf) 108 ⟨1, false, [.nils], .slice 112 2 32, false, none, false, false⟩
      (.node (.node .leaf 110 ⟨1, false, [.nilf], .func, false, none, false, false⟩
        .leaf) 111 ⟨2, true, [.int .u64 0, .nils], .struct [(0, 63), (1, 64)], false, none, false, false⟩
       .leaf)))))) 112 ⟨2, true, [.int .u64 0, .nils], .struct [(0, 63), (1, 64)], false, none, false, false⟩
 (.node (.node (.node (.node (.node (.node (.node .leaf 113 ⟨1, false, [.nilf], .func, false, none, false, false⟩
        .leaf) 114 ⟨1, false, [.nili], .iface, false, none, false, false⟩
       (.node .leaf 115 ⟨1, false, [.nili], .iface, false, none, false, false⟩
        .leaf)) 116 ⟨1, false, [.nilf], .func, false, none, false, false⟩
      (.node (.node .leaf 118 ⟨1, false, [.nilf], .func, false, none, false, false⟩
        .leaf) 119 ⟨1, false, [.nilp], .ptr, false, some 5, false, false⟩
       .leaf)) 121 ⟨1, false, [.nilf], .func, false, none, false, false⟩
     (.node (.node (.node .leaf 122 ⟨1, false, [.nilf], .func, false, none, false, false⟩
        .leaf) 123 ⟨1, false, [.nilf], .func, false, none, false, false⟩
       .leaf) 124 ⟨1, false, [.nilf], .func, false, none, false, false⟩
      (.node (.node .leaf 125 ⟨1, false, [.nils], .slice 9 1 16, false, none, false, false⟩
        .leaf) 126 ⟨32, true, [.int .u8 0, .int .u8 0, .int .u8 0, .int .u8 0, .int .u8 0, .int .u8 0, .int .u8 0, .int .u8 0, .int .u8 0, .int .u8 0, .int .u8 0, .int .u8 0, .int .u8 0, .int .u8 0, .int .u8 0, .int .u8 0, .int .u8 0, .int .u8 0, .int .u8 0, .int .u8 0, .int .u8 0, .int .u8 0, .int .u8 0, .int .u8 0, .int .u8 0, .int .u8 0, .int .u8 0, .int .u8 0, .int .u8 0, .int .u8 0, .int .u8 0, .int .u8 0], .arr 32 5 1, true, none, false, false⟩
       .leaf))) 127 ⟨32, true, [.int .u8 0, .int .u8 0, .int .u8 0, .int .u8 0, .int .u8 0, .int .u8 0, .int .u8 0, .int .u8 0, .int .u8 0, .int .u8 0, .int .u8 0, .int .u8 0, .int .u8 0, .int .u8 0, .int .u8 0, .int .u8 0, .int .u8 0, .int .u8 0, .int .u8 0, .int .u8 0, .int .u8 0, .int .u8 0, .int .u8 0, .int .u8 0, .int .u8 0, .int .u8 0, .int .u8 0, .int .u8 0, .int .u8 0, .int .u8 0, .int .u8 0, .int .u8 0], .arr 32 5 1, true, none, false, false⟩
    (.node (.node (.node (.node .leaf 128 ⟨1, false, [.nilf], .func, false, none, false, false⟩
        .leaf) 129 ⟨1, false, [.nilf], .func, false, none, false, false⟩
       (.node .leaf 130 ⟨1, false, [.nilp], .ptr, false, some 152, false, false⟩
        .leaf)) 132 ⟨1, false, [.nilf], .func, false, none, false, false⟩
      (.node (.node .leaf 133 ⟨1, false, [.nilf], .func, false, none, false, false⟩
        .leaf) 134 ⟨1, false, [.nilf], .func, false, none, false, false⟩
       .leaf)) 135 ⟨1, false, [.nilf], .func, false, none, false, false⟩
     (.node (.node (.node .leaf 136 ⟨1, false, [.nilf], .func, false, none, false, false⟩
        .leaf) 137 ⟨1, false, [.nilf], .func, false, none, false, false⟩
       .leaf) 138 ⟨1, false, [.nilf], .func, false, none, false, false⟩
      (.node (.node .leaf 139 ⟨1, false, [.nilp], .other, false, none, true, false⟩
        .leaf) 140 ⟨1, false, [.nilf], .func, false, none, false, false⟩
       .leaf)))) 141 ⟨1, false, [.nilf], .func, false, none, false, false⟩
   (.node (.node (.node (.node (.node .leaf 142 ⟨1, false, [.int .u32 0], .int .u32, false, none, false, false⟩
        .leaf) 143 ⟨8, true, [.int .u32 0, .int .u32 0, .int .u32 0, .int .u32 0, .int .u32 0, .int .u32 0, .int .u32 0, .int .u32 0], .arr 8 142 1, true, none, false, false⟩
       (.node .leaf 144 ⟨1, false, [.nilf], .func, false, none, false, false⟩
        .leaf)) 145 ⟨64, true, [.int .u32 0, .int .u32 0, .int .u32 0, .int .u32 0, .int .u32 0, .int .u32 0, .int .u32 0, .int .u32 0, .int .u32 0, .int .u32 0, .int .u32 0, .int .u32 0, .int .u32 0, .int .u32 0, .int .u32 0, .int .u32 0, .int .u32 0, .int .u32 0, .int .u32 0, .int .u32 0, .int .u32 0, .int .u32 0, .int .u32 0, .int .u32 0, .int .u32 0, .int .u32 0, .int .u32 0, .int .u32 0, .int .u32 0, .int .u32 0, .int .u32 0, .int .u32 0, .int .u32 0, .int .u32 0, .int .u32 0, .int .u32 0, .int .u32 0, .int .u32 0, .int .u32 0, .int .u32 0, .int .u32 0, .int .u32 0, .int .u32 0, .int .u32 0, .int .u32 0, .int .u32 0, .int .u32 0, .int .u32 0, .int .u32 0, .int .u32 0, .int .u32 0, .int .u32 0, .int .u32 0, .int .u32 0, .int .u32 0, .int .u32 0, .int .u32 0, .int .u32 0, .int .u32 0, .int .u32 0, .int .u32 0, .int .u32 0, .int .u32 0, .int .u32 0], .arr 64 142 1, true, none, false, false⟩
      (.node (.node .leaf 146 ⟨1, false, [.nilf], .func, false, none, false, false⟩
        .leaf) 147 ⟨1, false, [.nilf], .func, false, none, false, false⟩
       .leaf)) 148 ⟨1, false, [.nilp], .ptr, false, some 145, false, false⟩
     (.node (.node (.node .leaf 149 ⟨1, false, [.nilm], .map 9 153, false, none, false, false⟩
        .leaf) 150 ⟨1, false, [.nils], .slice 159 4 48, false, none, false, false⟩
       .leaf) 151 ⟨7, true, [.int .i64 0, .nilm, .nilm, .nils, .int .i64 0, .int .i64 0, .bool false], .struct [(0, 3), (1, 149), (2, 149), (3, 150), (4, 3), (5, 3), (6, 4)], false, none, false, false⟩
      (.node (.node .leaf 152 ⟨7, true, [.int .i64 0, .nilm, .nilm, .nils, .int .i64 0, .int .i64 0, .bool false], .struct [(0, 3), (1, 149), (2, 149), (3, 150), (4, 3), (5, 3), (6, 4)], false, none, false, false⟩
        .leaf) 153 ⟨1, false, [.nilp], .ptr, false, some 156, false, false⟩
       .leaf))) 155 ⟨2, true, [.str [], .str []], .struct [(0, 9), (1, 9)], true, none, false, false⟩
    (.node (.node (.node (.node .leaf 156 ⟨2, true, [.str [], .str []], .struct [(0, 9), (1, 9)], true, none, false, false⟩
        .leaf) 157 ⟨1, false, [.nilf], .func, false, none, false, false⟩
       .leaf) 158 ⟨4, true, [.int .i64 0, .str [], .str [], .nilp], .struct [(0, 3), (1, 9), (2, 9), (3, 153)], false, none, false, false⟩
      (.node (.node .leaf 159 ⟨4, true, [.int .i64 0, .str [], .str [], .nilp], .struct [(0, 3), (1, 9), (2, 9), (3, 153)], false, none, false, false⟩
        .leaf) 161 ⟨1, false, [.nilf], .func, false, none, false, false⟩
       .leaf)) 162 ⟨1, false, [.nilf], .func, false, none, false, false⟩
     (.node (.node (.node .leaf 163 ⟨1, false, [.nils], .slice 4 1 1, false, none, false, false⟩
        .leaf) 164 ⟨1, false, [.nils], .slice 63 1 8, false, none, false, false⟩
       .leaf) 165 ⟨1, false, [.nilf], .func, false, none, false, false⟩
      (.node (.node .leaf 166 ⟨1, false, [.nilm], .map 153 4, false, none, false, false⟩
        .leaf) 167 ⟨1, false, [.nilf], .func, false, none, false, false⟩
       .leaf))))) 168 ⟨1, false, [.nilf], .func, false, none, false, false⟩
  (.node (.node (.node (.node (.node (.node .leaf 169 ⟨1, false, [.nilf], .func, false, none, false, false⟩
        .leaf) 170 ⟨1, false, [.nilf], .func, false, none, false, false⟩
       (.node .leaf 171 ⟨1, false, [.nilf], .func, false, none, false, false⟩
        .leaf)) 172 ⟨1, false, [.nilf], .func, false, none, false, false⟩
      (.node (.node .leaf 173 ⟨8, true, [.int .u64 0, .int .u64 0, .int .u64 0, .int .u64 0, .int .u64 0, .int .u64 0, .int .u64 0, .int .u64 0], .arr 8 63 1, true, none, false, false⟩
        .leaf) 174 ⟨1, false, [.nilf], .func, false, none, false, false⟩
       .leaf)) 175 ⟨1, false, [.nilf], .func, false, none, false, false⟩
     (.node (.node (.node .leaf 177 ⟨1, false, [.nilf], .func, false, none, false, false⟩
        .leaf) 178 ⟨1, false, [.nilf], .func, false, none, false, false⟩
       .leaf) 179 ⟨1, false, [.nils], .slice 142 1 4, false, none, false, false⟩
      (.node (.node .leaf 180 ⟨1, false, [.nilf], .func, false, none, false, false⟩
        .leaf) 181 ⟨1, false, [.nilf], .func, false, none, false, false⟩
       .leaf))) 183 ⟨1, false, [.nilf], .func, false, none, false, false⟩
    (.node (.node (.node (.node .leaf 184 ⟨1, false, [.nilf], .func, false, none, false, false⟩
        .leaf) 185 ⟨1, false, [.nilf], .func, false, none, false, false⟩
       .leaf) 186 ⟨1, false, [.nilf], .func, false, none, false, false⟩
      (.node (.node .leaf 187 ⟨1, false, [.nilf], .func, false, none, false, false⟩
        .leaf) 188 ⟨1, false, [.nilf], .func, false, none, false, false⟩
       .leaf)) 190 ⟨1, false, [.nilf], .func, false, none, false, false⟩
     (.node (.node (.node .leaf 192 ⟨1, false, [.nilf], .func, false, none, false, false⟩
        .leaf) 193 ⟨1, false, [.nilf], .func, false, none, false, false⟩
       .leaf) 194 ⟨1, false, [.nilf], .func, false, none, false, false⟩
      (.node (.node .leaf 195 ⟨1, false, [.int .i64 0], .int .i64, false, none, false, false⟩
        .leaf) 197 ⟨1, false, [.nilf], .func, false, none, false, false⟩
       .leaf)))) 198 ⟨1, false, [.nilf], .func, false, none, false, false⟩
   (.node (.node (.node (.node (.node .leaf 199 ⟨1, false, [.nilf], .func, false, none, false, false⟩
        .leaf) 200 ⟨1, false, [.nilf], .func, false, none, false, false⟩
       (.node .leaf 201 ⟨1, false, [.nilf], .func, false, none, false, false⟩
        .leaf)) 202 ⟨1, false, [.nilf], .func, false, none, false, false⟩
      (.node (.node .leaf 203 ⟨1, false, [.int .u64 0], .int .u64, false, none, false, false⟩
        .leaf) 204 ⟨1, false, [.nilf], .func, false, none, false, false⟩
       .leaf)) 205 ⟨1, false, [.nilf], .func, false, none, false, false⟩
     (.node (.node (.node .leaf 206 ⟨1, false, [.nilf], .func, false, none, false, false⟩
        .leaf) 207 ⟨1, false, [.nilp], .ptr, false, some 3, false, false⟩
       .leaf) 208 ⟨1, false, [.nilf], .func, false, none, false, false⟩
      (.node (.node .leaf 209 ⟨1, false, [.nilp], .ptr, false, some 203, false, false⟩
        .leaf) 211 ⟨1, false, [.nilf], .func, false, none, false, false⟩
       .leaf))) 212 ⟨4, true, [.nilp, .nilp, .nilp, .str []], .struct [(0, 17), (1, 17), (2, 17), (3, 9)], false, none, false, false⟩
    (.node (.node (.node (.node .leaf 213 ⟨4, true, [.nilp, .nilp, .nilp, .str []], .struct [(0, 17), (1, 17), (2, 17), (3, 9)], false, none, false, false⟩
        .leaf) 214 ⟨0, true, [], .arr 0 16 1, false, none, false, false⟩
       .leaf) 215 ⟨0, true, [], .struct [(0, 214)], false, none, false, false⟩
      (.node (.node .leaf 216 ⟨0, true, [], .struct [(0, 214)], false, none, false, false⟩
        .leaf) 217 ⟨1, false, [.int .u8 0], .int .u8, false, none, false, false⟩
       .leaf)) 218 ⟨1, false, [.int .u8 0], .int .u8, false, none, false, false⟩
     (.node (.node (.node .leaf 219 ⟨1, false, [.nilf], .func, false, none, false, false⟩
        .leaf) 220 ⟨1, false, [.int .i32 0], .int .i32, false, none, false, false⟩
       .leaf) 221 ⟨1, false, [.int .i32 0], .int .i32, false, none, false, false⟩
      (.node (.node .leaf 222 ⟨11, true, [.int .u64 0, .int .u64 0, .int .u32 0, .int .u8 0, .int .u8 0, .int .u8 0, .int .u8 0, .nilf, .nilp, .int .i32 0, .int .i32 0], .struct [(0, 12), (1, 12), (2, 142), (3, 217), (4, 5), (5, 5), (6, 218), (7, 219), (8, 119), (9, 220), (10, 221)], false, none, false, false⟩
        .leaf) 223 ⟨11, true, [.int .u64 0, .int .u64 0, .int .u32 0, .int .u8 0, .int .u8 0, .int .u8 0, .int .u8 0, .nilf, .nilp, .int .i32 0, .int .i32 0], .struct [(0, 12), (1, 12), (2, 142), (3, 217), (4, 5), (5, 5), (6, 218), (7, 219), (8, 119), (9, 220), (10, 221)], false, none, false, false⟩
       .leaf)))))))
theorem zah : zcb Tryz.prog tt := yll (by kernel_rfl)
end Sy
end Go.Proofs.YtlphgephdhadhaaGreat
