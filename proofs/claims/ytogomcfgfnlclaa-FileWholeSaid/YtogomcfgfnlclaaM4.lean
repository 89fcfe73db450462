/-The symbolic executor: calls that turn blocks of the caller's own. The symbolic executor: regions. The symbolic executor: regions, in the order of the text and in any; and what stands between these and the texts behind.-/
import Derived.Test.YtogomcfgfnlclaaM3
import Derived.Deep.LoopGhost
import Derived.IntWalk
namespace Go.Proofs.Ytogomcfgfnlclaa
namespace Sy
open Go Go.RowKit
set_option linter.unusedSimpArgs false
set_option linter.unusedVariables false
set_option linter.unusedSectionVars false
structure yn5 (D : Nat -> Prop) (w : World) (μ : Mu) (O O1 : List (Nat × Ob)) (r : AV) (e : Ending) (v : Value) (w' : World) (D' : Nat -> Prop) (μ' : Mu) : Prop where
 ret : e = .returned v
 os : w'.os = w.os
 tape : w'.tape = w.tape
 output : w'.output = w.output
 size : w.heap.size <= w'.heap.size
 old : ∀ b, b < w.heap.size -> (∀ n z, μ n ≠ some (some (b, z))) -> w'.heap[b]? = w.heap[b]?
 up : ∀ b, D b -> D' b
 dn : ∀ b, D' b -> D b \/ (w.heap.size <= b /\ b < w'.heap.size) \/ ∃ n z, μ n = some (some (b, z))
 dom : ∀ n, μ' n = none ↔ gx (za2 O1) n = none
 obs : ∀ n o x, gx (za2 O1) n = some o -> μ' n = some x -> zdg w'.heap D' μ' o x
 inj : ∀ n n' b z z', μ' n = some (some (b, z)) -> μ' n' = some (some (b, z')) -> n = n'
 own : ∀ n b z, μ' n = some (some (b, z)) -> b < w'.heap.size /\ ¬ D' b /\ (w.heap.size <= b \/ ∃ m z', μ m = some (some (b, z')))
 keep : ∀ n, gx (za2 O) n ≠ none -> gx (za2 O1) n ≠ none -> μ' n = μ n
 val : R w'.heap D' μ' r v
def zat (P : Program) (f : FuncId) (xs : List AV) (O : List (Nat × Ob)) (r : AV) (O1 : List (Nat × Ob)) : Prop :=
 ∀ (D : Nat -> Prop) (w : World) (μ : Mu) (vs : Array Value), (∀ b, D b -> b < w.heap.size) -> RL w.heap D μ xs vs ->
   (∀ n, μ n = none ↔ gx (za2 O) n = none) -> (∀ n o x, gx (za2 O) n = some o -> μ n = some x -> zdg w.heap D μ o x) ->
   (∀ n n' b z z', μ n = some (some (b, z)) -> μ n' = some (some (b, z')) -> n = n') -> (∀ n b z, μ n = some (some (b, z)) -> b < w.heap.size /\ ¬ D b) -> GOk w -> (∀ n b z, μ n = some (some (b, z)) -> gN <= b) ->
   zfp P f vs w fun e w' => ∃ v D' μ', yn5 D w μ O O1 r e v w' D' μ'
structure zy8 (g : Nat -> Option Ob) (c : Nat -> Bool) (raw : List AV) (F : List (Nat × Option Nat)) (fr : Nat) (T : yn4) : Prop where
 len : raw.length = T.xs.length
 xs : ∀ h D μ vs, RL h D μ raw vs -> RL h D (zfm μ F) T.xs vs
 inj : Inj F
 dom : ∀ n x, za2 F n = some x -> za2 T.O n ≠ none
 obs : ∀ n o, za2 T.O n = some o -> ∃ x, za2 F n = some x /\ match x with
   | some id => c id = false /\ ∃ o', g id = some o' /\ o' ≠ .gone /\ ∀ h D μ y, zdg h D μ o' y -> zdg h D (zfm μ F) o y
   | none => ∀ h D μ, zdg h D (zfm μ F) o none
 fresh : ∀ n o, za2 T.O1 n = some o -> (∀ id, za2 F n ≠ some (some id)) -> g (fr + n) = none
 unpin : ∀ n o, za2 T.O1 n = some o -> (∀ id, za2 F n ≠ some (some id)) -> zct (fr + n) = false
 ng : ∀ n, za2 T.O1 n ≠ some .gone
 opl : ∀ n o, za2 T.O n = some o -> n < zbv
 o1pl : ∀ n o, za2 T.O1 n = some o -> n < zbv
 tpl : ∀ n o, za2 T.O1 n = some o -> (∀ id, za2 F n ≠ some (some id)) -> fr + n < zbv /\ zau o = false
 tb : ∀ n o id, za2 T.O n = some o -> za2 F n = some (some id) -> ∃ o', g id = some o' /\ zgb o o'
 nt : ∀ n o, za2 T.O n = some o -> za2 F n = some none -> zau o = false
 tid : ∀ t o, za2 T.O t = some o -> zau o = true -> za2 F t = some (some t)
 tgo : ∀ t ty sz n len get, za2 T.O t = some (.tab ty sz n len get) -> ∃ n' len1 get1, za2 T.O1 t = some (.tab ty sz n' len1 get1) /\ n <= n'
 t1o : ∀ t o, za2 T.O1 t = some o -> zau o = true -> ∃ o', za2 T.O t = some o' /\ zau o' = true
def mOs (F : List (Nat × Option Nat)) (fr : Nat) (T : yn4) : List (Nat × Ob) := zb9 (zls F fr T.O1) (zg5 F T.O1 T.O)
theorem zea {α : Type} (os l : List (Nat × α)) (id : Nat) : za2 (zb9 os l) id = match za2 os id with | some o => some o | none => za2 l id := by
 induction os with
 | nil => rfl
 | cons x os ih =>
   obtain ⟨i, o⟩ := x
   simp only [zb9, za2]
   cases za5 i id <;> simp [ih]
def tgX (F : List (Nat × Option Nat)) (fr n : Nat) : Nat := if zb4 n = true then n else tgt F fr n
theorem zb1 {F : List (Nat × Option Nat)} {fr n : Nat} (h : n < zbv) : tgX F fr n = tgt F fr n := by unfold tgX; rw [if_neg (by rw [zaw.2 h]; decide)]
theorem zcf {F : List (Nat × Option Nat)} {fr n : Nat} (h : zb4 n = true) : tgX F fr n = n := by unfold tgX; rw [if_pos h]
section
variable {F : List (Nat × Option Nat)} {fr : Nat} {h : Array Obj} {D : Nat -> Prop} {μ μ' : Mu}
theorem ziv (hμ : ∀ n y, μ n = some y -> μ' (tgX F fr n) = some y) {x : AV} {v : Value} (r : R h D μ x v) : R h D μ' (zhl F fr x) v := by
 cases r with
 | dead v => exact .dead v
 | bool b => exact .bool b
 | int k n => exact .int k n
 | str l s e => exact .str l s e
 | flt k b => exact .flt k b
 | cpx k a b => exact .cpx k a b
 | nilp => exact .nilp
 | nilm => exact .nilm
 | nilf => exact .nilf
 | nils => exact .nils
 | nili => exact .nili
 | ifn => exact .ifn
 | ifs t p => exact .ifs t p
 | emp a cap => exact .emp a cap
 | emz a => exact .emz a
 | lst0 sz get a cap hn => exact .lst0 sz get a cap hn
 | lst sz n get b o cap vs hD hc hv h1 hr => exact .lst sz n get b o cap vs hD hc hv h1 hr
 | lstx sz n get a r => exact .lstx _ _ _ a (zs9 r)
 | iptr n get b o vs hD hv h1 hr => exact .iptr n get b o vs hD hv h1 hr
 | arr n get vs e h1 hr => exact .arr n get vs e h1 hr
 | ref id off b z m hm =>
   simp only [zhl]
   split
   · rename_i hb; exact .ref _ off b z m (by rw [<- zb1 (zan hb)]; exact hμ _ _ hm)
   · exact .dead _
 | eref id sz i off b z m hm hi =>
   simp only [zhl]
   split
   · rename_i hb; exact .eref _ sz i off b z m (by rw [<- zb1 (zan hb)]; exact hμ _ _ hm) hi
   · exact .dead _
 | slv id sz a hm =>
   simp only [zhl]
   split
   · rename_i hb; exact .slv _ sz a (by rw [<- zb1 (zan hb)]; exact hμ _ _ hm)
   · exact .dead _
 | sl0 id sz off b z m o hm ho =>
   simp only [zhl]
   split
   · rename_i hb; exact .sl0 _ sz off b z m o (by rw [<- zb1 (zan hb)]; exact hμ _ _ hm) ho
   · exact .dead _
 | sl id sz off n b z m cap hm hn hz ho =>
   simp only [zhl]
   split
   · rename_i hb; exact .sl _ sz off n b z m cap (by rw [<- zb1 (zan hb)]; exact hμ _ _ hm) hn hz ho
   · exact .dead _
 | slcv id sz a hm =>
   simp only [zhl]
   split
   · rename_i hb; exact .slcv _ sz a (by rw [<- zb1 (zan hb)]; exact hμ _ _ hm)
   · exact .dead _
 | slc0 id sz off b z m o hm ho =>
   simp only [zhl]
   split
   · rename_i hb; exact .slc0 _ sz off b z m o (by rw [<- zb1 (zan hb)]; exact hμ _ _ hm) ho
   · exact .dead _
 | slc id sz off n cap b z m hm hn hz ho =>
   simp only [zhl]
   split
   · rename_i hb; exact .slc _ sz off n cap b z m (by rw [<- zb1 (zan hb)]; exact hμ _ _ hm) hn hz ho
   · exact .dead _
 | fn f xs ys vs us e1 e2 h1 h2 =>
   simp only [zhl]
   split
   · rename_i hf; exact (zcv (.fn f xs ys vs us e1 e2 h1 h2) hf).free
   · exact .dead _
 | agg cs vs e h1 hr => exact .dead _
 | tup cs vs e hr => exact .dead _
 | mp id b z m hm =>
   simp only [zhl]
   split
   · rename_i hb; exact .mp _ b z m (by rw [<- zb1 (zan hb)]; exact hμ _ _ hm)
   · exact .dead _
 | bidx id off n i b z m hm hi =>
   simp only [zhl]
   split
   · rename_i hb; exact .bidx _ off n i b z m (by rw [<- zb1 (zan hb)]; exact hμ _ _ hm) hi
   · exact .dead _
 | mpi kk n has val b es clock kf hD hb hn hk hr => exact .mpi kk n has val b es clock kf hD hb hn hk hr
 | aer p k sz i off b z m hm hi =>
   simp only [zhl]
   split
   · rename_i hb; exact .aer _ _ _ _ _ b z m (by have := hμ _ _ hm; rwa [zcf (ze6 (zan hb) k).1] at this) hi
   · exact .dead _
 | aepn p k sz i off =>
   simp only [zhl]
   split
   · exact .aepn _ _ _ _ _
   · exact .dead _
 | aepp p k sz i off b z m hm hi =>
   simp only [zhl]
   split
   · rename_i hb; exact .aepp _ _ _ _ _ b z m (by have := hμ _ _ hm; rwa [zcf (ze6 (zan hb) k).1] at this) hi
   · exact .dead _
 | aslv p k sz a hm =>
   simp only [zhl]
   split
   · rename_i hb; exact .aslv _ _ _ a (by have := hμ _ _ hm; rwa [zcf (ze6 (zan hb) k).1] at this)
   · exact .dead _
 | asl0 p k sz off b z m o hm ho =>
   simp only [zhl]
   split
   · rename_i hb; exact .asl0 _ _ _ _ b z m o (by have := hμ _ _ hm; rwa [zcf (ze6 (zan hb) k).1] at this) ho
   · exact .dead _
 | asl p k sz off n b z m cap hm hn hz ho =>
   simp only [zhl]
   split
   · rename_i hb; exact .asl _ _ _ _ _ b z m cap (by have := hμ _ _ hm; rwa [zcf (ze6 (zan hb) k).1] at this) hn hz ho
   · exact .dead _
theorem zgk {α β : Type} (k : α -> β) (l : List α) (i : Nat) : (zcn k l)[i]? = l[i]?.map k := by
 induction l generalizing i with
 | nil => rfl
 | cons x l ih => cases i with
   | zero => rfl
   | succ i => simp [zcn, ih]
theorem zfg {α β : Type} (k : α -> β) (l : List α) : (zcn k l).length = l.length := by
 induction l with
 | nil => rfl
 | cons x l ih => simp [zcn, ih]
theorem yoj (hμ : ∀ n y, μ n = some y -> μ' (tgX F fr n) = some y) {x : AV} {v : Value} (r : R h D μ x v) : R h D μ' (yok F fr x) v := by
 unfold yok
 split
 · obtain ⟨us, rfl, o1, s1, hr⟩ := r.inv_agg
   refine .agg _ _ (by rw [zfg]; exact s1) o1 fun i x v hx hv => ?_
   rw [zgk] at hx
   obtain ⟨y, hy, rfl⟩ := Option.map_eq_some_iff.1 hx
   exact ziv hμ (hr i y v hy hv)
 · obtain ⟨us, rfl, l1, hr⟩ := r.inv_tup
   refine .tup _ _ (by rw [zfg]; exact l1) fun i x v hx hv => ?_
   rw [zgk] at hx
   obtain ⟨y, hy, rfl⟩ := Option.map_eq_some_iff.1 hx
   exact ziv hμ (hr i y v hy hv)
 · split
   · rename_i hf; exact (zcv r hf).free
   · cases r with
     | fn f xs ys vs us e1 e2 h1 h2 =>
       refine .fn _ _ _ _ _ (by rw [zfg]; exact e1) (by rw [zfg]; exact e2) (fun i x v hx hv => ?_) (fun i x v hx hv => ?_)
       · rw [zgk] at hx
         obtain ⟨y, hy, rfl⟩ := Option.map_eq_some_iff.1 hx
         exact ziv hμ (h1 i y v hy hv)
       · rw [zgk] at hx
         obtain ⟨y, hy, rfl⟩ := Option.map_eq_some_iff.1 hx
         exact ziv hμ (h2 i y v hy hv)
 · exact ziv hμ r
theorem yfo (hμ : ∀ n y, μ n = some y -> μ' (tgX F fr n) = some y) {o : Ob} {x : Option (Nat × Nat × Nat)} (k : zdg h D μ o x) : zdg h D μ' (zkd F fr o) x := by
 match o, x, k with
 | .box ty cs, some (b, z, m), ⟨c, t, q, e, r1, r2, r3, r4, r5⟩ =>
   refine ⟨c, t, q, e, r1, r2, r3, by rw [zfg]; exact r4, fun i x v hx hv => ?_⟩
   rw [zgk] at hx
   obtain ⟨y, hy, rfl⟩ := Option.map_eq_some_iff.1 hx
   exact ziv hμ (r5 i y v hy hv)
 | .row ty sz n get, some (b, z, m), k => exact k
 | .spr ty cs, some (b, z, m), ⟨c, t, q, e, r1, r2, r3, r4⟩ =>
   refine ⟨c, t, q, e, r1, r2, by rw [zfg]; exact r3, fun i x hx => ?_⟩
   rw [zgk] at hx
   obtain ⟨y, hy, rfl⟩ := Option.map_eq_some_iff.1 hx
   obtain ⟨v, v1, v2, v3⟩ := r4 i y hy
   exact ⟨v, v1, v2, ziv hμ v3⟩
 | .rowp q ty sz n get, some (b, z, m), ⟨e0, c, t, fr, k1, k2, k3, k4, k5⟩ =>
   refine ⟨e0, c, t, fr, k1, k2, k3, k4, fun i j hi hj => ?_⟩
   obtain ⟨v, v1, v2, v3⟩ := k5 i j hi hj
   refine ⟨v, v1, v2, v3.mono (fun _ _ => rfl) (fun _ h => h) (fun id x hx => ?_)⟩
   have hx2 := yas hx
   unfold pm at hx |-
   split at hx
   · rename_i hm
     rw [if_pos hm]
     have := hμ _ _ hx2
     rwa [zcf hm.1] at this
   · cases hx
 | .rowp _ _ _ n _, none, k => exact k
 | .tab _ _ _ _ _, none, _ => exact trivial
 | .map kk n has val, some (b, z), k => exact k
 | .mapq e, some (b, z), k => exact k
 | .mapp q sz l, some (b, z), ⟨r0, es, clock, kf, e, r1, r2, r3, r4⟩ =>
   refine ⟨r0, es, clock, kf, e, r1, r2, r3, fun i x hx => (r4 i x hx).mono (fun _ _ => rfl) (fun _ h => h) (fun id x hx => ?_)⟩
   have hx2 := yas hx
   unfold pm at hx |-
   split at hx
   · rename_i hm
     rw [if_pos hm]
     have := hμ _ _ hx2
     rwa [zcf hm.1] at this
   · cases hx
 | .mapr q sz l, some (b, z), ⟨r0, es, clock, kf, e, r1, r2⟩ =>
   refine ⟨r0, es, clock, kf, e, fun i x hx => ?_, r2⟩
   obtain ⟨h1, h2, h3⟩ := r1 i x hx
   refine ⟨h1.mono (fun _ _ => rfl) (fun _ h => h) (fun id x hx => ?_), h2, h3⟩
   have hx2 := yas hx
   unfold pm at hx |-
   split at hx
   · rename_i hm
     rw [if_pos hm]
     have := hμ _ _ hx2
     rwa [zcf hm.1] at this
   · cases hx
 | .mapl kk l, some (b, z), ⟨es, clock, kf, e, r1, r2, r3, r4⟩ =>
   have hm : ∀ l : List (Ky × AV), (zcn (fun x => (x.1, zhl F fr x.2)) l).map Prod.fst = l.map Prod.fst := by
     intro l
     induction l with
     | nil => rfl
     | cons x l ih => simp [zcn, ih]
   have hk : ∀ (l : List (Ky × AV)) q, zbe (zcn (fun x => (x.1, zhl F fr x.2)) l) q = (zbe l q).map (zhl F fr) := by
     intro l q
     induction l with
     | nil => rfl
     | cons x l ih => obtain ⟨k, x⟩ := x; simp only [zcn, zbe]; split <;> simp [ih]
   refine ⟨es, clock, kf, e, by rw [zfg]; exact r1, ?_, by rw [hm]; exact r3, fun i e' he' => ?_⟩
   · simp only [hk, Option.isSome_map]; exact r2
   · obtain ⟨y, y1, y2⟩ := r4 i e' he'
     exact ⟨_, by rw [hk, y1]; rfl, ziv hμ y2⟩
 | .row _ _ n _, none, k => exact k
 | .spr _ cs, none, k =>
   have k : cs = [] := k
   subst k
   rfl
 | .gone, _, _ => exact trivial
end
theorem zkn {F : List (Nat × Option Nat)} {fr : Nat} : ∀ {O1 : List (Nat × Ob)} {i : Nat} {ob : Ob}, za2 (zls F fr O1) i = some ob -> ∃ n o, (n, o) ∈ O1 /\ tgt F fr n = i /\ ob = zkd F fr o
 | [], i, ob, h => by cases h
 | (n, o) :: r, i, ob, h => by
   unfold zls za2 at h
   split at h
   · rename_i e; cases h; exact ⟨n, o, by simp, za1 e, rfl⟩
   · obtain ⟨m, o', h1, h2, h3⟩ := zkn h
     exact ⟨m, o', List.mem_cons_of_mem _ h1, h2, h3⟩
theorem znu {F : List (Nat × Option Nat)} {fr : Nat} : ∀ {O1 : List (Nat × Ob)} (_ : ∀ n n', za2 O1 n ≠ none -> za2 O1 n' ≠ none -> tgt F fr n = tgt F fr n' -> n = n') {n : Nat} {o : Ob}, za2 O1 n = some o -> za2 (zls F fr O1) (tgt F fr n) = some (zkd F fr o)
 | [], hi, n, o, h => by cases h
 | (m, o') :: r, hi, n, o, h => by
   have h0 := h
   unfold za2 at h
   unfold zls za2
   cases e : za5 m n with
   | true =>
     have := za1 e; subst this
     rw [e] at h; cases h
     simp [za3]
   | false =>
     rw [e] at h
     simp only at h
     have hne : m ≠ n := by rintro rfl; rw [za3] at e; cases e
     have : za5 (tgt F fr m) (tgt F fr n) = false := zac fun x => hne (hi m n (by simp [za2, za3]) (by rw [h0]; simp) x)
     rw [this]
     refine znu (O1 := r) (fun k k' h1 h2 h3 => hi k k' ?_ ?_ h3) h
     · unfold za2; split
       · simp
       · exact h1
     · unfold za2; split
       · simp
       · exact h2
theorem zo2 {α : Type} : ∀ {l : List (Nat × α)} {n : Nat} {o : α}, (n, o) ∈ l -> za2 l n ≠ none
 | (m, o') :: r, n, o, h => by
   unfold za2
   split
   · simp
   · rename_i e
     rcases List.mem_cons.1 h with h | h
     · cases h; rw [za3] at e; cases e
     · exact zo2 h
theorem zmq {F : List (Nat × Option Nat)} {O1 : List (Nat × Ob)} : ∀ {O : List (Nat × Ob)} {i : Nat} {ob : Ob}, za2 (zg5 F O1 O) i = some ob -> ob = .gone /\ ∃ n, za2 O n ≠ none /\ za2 O1 n = none /\ za2 F n = some (some i)
 | [], i, ob, h => by cases h
 | (n, o) :: r, i, ob, h => by
   have up : ∀ {m}, za2 r m ≠ none -> za2 ((n, o) :: r) m ≠ none := by
     intro m hm
     unfold za2
     split
     · simp
     · exact hm
   have down : za2 (zg5 F O1 r) i = some ob -> ob = .gone /\ ∃ m, za2 ((n, o) :: r) m ≠ none /\ za2 O1 m = none /\ za2 F m = some (some i) := fun h => by
     obtain ⟨h1, m, h2, h3, h4⟩ := zmq h
     exact ⟨h1, m, up h2, h3, h4⟩
   unfold zg5 at h
   split at h
   · exact down h
   · rename_i h1
     split at h
     · rename_i id hid
       unfold za2 at h
       split at h
       · rename_i e
         cases h
         exact ⟨rfl, n, by simp [za2, za3], h1, by rw [hid, za1 e]⟩
       · exact down h
     · exact down h
theorem zl5 {F : List (Nat × Option Nat)} {O1 : List (Nat × Ob)} : ∀ {O : List (Nat × Ob)} {n i : Nat}, za2 O n ≠ none -> za2 O1 n = none -> za2 F n = some (some i) -> za2 (zg5 F O1 O) i = some .gone
 | [], n, i, h, _, _ => by simp [za2] at h
 | (m, o) :: r, n, i, h, h1, h2 => by
   unfold zg5
   unfold za2 at h
   cases e : za5 m n with
   | true =>
     have := za1 e; subst this
     rw [h1, h2]
     simp [za2, za3]
   | false =>
     rw [e] at h
     have ih := zl5 (O := r) h h1 h2
     split
     · exact ih
     · split
       · unfold za2; split
         · rfl
         · exact ih
       · exact ih
section
variable {P : Program} {base : Nat} {M : Two} {W : World} {nt : Nat} {f : Nat -> Option AV} {g : Nat -> Option Ob} {c : Nat -> Bool} {a : Act} {w : World} {D : Nat -> Prop} {μ : Mu}
variable {raw : List AV} {F : List (Nat × Option Nat)} {fr : Nat} {T : yn4}
theorem zy8.tgt_inj (hm : zy8 g c raw F fr T) : ∀ n n', za2 T.O1 n ≠ none -> za2 T.O1 n' ≠ none -> tgt F fr n = tgt F fr n' -> n = n' := by
 have key : ∀ n n' id, za2 T.O1 n' ≠ none -> za2 F n = some (some id) -> (∀ id, za2 F n' ≠ some (some id)) -> id ≠ fr + n' := by
   intro n n' id h1 h2 h3 e
   obtain ⟨o, ho⟩ := Option.ne_none_iff_exists'.1 (hm.dom n _ h2)
   obtain ⟨x, hx, hx2⟩ := hm.obs n o ho
   rw [h2] at hx; cases hx
   obtain ⟨_, o', ho', _⟩ := hx2
   obtain ⟨o1, ho1⟩ := Option.ne_none_iff_exists'.1 h1
   rw [e, hm.fresh n' o1 ho1 h3] at ho'
   cases ho'
 have no : ∀ {n}, ¬ (∃ id, za2 F n = some (some id)) -> (∀ id, za2 F n ≠ some (some id)) /\ tgt F fr n = fr + n := by
   intro n h
   refine ⟨fun id e => h ⟨id, e⟩, ?_⟩
   unfold tgt
   split
   · rename_i id e; exact absurd ⟨id, e⟩ h
   · rfl
 have yes : ∀ {n id}, za2 F n = some (some id) -> tgt F fr n = id := by
   intro n id h; unfold tgt; rw [h]
 intro n n' h1 h2 h3
 by_cases e : ∃ id, za2 F n = some (some id) <;> by_cases e' : ∃ id, za2 F n' = some (some id)
 · obtain ⟨id, e⟩ := e
   obtain ⟨id', e'⟩ := e'
   rw [yes e, yes e'] at h3
   subst h3
   exact hm.inj _ _ _ e e'
 · obtain ⟨id, e⟩ := e
   obtain ⟨q1, q2⟩ := no e'
   rw [yes e, q2] at h3
   exact absurd h3 (key n n' id h2 e q1)
 · obtain ⟨id, e'⟩ := e'
   obtain ⟨q1, q2⟩ := no e
   rw [yes e', q2] at h3
   exact absurd h3.symm (key n' n id h1 e' q1)
 · rw [(no e).2, (no e').2] at h3
   omega
theorem zpl {o : Ob} : zau (zkd F fr o) = zau o := by cases o <;> rfl
theorem zgb.mem {o o' : Ob} (h : zgb o o') (k : Nat) : (zdx (some o) k = none ↔ zdx (some o') k = none) /\ ∀ r, zdx (some o) k = some r -> ∃ ty sz m get get', r = .row ty sz m get /\ zdx (some o') k = some (.row ty sz m get') /\ ∀ i j, i < m -> j < sz -> get' i j = get i j := by
 cases e : zau o with
 | false =>
   have e' := h.1
   rw [e] at e'
   rw [zc9 (o := some o) (fun x hx => by cases hx; exact e), zc9 (o := some o') (fun x hx => by cases hx; exact e')]
   exact ⟨Iff.rfl, fun r hr => by cases hr⟩
 | true =>
   cases o with
   | tab ty sz n len get =>
     obtain ⟨len', get', rfl, q1, q2⟩ := h.2 ty sz n len get rfl
     simp only [zdx]
     by_cases hk : k < n
     · rw [if_pos hk, if_pos hk]
       refine ⟨⟨fun h => (by cases h), fun h => (by cases h)⟩, fun r hr => ?_⟩
       cases hr
       exact ⟨ty, sz, len k, get k, get' k, rfl, by rw [q1 k hk], fun i j hi hj => q2 k i j hk hi hj⟩
     · rw [if_neg hk, if_neg hk]
       exact ⟨Iff.rfl, fun r hr => by cases hr⟩
   | _ => cases e
def gF (F : List (Nat × Option Nat)) (O : Nat -> Option Ob) (n : Nat) : Option (Option Nat) := if zb4 n = true then (match gx O n with | some _ => some (some n) | none => none) else za2 F n
structure MX (w : World) (D : Nat -> Prop) (μ : Mu) (c : Nat -> Bool) (G G' : Nat -> Option Ob) (mu : Mu) (GF : Nat -> Option (Option Nat)) (TG : Nat -> Nat) (O O1 : Nat -> Option Ob) (ren : Ob -> Ob) : Prop where
 muF : ∀ n, mu n = match GF n with | some (some id) => μ id | some none => some none | none => none
 inj : ∀ t t' id, GF t = some (some id) -> GF t' = some (some id) -> t = t'
 dom : ∀ n x, GF n = some x -> O n ≠ none
 obs : ∀ n o, O n = some o -> ∃ x, GF n = some x /\ match x with
   | some id => c id = false /\ ∃ o', G id = some o' /\ o' ≠ .gone /\ ∀ y, zdg w.heap D μ o' y -> zdg w.heap D mu o y
   | none => zdg w.heap D mu o none
 tgF : ∀ n id, GF n = some (some id) -> TG n = id
 fresh : ∀ n o, O1 n = some o -> (∀ id, GF n ≠ some (some id)) -> G (TG n) = none /\ zct (TG n) = false
 tin : ∀ n n', O1 n ≠ none -> O1 n' ≠ none -> TG n = TG n' -> n = n'
 g1 : ∀ n o, O1 n = some o -> G' (TG n) = some (ren o)
 g2 : ∀ i, (¬ ∃ n, O1 n ≠ none /\ TG n = i) -> (∃ n, O n ≠ none /\ O1 n = none /\ GF n = some (some i)) -> G' i = some .gone
 g3 : ∀ i, (¬ ∃ n, O1 n ≠ none /\ TG n = i) -> (¬ ∃ n, O n ≠ none /\ O1 n = none /\ GF n = some (some i)) -> G' i = G i
theorem zy8.isTab_O (hm : zy8 g c raw F fr T) {n k : Nat} {o r : Ob} (ho : za2 T.O n = some o) (hr : zdx (some o) k = some r) : zau o = true := by
 cases e : zau o with
 | true => rfl
 | false => rw [zc9 (o := some o) (fun x hx => by cases hx; exact e)] at hr; cases hr
theorem zy8.toX (hm : zy8 g c raw F fr T) (h : Sim base M W nt f g c a w D μ) : MX w D μ c (gx g) (gx (zb7 g (mOs F fr T))) (zfm μ F) (gF F (za2 T.O)) (tgX F fr) (gx (za2 T.O)) (gx (za2 T.O1)) (zkd F fr) /\ Plain (zb7 g (mOs F fr T)) := by
 have tin := hm.tgt_inj
 have gv : ∀ t o, za2 T.O t = some o -> zau o = true -> za2 F t = some (some t) /\ ∃ o', g t = some o' /\ zgb o o' := fun t o ho ht => by
   have hF := hm.tid t o ho ht
   exact ⟨hF, hm.tb t o t ho hF⟩
 have tg : ∀ t o, za2 T.O t = some o -> zau o = true -> ∃ o1, za2 T.O1 t = some o1 /\ zau o1 = true /\ ∀ k, zdx (some o1) k = none -> zdx (some o) k = none := fun t o ho ht => by
   cases o with
   | tab ty sz n len get =>
     obtain ⟨n', len1, get1, q1, q2⟩ := hm.tgo t ty sz n len get ho
     refine ⟨_, q1, rfl, fun k hk => ?_⟩
     simp only [zdx] at hk |-
     split at hk
     · cases hk
     · rw [if_neg (by omega)]
   | _ => cases ht
 have pln : ∀ id o, g id = some o -> id < zbv := fun id o ho => (h.tbs id o ho).1
 have nomid : ∀ {i}, i < zbv -> ¬ zb4 i = true := fun hi => by rw [zaw.2 hi]; decide
 have gxm : ∀ (G : Nat -> Option Ob) {i}, zb4 i = true -> gx G i = zdx (G (zgg i)) (zp1 i) := fun G i hi => by unfold gx; rw [if_pos hi]
 have tgP : ∀ n o, za2 T.O1 n = some o -> tgt F fr n < zbv := fun n o ho => by
   unfold tgt
   split
   · rename_i id hid
     obtain ⟨o0, ho0⟩ := Option.ne_none_iff_exists'.1 (hm.dom n _ hid)
     obtain ⟨o', q, _⟩ := hm.tb n o0 id ho0 hid
     exact pln _ _ q
   · rename_i hno
     exact (hm.tpl n o ho (fun id e => hno id e)).1
 have gFp : ∀ {n}, ¬ zb4 n = true -> gF F (za2 T.O) n = za2 F n := fun hn => by unfold gF; rw [if_neg hn]
 have gFm : ∀ {n}, zb4 n = true -> gF F (za2 T.O) n = match gx (za2 T.O) n with | some _ => some (some n) | none => none := fun hn => by unfold gF; rw [if_pos hn]
 have hos1 : ∀ n o, za2 T.O1 n = some o -> zb7 g (mOs F fr T) (tgt F fr n) = some (zkd F fr o) := by
   intro n o ho
   unfold zb7 mOs
   rw [zea, znu tin ho]
 have hos2 : ∀ i, (¬ ∃ n, za2 T.O1 n ≠ none /\ tgt F fr n = i) -> (∃ n, za2 T.O n ≠ none /\ za2 T.O1 n = none /\ za2 F n = some (some i)) -> zb7 g (mOs F fr T) i = some .gone := by
   rintro i hn ⟨n, h1, h2, h3⟩
   unfold zb7 mOs
   rw [zea]
   cases e : za2 (zls F fr T.O1) i with
   | some ob =>
     obtain ⟨m, o, q1, q2, _⟩ := zkn e
     exact absurd ⟨m, zo2 q1, q2⟩ hn
   | none => simp only; rw [zl5 h1 h2 h3]
 have hos3 : ∀ i, (¬ ∃ n, za2 T.O1 n ≠ none /\ tgt F fr n = i) -> (¬ ∃ n, za2 T.O n ≠ none /\ za2 T.O1 n = none /\ za2 F n = some (some i)) -> zb7 g (mOs F fr T) i = g i := by
   intro i hn hn2
   unfold zb7 mOs
   rw [zea]
   cases e : za2 (zls F fr T.O1) i with
   | some ob =>
     obtain ⟨m, o, q1, q2, _⟩ := zkn e
     exact absurd ⟨m, zo2 q1, q2⟩ hn
   | none =>
     simp only
     cases e2 : za2 (zg5 F T.O1 T.O) i with
     | none => rfl
     | some ob => exact absurd (zmq e2).2 hn2
 have mem3 : ∀ t k, (∀ o, za2 T.O1 t = some o -> zau o = false) -> zdx (zb7 g (mOs F fr T) t) k = zdx (g t) k := by
   intro t k hno
   by_cases e1 : ∃ n, za2 T.O1 n ≠ none /\ tgt F fr n = t
   · obtain ⟨n, hn, rfl⟩ := e1
     obtain ⟨o, ho⟩ := Option.ne_none_iff_exists'.1 hn
     rw [hos1 n o ho]
     have hot : zau o = false := by
       cases e : zau o with
       | false => rfl
       | true =>
         obtain ⟨o', q1, q2⟩ := hm.t1o n o ho e
         have hF := hm.tid n o' q1 q2
         have ht : tgt F fr n = n := by unfold tgt; rw [hF]
         rw [ht] at hno
         rw [hno o ho] at e; cases e
     rw [zc9 (o := some (zkd F fr o)) (fun x hx => by cases hx; rw [zpl]; exact hot)]
     by_cases e2 : ∃ id, za2 F n = some (some id)
     · obtain ⟨id, hid⟩ := e2
       have ht : tgt F fr n = id := by unfold tgt; rw [hid]
       obtain ⟨o0, ho0⟩ := Option.ne_none_iff_exists'.1 (hm.dom n _ hid)
       obtain ⟨o', q1, q2⟩ := hm.tb n o0 id ho0 hid
       rw [ht, q1]
       have h0 : zau o0 = false := by
         cases e : zau o0 with
         | false => rfl
         | true =>
           obtain ⟨o1, r1, r2, _⟩ := tg n o0 ho0 e
           rw [ho] at r1; cases r1
           rw [hot] at r2; cases r2
       have := q2.1
       rw [h0] at this
       exact (zc9 (o := some o') (fun x hx => by cases hx; exact this) k).symm
     · have hno2 : ∀ id, za2 F n ≠ some (some id) := fun id e => e2 ⟨id, e⟩
       have ht : tgt F fr n = fr + n := by
         unfold tgt
         split
         · rename_i id e; exact absurd e (hno2 id)
         · rfl
       rw [ht, hm.fresh n o ho hno2]
       rfl
   · by_cases e2 : ∃ n, za2 T.O n ≠ none /\ za2 T.O1 n = none /\ za2 F n = some (some t)
     · rw [hos2 t e1 e2]
       obtain ⟨n, h1, h2, h3⟩ := e2
       obtain ⟨o0, ho0⟩ := Option.ne_none_iff_exists'.1 h1
       obtain ⟨o', q1, q2⟩ := hm.tb n o0 t ho0 h3
       rw [q1]
       have h0 : zau o0 = false := by
         cases e : zau o0 with
         | false => rfl
         | true =>
           obtain ⟨o1, r1, _⟩ := tg n o0 ho0 e
           rw [h2] at r1; cases r1
       have := q2.1
       rw [h0] at this
       exact (zc9 (o := some o') (fun x hx => by cases hx; exact this) k).symm
     · rw [hos3 t e1 e2]
 refine ⟨⟨fun n => ?_, fun t t' id h1 h2 => ?_, fun n x hx => ?_, fun n o ho => ?_, fun n id hid => ?_, fun n o ho hno => ?_, fun n n' h1 h2 h3 => ?_, fun n o ho => ?_, fun i h1 h2 => ?_, fun i h1 h2 => ?_⟩, fun id o ho => ?_⟩
 · by_cases hn : zb4 n = true
   · rw [gFm hn]
     unfold zfm
     rw [if_pos hn]
     have e := gxm (za2 T.O) hn
     cases ho : za2 T.O (zgg n) with
     | none =>
       rw [ho] at e
       rw [show gx (za2 T.O) n = none from e]
       simp only
       rw [if_neg]
       intro hF
       exact hm.dom _ _ hF ho
     | some o =>
       rw [ho] at e
       cases ht : zau o with
       | true =>
         obtain ⟨hF, o', q1, q2⟩ := gv _ o ho ht
         rw [if_pos hF]
         cases hx : gx (za2 T.O) n with
         | some _ => rfl
         | none =>
           simp only
           rw [h.domx n, gxm g hn, q1]
           rw [e] at hx
           exact (q2.mem _).1.1 hx
       | false =>
         have e0 : gx (za2 T.O) n = none := by rw [e]; exact zc9 (fun x hx => by cases hx; exact ht) _
         rw [e0]
         simp only
         split
         · rename_i hF
           obtain ⟨o', q1, q2⟩ := hm.tb _ o _ ho hF
           have := q2.1
           rw [ht] at this
           rw [h.domx n, gxm g hn, q1]
           exact zc9 (fun x hx => by cases hx; exact this) _
         · rfl
   · rw [gFp hn, zgf (by have := mt zcu.2 hn; omega)]; rfl
 · have key : ∀ t id, zb4 t = true -> gF F (za2 T.O) t = some (some id) -> id = t := fun t id ht e => by
     rw [gFm ht] at e
     split at e
     · cases e; rfl
     · cases e
   have pk : ∀ t id, ¬ zb4 t = true -> gF F (za2 T.O) t = some (some id) -> id < zbv := fun t id ht e => by
     rw [gFp ht] at e
     obtain ⟨o, ho⟩ := Option.ne_none_iff_exists'.1 (hm.dom t _ e)
     obtain ⟨o', q, _⟩ := hm.tb t o id ho e
     exact pln _ _ q
   by_cases e1 : zb4 t = true <;> by_cases e2 : zb4 t' = true
   · rw [<- key t id e1 h1, <- key t' id e2 h2]
   · have q1 := key t id e1 h1
     have q2 := pk t' id e2 h2
     rw [q1] at q2
     exact absurd e1 (nomid q2)
   · have q1 := key t' id e2 h2
     have q2 := pk t id e1 h1
     rw [q1] at q2
     exact absurd e2 (nomid q2)
   · rw [gFp e1] at h1
     rw [gFp e2] at h2
     exact hm.inj _ _ _ h1 h2
 · by_cases hn : zb4 n = true
   · rw [gFm hn] at hx
     intro e
     rw [e] at hx; cases hx
   · rw [gFp hn] at hx
     obtain ⟨o, ho⟩ := Option.ne_none_iff_exists'.1 (hm.dom n _ hx)
     rw [zab (by simpa using hn), ho]; simp
 · by_cases hn : zb4 n = true
   · rw [gFm hn, ho]
     refine ⟨some n, rfl, h.icm n hn, ?_⟩
     rw [gxm (za2 T.O) hn] at ho
     cases ho0 : za2 T.O (zgg n) with
     | none => rw [ho0] at ho; cases ho
     | some o0 =>
       rw [ho0] at ho
       obtain ⟨hF, o', q1, q2⟩ := gv _ o0 ho0 (hm.isTab_O ho0 ho)
       obtain ⟨ty, sz, m, get, get', rfl, r1, r2⟩ := (q2.mem _).2 o ho
       refine ⟨_, by rw [gxm g hn, q1]; exact r1, by simp, fun y k => ?_⟩
       match y, k with
       | none, k => exact k
       | some (b, z, m'), ⟨e0, cc, t, fr', k1, k2, k3, k4, k5⟩ =>
         exact ⟨e0, cc, t, fr', k1, k2, k3, k4, fun i j hi hj => by
           obtain ⟨v, v1, v2, v3⟩ := k5 i j hi hj
           exact ⟨v, v1, v2, by rw [<- r2 i j hi hj]; exact v3⟩⟩
   · rw [zab (by simpa using hn)] at ho
     obtain ⟨x, hx, hx2⟩ := hm.obs n o ho
     rw [gFp hn]
     refine ⟨x, hx, ?_⟩
     cases x with
     | none => exact hx2 _ _ _
     | some id =>
       obtain ⟨c1, o', q1, q2, q3⟩ := hx2
       exact ⟨c1, o', h.tbs.up q1, q2, fun y => q3 _ _ _ y⟩
 · by_cases hn : zb4 n = true
   · rw [gFm hn] at hid
     rw [zcf hn]
     split at hid
     · cases hid; rfl
     · cases hid
   · rw [gFp hn] at hid
     rw [zb1 (by have := mt zcu.2 hn; omega)]
     unfold tgt; rw [hid]
 · by_cases hn : zb4 n = true
   · rw [zcf hn]
     refine ⟨?_, zi0 (Nat.le_trans zov (zcu.1 hn))⟩
     have ho2 := ho
     rw [gxm (za2 T.O1) hn] at ho
     cases ho1 : za2 T.O1 (zgg n) with
     | none => rw [ho1] at ho; cases ho
     | some o1 =>
       rw [ho1] at ho
       obtain ⟨o0, q1, q2⟩ := hm.t1o _ o1 ho1 (by
         cases e : zau o1 with
         | true => rfl
         | false => rw [zc9 (o := some o1) (fun x hx => by cases hx; exact e)] at ho; cases ho)
       obtain ⟨hF, o', r1, r2⟩ := gv _ o0 q1 q2
       rw [gxm g hn, r1]
       refine (r2.mem _).1.1 ?_
       have hz : gx (za2 T.O) n = none := by
         cases hz : gx (za2 T.O) n with
         | none => rfl
         | some y => exact absurd (by rw [gFm hn, hz]) (hno n)
       rw [gxm (za2 T.O) hn, q1] at hz
       exact hz
   · have hlt : n < zbv := by have := mt zcu.2 hn; omega
     rw [zab (by simpa using hn)] at ho
     have hno' : ∀ id, za2 F n ≠ some (some id) := fun id e => hno id (by rw [gFp hn]; exact e)
     have ht : tgt F fr n = fr + n := by
       unfold tgt
       split
       · rename_i id e; exact absurd e (hno' id)
       · rfl
     rw [zb1 hlt, ht, zab (zaw.2 (hm.tpl n o ho hno').1)]
     exact ⟨hm.fresh n o ho hno', hm.unpin n o ho hno'⟩
 · by_cases e1 : zb4 n = true <;> by_cases e2 : zb4 n' = true
   · rw [zcf e1, zcf e2] at h3; exact h3
   · rw [zab (by simpa using e2)] at h2
     obtain ⟨o, ho⟩ := Option.ne_none_iff_exists'.1 h2
     rw [zcf e1, zb1 (hm.o1pl n' o ho)] at h3
     have := tgP n' o ho
     rw [<- h3] at this
     exact absurd e1 (nomid this)
   · rw [zab (by simpa using e1)] at h1
     obtain ⟨o, ho⟩ := Option.ne_none_iff_exists'.1 h1
     rw [zcf e2, zb1 (hm.o1pl n o ho)] at h3
     have := tgP n o ho
     rw [h3] at this
     exact absurd e2 (nomid this)
   · rw [zab (by simpa using e1)] at h1
     rw [zab (by simpa using e2)] at h2
     obtain ⟨o, ho⟩ := Option.ne_none_iff_exists'.1 h1
     obtain ⟨o', ho'⟩ := Option.ne_none_iff_exists'.1 h2
     rw [zb1 (hm.o1pl n o ho), zb1 (hm.o1pl n' o' ho')] at h3
     exact tin n n' h1 h2 h3
 · by_cases hn : zb4 n = true
   · have ho2 := ho
     rw [gxm (za2 T.O1) hn] at ho
     cases ho1 : za2 T.O1 (zgg n) with
     | none => rw [ho1] at ho; cases ho
     | some o1 =>
       rw [ho1] at ho
       have ht1 : zau o1 = true := by
         cases e : zau o1 with
         | true => rfl
         | false => rw [zc9 (o := some o1) (fun x hx => by cases hx; exact e)] at ho; cases ho
       obtain ⟨o0, q1, q2⟩ := hm.t1o _ o1 ho1 ht1
       have hF := hm.tid _ o0 q1 q2
       have htg : tgt F fr (zgg n) = zgg n := by unfold tgt; rw [hF]
       have := hos1 _ o1 ho1
       rw [htg] at this
       rw [zcf hn, gxm _ hn, this]
       cases o1 with
       | tab ty sz m len get =>
         simp only [zkd]
         rw [ho]
         simp only [zdx] at ho
         split at ho
         · cases ho; rfl
         · cases ho
       | _ => cases ht1
   · rw [zab (by simpa using hn)] at ho
     rw [zb1 (hm.o1pl n o ho), zab (zaw.2 (tgP n o ho))]
     exact hos1 n o ho
 · obtain ⟨n, k1, k2, k3⟩ := h2
   by_cases hn : zb4 n = true
   · exfalso
     rw [gxm (za2 T.O1) hn] at k2
     rw [gxm (za2 T.O) hn] at k1
     cases ho0 : za2 T.O (zgg n) with
     | none => rw [ho0] at k1; exact k1 rfl
     | some o0 =>
       rw [ho0] at k1
       obtain ⟨r, hr⟩ := Option.ne_none_iff_exists'.1 k1
       obtain ⟨o1, r1, r2, r3⟩ := tg _ o0 ho0 (hm.isTab_O ho0 hr)
       rw [r1] at k2
       exact k1 (r3 _ k2)
   · rw [zab (by simpa using hn)] at k1 k2
     rw [gFp hn] at k3
     obtain ⟨o0, ho0⟩ := Option.ne_none_iff_exists'.1 k1
     obtain ⟨o', q1, _⟩ := hm.tb n o0 i ho0 k3
     have hi := pln _ _ q1
     rw [zab (zaw.2 hi)]
     refine hos2 i (fun ⟨m, m1, m2⟩ => h1 ⟨m, ?_, ?_⟩) ⟨n, k1, k2, k3⟩
     · obtain ⟨o, ho⟩ := Option.ne_none_iff_exists'.1 m1
       rw [zab (zaw.2 (hm.o1pl m o ho))]; exact m1
     · obtain ⟨o, ho⟩ := Option.ne_none_iff_exists'.1 m1
       rw [zb1 (hm.o1pl m o ho)]; exact m2
 · by_cases hi : zb4 i = true
   · rw [gxm _ hi, gxm g hi]
     by_cases ht : ∃ o, za2 T.O1 (zgg i) = some o /\ zau o = true
     · obtain ⟨o1, q1, q2⟩ := ht
       obtain ⟨o0, r1, r2⟩ := hm.t1o _ o1 q1 q2
       obtain ⟨hF, o', s1, s2⟩ := gv _ o0 r1 r2
       have htg : tgt F fr (zgg i) = zgg i := by unfold tgt; rw [hF]
       have hp := hos1 _ o1 q1
       rw [htg] at hp
       have hz : zdx (some o1) (zp1 i) = none := by
         cases hz : zdx (some o1) (zp1 i) with
         | none => rfl
         | some y =>
           refine absurd ⟨i, ?_, zcf hi⟩ h1
           rw [gxm (za2 T.O1) hi, q1, hz]; simp
       rw [hp, s1]
       cases o1 with
       | tab ty sz m len get =>
         simp only [zkd]
         rw [hz]
         obtain ⟨o1', t1, t2, t3⟩ := tg _ o0 r1 r2
         rw [q1] at t1; cases t1
         exact ((s2.mem _).1.1 (t3 _ hz)).symm
       | _ => cases q2
     · refine mem3 _ _ fun o ho => ?_
       cases e : zau o with
       | false => rfl
       | true => exact absurd ⟨o, ho, e⟩ ht
   · have hlt : i < zbv := by have := mt zcu.2 hi; omega
     rw [zab (zaw.2 hlt), zab (zaw.2 hlt)]
     refine hos3 i (fun ⟨m, m1, m2⟩ => h1 ⟨m, ?_, ?_⟩) (fun ⟨n, k1, k2, k3⟩ => h2 ⟨n, ?_, ?_, ?_⟩)
     · obtain ⟨o, ho⟩ := Option.ne_none_iff_exists'.1 m1
       rw [zab (zaw.2 (hm.o1pl m o ho))]; exact m1
     · obtain ⟨o, ho⟩ := Option.ne_none_iff_exists'.1 m1
       rw [zb1 (hm.o1pl m o ho)]; exact m2
     · obtain ⟨o, ho⟩ := Option.ne_none_iff_exists'.1 k1
       rw [zab (zaw.2 (hm.opl n o ho))]; exact k1
     · obtain ⟨o, ho⟩ := Option.ne_none_iff_exists'.1 k1
       rw [zab (zaw.2 (hm.opl n o ho))]; exact k2
     · obtain ⟨o, ho⟩ := Option.ne_none_iff_exists'.1 k1
       rw [gFp (nomid (hm.opl n o ho))]; exact k3
 · by_cases e1 : ∃ n, za2 T.O1 n ≠ none /\ tgt F fr n = id
   · obtain ⟨n, hn, rfl⟩ := e1
     obtain ⟨o1, ho1⟩ := Option.ne_none_iff_exists'.1 hn
     rw [hos1 n o1 ho1] at ho
     cases ho
     refine ⟨tgP n o1 ho1, fun ht => ?_⟩
     rw [zpl] at ht
     obtain ⟨o0, q1, q2⟩ := hm.t1o n o1 ho1 ht
     obtain ⟨hF, o', r1, r2⟩ := gv _ o0 q1 q2
     have htg : tgt F fr n = n := by unfold tgt; rw [hF]
     rw [htg]
     exact (h.tbs n o' r1).2 (r2.1.trans q2)
   · by_cases e2 : ∃ n, za2 T.O n ≠ none /\ za2 T.O1 n = none /\ za2 F n = some (some id)
     · rw [hos2 id e1 e2] at ho
       cases ho
       obtain ⟨n, k1, k2, k3⟩ := e2
       obtain ⟨o0, ho0⟩ := Option.ne_none_iff_exists'.1 k1
       obtain ⟨o', q1, _⟩ := hm.tb n o0 id ho0 k3
       exact ⟨pln _ _ q1, fun h => by cases h⟩
     · rw [hos3 id e1 e2] at ho
       exact h.tbs id o ho
theorem MX.asks {G' : Nat -> Option Ob} {mu : Mu} {GF : Nat -> Option (Option Nat)} {TG : Nat -> Nat} {O O1 : Nat -> Option Ob} {ren : Ob -> Ob} (hm : MX w D μ c (gx g) G' mu GF TG O O1 ren) (h : Sim base M W nt f g c a w D μ) :
   (∀ n, mu n = none ↔ O n = none) /\ (∀ n o x, O n = some o -> mu n = some x -> zdg w.heap D mu o x) /\
   (∀ n n' b z z', mu n = some (some (b, z)) -> mu n' = some (some (b, z')) -> n = n') /\ (∀ n b z, mu n = some (some (b, z)) -> b < w.heap.size /\ ¬ D b /\ ∃ id o, GF n = some (some id) /\ μ id = some (some (b, z)) /\ gx g id = some o /\ o ≠ .gone /\ c id = false) := by
 have own : ∀ n b z, mu n = some (some (b, z)) -> ∃ id o, GF n = some (some id) /\ μ id = some (some (b, z)) /\ gx g id = some o /\ o ≠ .gone /\ c id = false := by
   intro n b z hn
   rw [hm.muF] at hn
   split at hn
   · rename_i id hid
     obtain ⟨o, ho⟩ := Option.ne_none_iff_exists'.1 (hm.dom n _ hid)
     obtain ⟨x, hx, hx2⟩ := hm.obs n o ho
     rw [hid] at hx; cases hx
     obtain ⟨c1, o', ho', ho2, _⟩ := hx2
     exact ⟨id, o', hid, hn, ho', ho2, c1⟩
   · cases hn
   · cases hn
 refine ⟨fun n => ⟨fun hn => ?_, fun hn => ?_⟩, fun n o x ho hx => ?_, fun n n' b z z' h1 h2 => ?_, fun n b z h1 => ?_⟩
 · refine Classical.byContradiction fun hne => ?_
   obtain ⟨o, ho⟩ := Option.ne_none_iff_exists'.1 hne
   obtain ⟨x, hx, hx2⟩ := hm.obs n o ho
   rw [hm.muF] at hn
   rw [hx] at hn
   cases x with
   | none => cases hn
   | some id =>
     obtain ⟨_, o', ho', _⟩ := hx2
     rw [(h.domx id).1 hn] at ho'
     cases ho'
 · rw [hm.muF]
   split
   · rename_i e; exact absurd hn (hm.dom n _ e)
   · rename_i e; exact absurd hn (hm.dom n _ e)
   · rfl
 · obtain ⟨y, hy, hy2⟩ := hm.obs n o ho
   rw [hm.muF] at hx
   rw [hy] at hx
   cases y with
   | none => cases hx; exact hy2
   | some id =>
     obtain ⟨_, o', ho', _, ho3⟩ := hy2
     exact ho3 _ (h.obsx id o' x ho' hx)
 · obtain ⟨id, o, q1, q2, q3, q4, q5⟩ := own n b z h1
   obtain ⟨id', o', r1, r2, r3, r4, r5⟩ := own n' b z' h2
   have := h.injx id id' b z z' o o' q2 r2 q3 r3 q4 r4
   subst this
   exact hm.inj _ _ _ q1 r1
 · obtain ⟨id, o, q1, q2, q3, q4, q5⟩ := own n b z h1
   exact ⟨(h.own id b z q2).1, (h.kdx id b z o q2 q3 q4).2 q5, id, o, q1, q2, q3, q4, q5⟩
open Classical in
noncomputable def muM (μ μ1 : Mu) (TG : Nat -> Nat) (O1 : Nat -> Option Ob) : Mu := fun i =>
 if e : ∃ n, O1 n ≠ none /\ TG n = i then μ1 (Classical.choose e) else μ i
theorem yl0 {TG : Nat -> Nat} {O1 : Nat -> Option Ob} (tin : ∀ n n', O1 n ≠ none -> O1 n' ≠ none -> TG n = TG n' -> n = n') (μ1 : Mu) {n : Nat} (hn : O1 n ≠ none) : muM μ μ1 TG O1 (TG n) = μ1 n := by
 unfold muM
 have e : ∃ m, O1 m ≠ none /\ TG m = TG n := ⟨n, hn, rfl⟩
 rw [dif_pos e]
 have := Classical.choose_spec e
 rw [tin _ _ this.1 hn this.2]
theorem ybh {μ1 : Mu} {TG : Nat -> Nat} {O1 : Nat -> Option Ob} {i : Nat} (hn : ¬ ∃ n, O1 n ≠ none /\ TG n = i) : muM μ μ1 TG O1 i = μ i := by
 unfold muM; rw [dif_neg hn]
theorem Sim.mcall (h : Sim base M W nt f g c a w D μ) (hm : zy8 g c raw F fr T) {e : Ending} {v : Value} {w' : World} {D' : Nat -> Prop} {μ1 : Mu} (he : yn5 D w (zfm μ F) T.O T.O1 T.r e v w' D' μ1) :
   ∃ μ', Sim base M W nt f (zb7 g (mOs F fr T)) c a w' D' μ' /\ R w'.heap D' μ' (yok F fr T.r) v := by
 obtain ⟨hX, hpl⟩ := hm.toX h
 obtain ⟨a1, a2, a3, a4⟩ := hX.asks h
 have tin := hX.tin
 obtain ⟨μ', hμ'⟩ : ∃ μ', μ' = muM μ μ1 (tgX F fr) (gx (za2 T.O1)) := ⟨_, rfl⟩
 have m1 : ∀ n, gx (za2 T.O1) n ≠ none -> μ' (tgX F fr n) = μ1 n := fun n hn => by rw [hμ']; exact yl0 tin μ1 hn
 have m2 : ∀ i, (¬ ∃ n, gx (za2 T.O1) n ≠ none /\ tgX F fr n = i) -> μ' i = μ i := fun i hn => by rw [hμ']; exact ybh hn
 have m3 : ∀ n y, μ1 n = some y -> μ' (tgX F fr n) = some y := fun n y hy => by
   rw [m1 n (fun e => by rw [(he.dom n).2 e] at hy; cases hy), hy]
 have ext : ∀ id x, μ id = some x -> μ' id = some x := by
   intro id x hx
   by_cases e : ∃ n, gx (za2 T.O1) n ≠ none /\ tgX F fr n = id
   · obtain ⟨n, hn, rfl⟩ := e
     rw [m1 n hn]
     by_cases e2 : ∃ id, gF F (za2 T.O) n = some (some id)
     · obtain ⟨id, hid⟩ := e2
       have ht : tgX F fr n = id := hX.tgF n id hid
       rw [ht] at hx
       rw [he.keep n (hX.dom n _ hid) hn]
       rw [hX.muF n, hid]; exact hx
     · have hno : ∀ id, gF F (za2 T.O) n ≠ some (some id) := fun id e => e2 ⟨id, e⟩
       obtain ⟨o, ho⟩ := Option.ne_none_iff_exists'.1 hn
       rw [(h.domx _).2 (hX.fresh n o ho hno).1] at hx
       cases hx
   · rw [m2 id e]; exact hx
 have alive : ∀ i o, gx (zb7 g (mOs F fr T)) i = some o -> o ≠ .gone -> (∃ n o1, gx (za2 T.O1) n = some o1 /\ tgX F fr n = i /\ o = zkd F fr o1) \/ (gx g i = some o /\ μ' i = μ i /\ ∀ n, gF F (za2 T.O) n ≠ some (some i)) := by
   intro i o ho hng
   by_cases e : ∃ n, gx (za2 T.O1) n ≠ none /\ tgX F fr n = i
   · obtain ⟨n, hn, rfl⟩ := e
     obtain ⟨o1, ho1⟩ := Option.ne_none_iff_exists'.1 hn
     rw [hX.g1 n o1 ho1] at ho
     cases ho
     exact .inl ⟨n, o1, ho1, rfl, rfl⟩
   · by_cases e2 : ∃ n, gx (za2 T.O) n ≠ none /\ gx (za2 T.O1) n = none /\ gF F (za2 T.O) n = some (some i)
     · rw [hX.g2 i e e2] at ho; cases ho; exact absurd rfl hng
     · rw [hX.g3 i e e2] at ho
       refine .inr ⟨ho, m2 i e, fun n hn => ?_⟩
       by_cases e3 : gx (za2 T.O1) n = none
       · exact e2 ⟨n, hX.dom n _ hn, e3, hn⟩
       · exact e ⟨n, e3, hX.tgF n i hn⟩
 have other : ∀ i o b z, gx g i = some o -> o ≠ .gone -> μ i = some (some (b, z)) -> (∀ n, gF F (za2 T.O) n ≠ some (some i)) -> ∀ n z', zfm μ F n ≠ some (some (b, z')) := by
   intro i o b z hi hng hb hno n z' hn
   obtain ⟨_, _, id, o', q1, q2, q3, q4, q5⟩ := a4 n b z' hn
   have := h.injx i id b z z' o o' hb q2 hi q3 hng q4
   subst this
   exact hno n q1
 have hD : ∀ b, D b -> w'.heap[b]? = w.heap[b]? := fun b hb => he.old b (h.dlt b hb) fun n z hn => (a4 n b z hn).2.1 hb
 refine ⟨μ', ?_, yoj m3 he.val⟩
 exact {
   os := he.os.trans h.os
   tape := he.tape.trans h.tape
   output := he.output.trans h.output
   size := Nat.le_trans h.size he.size
   bs := Nat.le_trans h.bs he.size
   old := fun b h1 h2 => (he.old b (by have := h.bs; omega) fun n z hn => by
     obtain ⟨_, _, id, o', q1, q2, _⟩ := a4 n b z hn
     rcases (h.own id b z q2).2 with q | q
     · omega
     · exact h2 q).trans (h.old b h1 h2)
   defers := h.defers
   tmps := h.tmps
   slots := fun t v hv => (h.slots t v hv).mono hD he.up ext
   dlt := fun b hb => by
     rcases he.dn b hb with q | q | ⟨n, z, q⟩
     · exact Nat.lt_of_lt_of_le (h.dlt b q) he.size
     · exact q.2
     · exact Nat.lt_of_lt_of_le (a4 n b z q).1 he.size
   low := fun b hb hlt => by
     rcases he.dn b hb with q | q | ⟨n, z, q⟩
     · exact h.low b q hlt
     · have := h.bs; omega
     · obtain ⟨_, _, id, o', q1, q2, _⟩ := a4 n b z q
       rcases (h.own id b z q2).2 with q | q
       · omega
       · exact .inr q
   domx := fun i => by
     by_cases e : ∃ n, gx (za2 T.O1) n ≠ none /\ tgX F fr n = i
     · obtain ⟨n, hn, rfl⟩ := e
       obtain ⟨o1, ho1⟩ := Option.ne_none_iff_exists'.1 hn
       rw [m1 n hn, hX.g1 n o1 ho1, he.dom n, ho1]
       simp
     · rw [m2 i e]
       by_cases e2 : ∃ n, gx (za2 T.O) n ≠ none /\ gx (za2 T.O1) n = none /\ gF F (za2 T.O) n = some (some i)
       · rw [hX.g2 i e e2]
         obtain ⟨n, h1, h2, h3⟩ := e2
         obtain ⟨o, ho⟩ := Option.ne_none_iff_exists'.1 h1
         obtain ⟨x, hx, hx2⟩ := hX.obs n o ho
         rw [h3] at hx; cases hx
         obtain ⟨_, o', ho', _⟩ := hx2
         rw [h.domx i, ho']; simp
       · rw [hX.g3 i e e2]; exact h.domx i
   obsx := fun i o x ho hx => by
     by_cases hg : o = .gone
     · subst hg; cases x <;> exact trivial
     rcases alive i o ho hg with ⟨n, o1, q1, rfl, rfl⟩ | ⟨q1, q2, q3⟩
     · rw [m1 n (by rw [q1]; simp)] at hx
       exact yfo m3 (he.obs n o1 x q1 hx)
     · rw [q2] at hx
       exact (h.obsx i o x q1 hx).mono hD he.up ext (fun b z hx2 _ => he.old b (h.own i b z (by rw [hx, hx2])).1 (other i o b z q1 hg (by rw [hx, hx2]) q3))
   injx := fun i i' b z z' o o' h1 h2 h3 h4 h5 h6 => by
     rcases alive i o h3 h5 with ⟨n, o1, q1, rfl, rfl⟩ | ⟨q1, q2, q3⟩ <;> rcases alive i' o' h4 h6 with ⟨n', o1', q1', rfl, rfl⟩ | ⟨q1', q2', q3'⟩
     · rw [m1 n (by rw [q1]; simp)] at h1
       rw [m1 n' (by rw [q1']; simp)] at h2
       rw [he.inj n n' b z z' h1 h2]
     · rw [m1 n (by rw [q1]; simp)] at h1
       rw [q2'] at h2
       rcases (he.own n b z h1).2.2 with q | ⟨m, z2, q⟩
       · have := (h.own i' b z' h2).1; omega
       · exact absurd q (other i' o' b z' q1' h6 h2 q3' m z2)
     · rw [m1 n' (by rw [q1']; simp)] at h2
       rw [q2] at h1
       rcases (he.own n' b z' h2).2.2 with q | ⟨m, z2, q⟩
       · have := (h.own i b z h1).1; omega
       · exact absurd q (other i o b z q1 h5 h1 q3 m z2)
     · rw [q2] at h1; rw [q2'] at h2
       exact h.injx i i' b z z' o o' h1 h2 q1 q1' h5 h6
   own := fun i b z h1 => by
     by_cases e : ∃ n, gx (za2 T.O1) n ≠ none /\ tgX F fr n = i
     · obtain ⟨n, hn, rfl⟩ := e
       rw [m1 n hn] at h1
       obtain ⟨k1, k2, k3⟩ := he.own n b z h1
       refine ⟨k1, ?_⟩
       rcases k3 with q | ⟨m, z2, q⟩
       · have := h.bs; exact .inl (by omega)
       · obtain ⟨_, _, id, o', q1, q2, _⟩ := a4 m b z2 q
         exact (h.own id b z2 q2).2
     · rw [m2 i e] at h1
       exact ⟨Nat.lt_of_lt_of_le (h.own i b z h1).1 he.size, (h.own i b z h1).2⟩
   kdx := fun i b z o h1 h2 h3 => by
     rcases alive i o h2 h3 with ⟨n, o1, q1, rfl, rfl⟩ | ⟨q1, q2, q3⟩
     · rw [m1 n (by rw [q1]; simp)] at h1
       have k := (he.own n b z h1).2.1
       have hc : c (tgX F fr n) = false := by
         by_cases e2 : ∃ id, gF F (za2 T.O) n = some (some id)
         · obtain ⟨id, hid⟩ := e2
           have ht : tgX F fr n = id := hX.tgF n id hid
           obtain ⟨o, ho⟩ := Option.ne_none_iff_exists'.1 (hX.dom n _ hid)
           obtain ⟨x, hx, hx2⟩ := hX.obs n o ho
           rw [hid] at hx; cases hx
           rw [ht]; exact hx2.1
         · have hno : ∀ id, gF F (za2 T.O) n ≠ some (some id) := fun id e => e2 ⟨id, e⟩
           cases hc : c (tgX F fr n) with
           | false => rfl
           | true => exact absurd (hX.fresh n o1 q1 hno).1 (h.icyx _ hc)
       exact ⟨fun hx => (by rw [hc] at hx; cases hx), fun _ => k⟩
     · rw [q2] at h1
       obtain ⟨k1, k2⟩ := h.kdx i b z o h1 q1 h3
       refine ⟨fun hc => he.up b (k1 hc), fun hc hd => ?_⟩
       rcases he.dn b hd with q | q | ⟨n, z2, q⟩
       · exact k2 hc q
       · have := (h.own i b z h1).1; omega
       · exact other i o b z q1 h3 h1 q3 n z2 q
   ntb := h.ntb
   gl := h.gl
   tbs := hpl
   icm := h.icm
   mems := fun id y h1 h2 => ext _ _ (h.mems id y h1 h2)
   pin := fun i y hp hy => by
     by_cases e : ∃ n, gx (za2 T.O1) n ≠ none /\ tgX F fr n = i
     · obtain ⟨n, hn, rfl⟩ := e
       by_cases e2 : ∃ id, gF F (za2 T.O) n = some (some id)
       · obtain ⟨id, hid⟩ := e2
         have ht : tgX F fr n = id := hX.tgF n id hid
         rw [m1 n hn, he.keep n (hX.dom n _ hid) hn] at hy
         rw [hX.muF n, hid] at hy
         rw [ht] at hp |-
         exact h.pin id y hp hy
       · have hno : ∀ id, gF F (za2 T.O) n ≠ some (some id) := fun id e => e2 ⟨id, e⟩
         obtain ⟨o1, ho1⟩ := Option.ne_none_iff_exists'.1 hn
         rw [(hX.fresh n o1 ho1 hno).2] at hp; cases hp
     · rw [m2 i e] at hy; exact h.pin i y hp hy
   icyx := fun i hi => by
     have := h.icyx i hi
     by_cases e : ∃ n, gx (za2 T.O1) n ≠ none /\ tgX F fr n = i
     · obtain ⟨n, hn, rfl⟩ := e
       obtain ⟨o1, ho1⟩ := Option.ne_none_iff_exists'.1 hn
       rw [hX.g1 n o1 ho1]; simp
     · by_cases e2 : ∃ n, gx (za2 T.O) n ≠ none /\ gx (za2 T.O1) n = none /\ gF F (za2 T.O) n = some (some i)
       · rw [hX.g2 i e e2]; simp
       · rw [hX.g3 i e e2]; exact this }
end
theorem zez {α : Type} : ∀ (xs : List α) (i t : Nat), za2 (zwt i xs) t = if i <= t then xs[t - i]? else none
 | [], i, t => by simp [zwt, za2]
 | x :: xs, i, t => by
   unfold zwt za2
   cases e : za5 i t with
   | true => have := za1 e; subst this; simp
   | false =>
     have hne : i ≠ t := by rintro rfl; rw [za3] at e; cases e
     simp only
     rw [zez xs (i + 1) t]
     by_cases h : i <= t
     · rw [if_pos (by omega), if_pos h]
       obtain ⟨k, hk⟩ : ∃ k, t - i = k + 1 := ⟨t - i - 1, by omega⟩
       rw [hk, show t - (i + 1) = k by omega]
       simp
     · rw [if_neg (by omega), if_neg h]
theorem zdc {objs : List (Nat × Ob)} {F : List (Nat × Option Nat)} {fr : Nat} : ∀ {O1 : List (Nat × Ob)}, zit objs F fr O1 = true -> ∀ n o, za2 O1 n = some o -> (∀ id, za2 F n ≠ some (some id)) -> za2 objs (fr + n) = none /\ zct (fr + n) = false /\ zb4 (fr + n) = false /\ zau o = false
 | [], _, n, o, h, _ => by cases h
 | (m, o') :: r, e, n, o, h, hno => by
   unfold zit at e
   unfold za2 at h
   split at e
   · rename_i id hid
     split at h
     · rename_i hb
       rw [za1 hb] at hid
       exact absurd hid (hno id)
     · exact zdc e n o h hno
   · split at e
     · rename_i hf hp hm ht
       split at h
       · rename_i hb; rw [za1 hb] at hf hp hm; cases h; exact ⟨hf, hp, hm, ht⟩
       · exact zdc e n o h hno
     · cases e
theorem zfi : ∀ {O : List (Nat × Ob)}, ynl O = true -> ∀ n o, za2 O n = some o -> n < zbv
 | [], _, n, o, h => by cases h
 | (m, o') :: r, e, n, o, h => by
   unfold ynl at e
   unfold za2 at h
   split at e
   · rename_i hb
     split at h
     · rename_i he; rw [<- za1 he]; exact zan hb
     · exact zfi e n o h
   · cases e
theorem zqh {O1 : List (Nat × Ob)} {t ty' sz' n' : Nat} {len' : Nat -> Nat} {get' : Nat -> Nat -> Nat -> AV} (h1 : za2 O1 t = some (.tab ty' sz' n' len' get')) : ∀ {O : List (Nat × Ob)} {ty sz n : Nat} {len : Nat -> Nat} {get : Nat -> Nat -> Nat -> AV}, za2 O t = some (.tab ty sz n len get) -> (n <= n') ∈ zqi O1 O
 | [], _, _, _, _, _, h => by cases h
 | (m, o') :: r, ty, sz, n, len, get, h => by
   unfold za2 at h
   split at h
   · rename_i he
     have := za1 he; subst this
     cases h
     unfold zqi
     rw [h1]
     exact List.mem_cons_self ..
   · have ih := zqh h1 (O := r) h
     unfold zqi
     split
     · rename_i q; cases q
     · rename_i q; cases q
       split
       · exact List.mem_cons_of_mem _ ih
       · exact ih
     · rename_i q; cases q; exact ih
theorem zf6 {O1 : List (Nat × Ob)} : ∀ {O : List (Nat × Ob)}, tabsOk.tabsOk1 O O1 = true -> ∀ {t ty sz n : Nat} {len : Nat -> Nat} {get : Nat -> Nat -> Nat -> AV}, za2 O t = some (.tab ty sz n len get) -> ∃ n' len' get', za2 O1 t = some (.tab ty sz n' len' get')
 | [], _, _, _, _, _, _, _, h => by cases h
 | (m, o') :: r, e, t, ty, sz, n, len, get, h => by
   unfold tabsOk.tabsOk1 at e
   unfold za2 at h
   split at e
   · rename_i q; cases q
   · rename_i q; cases q
     split at e
     · rename_i hO
       split at e
       · rename_i h1 h2
         split at h
         · rename_i he
           have := za1 he; subst this
           cases h
           rw [<- za1 h1, <- za1 h2] at hO
           exact ⟨_, _, _, hO⟩
         · exact zf6 e h
       · cases e
     · cases e
   · rename_i hno q; cases q
     split at e
     · cases e
     · split at h
       · cases h
         exact (hno _ _ _ _ _ rfl).elim
       · exact zf6 e h
theorem zh1 {F : List (Nat × Option Nat)} : ∀ {O : List (Nat × Ob)}, tabsOk.tabsOk2 F O = true -> ∀ {t : Nat} {o : Ob}, za2 O t = some o -> zau o = true -> za2 F t = some (some t)
 | [], _, _, _, h, _ => by cases h
 | (m, o') :: r, e, t, o, h, ht => by
   unfold tabsOk.tabsOk2 at e
   unfold za2 at h
   split at e
   · rename_i q; cases q
   · rename_i q; cases q
     split at e
     · rename_i x hx
       split at e
       · rename_i hi
         split at h
         · rename_i he
           have := za1 he; subst this
           rw [hx, zsd hi]
         · exact zh1 e h ht
       · cases e
     · cases e
   · rename_i hno q; cases q
     split at h
     · cases h
       cases o' <;> first | exact (hno _ _ _ _ _ _ rfl).elim | cases ht
     · exact zh1 e h ht
theorem zbr : ∀ {O1 : List (Nat × Ob)}, zu2 O1 = true -> ∀ n, za2 O1 n ≠ some .gone
 | [], _, n => by simp [za2]
 | (m, o) :: r, e, n => by
   unfold za2
   unfold zu2 at e
   cases o with
   | gone => cases e
   | box _ _ =>
     split
     · simp
     · exact zbr e n
   | row _ _ _ _ =>
     split
     · simp
     · exact zbr e n
   | spr _ _ =>
     split
     · simp
     · exact zbr e n
   | map _ _ _ _ =>
     split
     · simp
     · exact zbr e n
   | mapl _ _ =>
     split
     · simp
     · exact zbr e n
   | mapq _ =>
     split
     · simp
     · exact zbr e n
   | mapp _ _ _ =>
     split
     · simp
     · exact zbr e n
   | mapr _ _ _ =>
     split
     · simp
     · exact zbr e n
   | rowp _ _ _ _ _ =>
     split
     · simp
     · exact zbr e n
   | tab _ _ _ _ _ =>
     split
     · simp
     · exact zbr e n
theorem ygd {s : St} {raw : List AV} {T : yn4} {m : zcm} {fr : Nat} (e : yl3 s raw T = some m) (hf : zit s.objs m.ids fr T.O1 = true) (hp : ∀ p, p ∈ m.ps -> p) : zy8 (za2 s.objs) (zbp s.ice) raw m.ids fr T := by
 unfold yl3 at e
 split at e
 · rename_i hlen
   have hlen := za1 hlen
   rw [zai, zai] at hlen
   split at e
   · rename_i m1 e1
     split at e
     · rename_i m2 e2
       split at e
       · rename_i h3 h4 h5 h6
         cases e
         rw [Bool.and_eq_true] at h6
         unfold tabsOk at h5
         rw [Bool.and_eq_true, Bool.and_eq_true] at h5
         rw [zae] at hp
         have x1 := fun h D μ a => zef (h := h) (D := D) (μ := μ) (a := a) e1
         have x2 := fun h D μ => ze2 (h := h) (D := D) (μ := μ) e2
         have F0 : Fin m2 m2.ids := ⟨fun _ _ h => h, fun p hh => hp p (List.mem_append_right _ hh)⟩
         have X1 := (x1 #[] (fun _ => False) zar ⟨#[], []⟩).1
         have X2 := (x2 #[] (fun _ => False) zar).1
         have k0 := fun n o ho => (x2 #[] (fun _ => False) zar).2 m2.ids F0 n o ho
         refine { len := hlen, xs := fun h D μ vs hr => ?_, inj := X2.inj (X1.inj (fun t t' id h1 h2 => by have q1 := zhk h1; have q2 := zhk h2; cases q1; cases q2; rfl)), dom := fun n x hx => zl0 h3 n x hx, obs := fun n o ho => ?_, fresh := fun n o h1 h2 => (zdc hf n o h1 h2).1, unpin := fun n o h1 h2 => (zdc hf n o h1 h2).2.1, ng := zbr h4, opl := zfi h6.1, o1pl := zfi h6.2, tpl := fun n o h1 h2 => ⟨zaw.1 (zdc hf n o h1 h2).2.2.1, (zdc hf n o h1 h2).2.2.2⟩, tb := fun n o id ho hF => (k0 n o ho).tb id hF, nt := fun n o ho hF => (k0 n o ho).nt hF, tid := fun t o ho ht => zh1 h5.2.2 ho ht, tgo := fun t ty sz n len get ho => ?_, t1o := fun t o ho ht => ?_ }
         · refine ⟨by rw [<- hlen]; exact hr.1, fun i x v hx hv => ?_⟩
           have := (x1 h D μ ⟨vs, []⟩).2 m2.ids (F0.of X2) (fun t u hu => by
             rw [zez, if_pos (by omega), Nat.sub_zero] at hu
             have hlt : t < vs.size := by rw [<- hr.1]; exact (List.getElem?_eq_some_iff.1 hu).1
             have h1 : vs[t]? = some vs[t] := by simp [hlt]
             have h2 : vs.getD t undef = vs[t] := by rw [Array.getD_eq_getD_getElem?, h1]; rfl
             rw [h2]
             exact hr.2 t u _ hu h1) i x (by rw [zez, if_pos (by omega), Nat.sub_zero]; exact hx)
           have h2 : vs.getD i undef = v := by rw [Array.getD_eq_getD_getElem?, hv]; rfl
           rw [h2] at this
           exact this
         · obtain ⟨x, hx, _⟩ := (k0 n o ho).pair
           refine ⟨x, hx, ?_⟩
           cases x with
           | none =>
             intro h D μ
             obtain ⟨y, hy, hy2⟩ := ((x2 h D μ).2 m2.ids F0 n o ho).pair
             rw [hx] at hy; cases hy; exact hy2
           | some id =>
             have hh := fun h D μ => ((x2 h D μ).2 m2.ids F0 n o ho).pair
             obtain ⟨y, hy, hy2⟩ := hh #[] (fun _ => False) zar
             rw [hx] at hy; cases hy
             obtain ⟨q1, o', q2, q3, _⟩ := hy2
             refine ⟨?_, o', q2, q3, fun h D μ z hz => ?_⟩
             · cases hc : zbp s.ice id with
               | false => rfl
               | true => exact absurd (q1 hc) (by simp [zbp])
             · obtain ⟨y, hy, hy2⟩ := hh h D μ
               rw [hx] at hy; cases hy
               obtain ⟨_, o2, r2, _, r4⟩ := hy2
               rw [q2] at r2; cases r2
               exact r4 z hz
         · obtain ⟨n', len', get', q⟩ := zf6 h5.1 ho
           exact ⟨n', len', get', q, hp _ (List.mem_append_left _ (zqh q ho))⟩
         · cases o with
           | tab ty sz n len get =>
             obtain ⟨n', len', get', q⟩ := zf6 h5.2.1 ho
             exact ⟨_, q, rfl⟩
           | _ => cases ht
       · cases e
     · cases e
   · cases e
 · cases e
def yj3 (P : Program) (f : Nat -> Option AV) (g : Nat -> Option Ob) (c : Nat -> Bool) (o : Oper) (v : AV) (os : List (Nat × Ob)) : Prop :=
 ∃ fo xs ts k first caps zs F fr T, o.op = .call { callee := .value fo, args := xs, argTypes := ts } /\ zcn (evf f []) (zbu o.op) = .fn k first caps :: zs /\ zat P k T.xs T.O T.r T.O1 /\
   zy8 g c (zb9 first (zb9 zs caps)) F fr T /\ v = yok F fr T.r /\ os = mOs F fr T
theorem zo9 : ∀ {os : List (Nat × Ob)} {id : Nat}, za2 os id ≠ none -> id ∈ keys os
 | [], id, h => by simp [za2] at h
 | (i, o) :: r, id, h => by
   unfold za2 at h
   unfold keys
   split at h
   · rename_i e; rw [za1 e]; simp
   · exact List.mem_cons_of_mem _ (zo9 h)
theorem zy8.congr {g g' : Nat -> Option Ob} {c c' : Nat -> Bool} {raw : List AV} {F : List (Nat × Option Nat)} {fr : Nat} {T : yn4} (hm : zy8 g c raw F fr T) (hg : ∀ id, id ∈ keys (mOs F fr T) -> g' id = g id) (hc : ∀ id, id ∈ keys (mOs F fr T) -> c' id = c id) : zy8 g' c' raw F fr T := by
 have tin := hm.tgt_inj
 have k1 : ∀ n, za2 T.O1 n ≠ none -> tgt F fr n ∈ keys (mOs F fr T) := by
   intro n hn
   obtain ⟨o1, ho1⟩ := Option.ne_none_iff_exists'.1 hn
   refine zo9 ?_
   unfold mOs
   rw [zea, znu tin ho1]; simp
 have k2 : ∀ n id, za2 F n = some (some id) -> id ∈ keys (mOs F fr T) := by
   intro n id hid
   by_cases e : za2 T.O1 n = none
   · refine zo9 ?_
     unfold mOs
     rw [zea]
     cases za2 (zls F fr T.O1) id with
     | some _ => simp
     | none => simp only; rw [zl5 (hm.dom n _ hid) e hid]; simp
   · have := k1 n e
     unfold tgt at this
     rwa [hid] at this
 refine { len := hm.len, xs := hm.xs, inj := hm.inj, dom := hm.dom, obs := fun n o ho => ?_, fresh := fun n o ho hno => ?_, unpin := hm.unpin, ng := hm.ng, opl := hm.opl, o1pl := hm.o1pl, tpl := hm.tpl, tb := fun n o id ho hF => by rw [hg id (k2 n id hF)]; exact hm.tb n o id ho hF, nt := hm.nt, tid := hm.tid, tgo := hm.tgo, t1o := hm.t1o }
 · obtain ⟨x, hx, hx2⟩ := hm.obs n o ho
   refine ⟨x, hx, ?_⟩
   cases x with
   | none => exact hx2
   | some id =>
     have := k2 n id hx
     show c' id = false /\ ∃ o', g' id = some o' /\ _
     rw [hg id this, hc id this]
     exact hx2
 · have : tgt F fr n = fr + n := by
     unfold tgt
     split
     · rename_i id e; exact absurd e (hno id)
     · rfl
   have k := k1 n (by rw [ho]; simp)
   rw [this] at k
   rw [hg _ k]
   exact hm.fresh n o ho hno
section
variable {P : Program} {base : Nat} {M : Two} {W : World} {nt : Nat} {f : Nat -> Option AV} {g : Nat -> Option Ob} {c : Nat -> Bool} {a : Act} {w : World} {D : Nat -> Prop} {μ : Mu} {o : Oper}
theorem yte (h : Sim base M W nt f g c a w D μ) (hd : ∀ d, o.dst = some d -> d < nt) (hpl : ∀ x ∈ zbu o.op, ∀ v, x = .const v -> zho v = true) {v : AV} {os : List (Nat × Ob)} (hh : yj3 P f g c o v os) : Adv P base M W nt f g c o a w v os [] := by
 obtain ⟨fo, xs, ts, k, first, caps, zs, F, fr, T, e, hvals, hM, hm, rfl, rfl⟩ := hh
 have hv : ∀ l : List Operand, (∀ x ∈ l, ∀ v, x = .const v -> zho v = true) -> Ops w.heap D μ a l (zcn (evf f []) l) := by
   intro l
   induction l with
   | nil => intro _; trivial
   | cons x l ih => intro hp; exact ⟨ym3 h (fun t b ht => by simp [za2] at ht) x (fun v hv => hp x (by simp) v hv), ih (fun y hy => hp y (by simp [hy]))⟩
 have hv := hv _ hpl
 rw [hvals] at hv
 rw [e] at hv
 simp only [zbu] at hv
 obtain ⟨hf, hv⟩ := hv
 intro K Q hK
 obtain ⟨o1, o2⟩ := znq hv
 obtain ⟨vs, us, hfv, e1, e2, r1, r2⟩ : ∃ vs us, a.eval fo = .func (.func k) vs us /\ first.length = vs.size /\ caps.length = us.size /\ (∀ (i : Nat) x v, first[i]? = some x -> vs[i]? = some v -> R w.heap D μ x v) /\ (∀ (i : Nat) x v, caps[i]? = some x -> us[i]? = some v -> R w.heap D μ x v) := by
   generalize a.eval fo = u at hf
   cases hf with
   | fn _ _ _ vs us e1 e2 h1 h2 => exact ⟨vs, us, rfl, e1, e2, h1, h2⟩
 have hl : zs.length = xs.size := by rw [o1]; simp
 have hsz : (zb9 first (zb9 zs caps)).length = ((vs ++ xs.map a.eval) ++ us).size := by rw [zae, zae]; simp [e1, e2, hl]
 have hraw : ∀ (i : Nat) y v, (zb9 first (zb9 zs caps))[i]? = some y -> ((vs ++ xs.map a.eval) ++ us)[i]? = some v -> R w.heap D μ y v := by
   intro i x v hx hv'
   rw [zae, zae] at hx
   rw [Array.append_assoc] at hv'
   by_cases i1 : i < first.length
   · rw [List.getElem?_append_left i1] at hx
     rw [Array.getElem?_append_left (by omega)] at hv'
     exact r1 i x v hx hv'
   · rw [List.getElem?_append_right (by omega)] at hx
     rw [Array.getElem?_append_right (by omega)] at hv'
     rw [e1] at hx
     by_cases i2 : i - vs.size < zs.length
     · rw [List.getElem?_append_left i2] at hx
       rw [Array.getElem?_append_left (by simp; omega)] at hv'
       have i3 : i - vs.size < xs.size := by omega
       simp [i3] at hv'
       subst hv'
       exact o2 _ x _ hx (by simp [i3])
     · rw [List.getElem?_append_right (by omega)] at hx
       rw [Array.getElem?_append_right (by simp; omega)] at hv'
       simp only [Array.size_map, <- hl] at hv'
       exact r2 _ x v hx hv'
 have hRL : RL w.heap D (zfm μ F) T.xs ((vs ++ xs.map a.eval) ++ us) := hm.xs _ _ _ _ ⟨hsz, hraw⟩
 obtain ⟨a1, a2, a3, a4⟩ := (hm.toX h).1.asks h
 have hcall := hM D w _ _ h.dlt hRL a1 a2 a3 (fun n b z hn => ⟨(a4 n b z hn).1, (a4 n b z hn).2.1⟩) h.gok (fun n b z hn => by
   obtain ⟨_, _, id, _, _, hid, _⟩ := a4 n b z hn
   exact h.gown hid)
 have fin : ∀ e v w' D' μ1, yn5 D w (zfm μ F) T.O T.O1 T.r e v w' D' μ1 -> K (a.put o.dst v) w' := by
   intro e v w' D' μ1 he
   obtain ⟨μ', h', hr⟩ := h.mcall hm he
   exact hK _ _ ⟨_, _, h'.put hd hr⟩
 unfold Oper.wp
 have hrun : (execOp a.eval o).run P w = (callFunc k ((vs ++ xs.map a.eval) ++ us)).run P w := by
   unfold execOp
   rw [e]
   simp [resolve, hfv, Deferred.ofValue, invoke]
 rw [hrun]
 unfold zfp at hcall
 split at hcall
 · rename_i f' args' w' hcf
   rw [hcf, Oper.upon_enter]
   refine hcall.mono fun en w'' hen => ?_
   obtain ⟨v, D', μ1, he⟩ := hen
   obtain rfl := he.ret
   exact fin _ v w'' D' μ1 he
 · rename_i v w' hcf
   rw [hcf, Oper.upon_value]
   obtain ⟨v', D', μ1, he⟩ := hcall
   have := he.ret
   cases this
   exact fin _ _ w' D' μ1 he
 · exact hcall.elim
end
end Sy
end Go.Proofs.Ytogomcfgfnlclaa
namespace Go.Proofs.Ytogomcfgfnlclaa
namespace Sy
open Go Go.RowKit
set_option linter.unusedSimpArgs false
set_option linter.unusedVariables false
set_option linter.unusedSectionVars false
def zhb {β : Type} (L : Nat -> Bool) (hit : Nat -> Option β) (s : Option β) : Nat -> Option β
 | 0 => s
 | n + 1 => if L n = true then (match hit n with | some x => some x | none => zhb L hit s n) else zhb L hit s n
theorem zks {β : Type} (L : Nat -> Bool) (hit : Nat -> Option β) (s : Option β) (n : Nat) : zhb L hit s (n + 1) = if L n = true then (match hit n with | some x => some x | none => zhb L hit s n) else zhb L hit s n := rfl
theorem zcy {β : Type} {L L' : Nat -> Bool} {hit : Nat -> Option β} {s : Option β} : ∀ n, (∀ j, j < n -> hit j ≠ none -> L j = L' j) -> zhb L hit s n = zhb L' hit s n
 | 0, _ => rfl
 | n + 1, h => by
   unfold zhb
   have ih := zcy n (fun j hj => h j (by omega)) (s := s)
   cases e : hit n with
   | none => simp [ih]
   | some x =>
     rw [h n (by omega) (by rw [e]; simp), ih]
theorem zhx {β : Type} {L : Nat -> Bool} {hit : Nat -> Option β} {s : Option β} (i : Nat) : ∀ n, (∀ j, i <= j -> j < n -> L j = true -> hit j = none) -> i <= n -> zhb L hit s n = zhb L hit s i
 | 0, _, hi => by have : i = 0 := by omega
                  rw [this]
 | n + 1, h, hi => by
   by_cases e : i = n + 1
   · rw [e]
   · have ih := zhx i n (fun j h1 h2 => h j h1 (by omega)) (by omega) (s := s)
     rw [zks]
     by_cases hL : L n = true
     · rw [if_pos hL, h n (by omega) (by omega) hL]; exact ih
     · rw [if_neg hL]; exact ih
theorem zkt {β : Type} {hit : Nat -> Option β} {s : Option β} (i : Nat) : ∀ n, i <= n -> zhb (fun j => decide (j < i)) hit s n = zhb (fun _ => true) hit s i := fun n hn => by
 rw [zhx i n (fun j h1 _ h3 => by simp at h3; omega) hn]
 exact zcy i (fun j hj _ => by simp [hj])
theorem zo8 {β : Type} {L L' : Nat -> Bool} {hit : Nat -> Option β} {s : Option β} {i : Nat} (hi : L' i = true) (hL : L i = false) (hne : ∀ j, j ≠ i -> L' j = L j) : ∀ n, i < n ->
   (hit i ≠ none -> ∀ j, i < j -> j < n -> L j = true -> hit j = none) -> zhb L' hit s n = (match hit i with | some x => some x | none => zhb L hit s n)
 | 0, h, _ => by omega
 | n + 1, h, hc => by
   by_cases e : n = i
   · subst e
     have : zhb L' hit s n = zhb L hit s n := zcy n (fun j hj _ => hne j (by omega))
     unfold zhb
     rw [if_pos hi, hL, this]
     simp
   · have ih := zo8 hi hL hne n (by omega) (fun h1 j h2 h3 => hc h1 j h2 (by omega)) (s := s)
     unfold zhb
     rw [hne n e, ih]
     cases hh : hit i with
     | none => rfl
     | some x =>
       simp only
       by_cases hLn : L n = true
       · rw [if_pos hLn, hc (by rw [hh]; simp) n (by omega) (by omega) hLn]
       · rw [if_neg hLn]
def zm0 (L : Nat -> Bool) (p : Nat -> Bool) (s : Bool) : Nat -> Bool
 | 0 => s
 | n + 1 => (L n && p n) || zm0 L p s n
theorem zr1 (L p : Nat -> Bool) (s : Bool) (n : Nat) : zm0 L p s (n + 1) = ((L n && p n) || zm0 L p s n) := rfl
theorem zey {L L' p : Nat -> Bool} {s : Bool} : ∀ n, (∀ j, j < n -> p j = true -> L j = L' j) -> zm0 L p s n = zm0 L' p s n
 | 0, _ => rfl
 | n + 1, h => by
   unfold zm0
   rw [zey n (fun j hj => h j (by omega))]
   cases e : p n with
   | false => simp
   | true => rw [h n (by omega) e]
theorem zli {L p : Nat -> Bool} {s : Bool} (i : Nat) : ∀ n, (∀ j, i <= j -> j < n -> L j = false) -> i <= n -> zm0 L p s n = zm0 L p s i
 | 0, _, hi => by have : i = 0 := by omega
                  rw [this]
 | n + 1, h, hi => by
   by_cases e : i = n + 1
   · rw [e]
   · rw [zr1, h n (by omega) (by omega), zli i n (fun j h1 h2 => h j h1 (by omega)) (by omega)]
     simp
theorem ye1 {p : Nat -> Bool} {s : Bool} (i : Nat) : ∀ n, i <= n -> zm0 (fun j => decide (j < i)) p s n = zm0 (fun _ => true) p s i := fun n hn => by
 rw [zli i n (fun j h1 _ => by simp; omega) hn]
 exact zey i (fun j hj _ => by simp [hj])
theorem zvb {L L' p : Nat -> Bool} {s : Bool} {i : Nat} (hi : L' i = true) (hL : L i = false) (hne : ∀ j, j ≠ i -> L' j = L j) : ∀ n, i < n -> zm0 L' p s n = (p i || zm0 L p s n)
 | 0, h => by omega
 | n + 1, h => by
   by_cases e : n = i
   · subst e
     have : zm0 L' p s n = zm0 L p s n := zey n (fun j hj _ => hne j (by omega))
     unfold zm0
     rw [hi, hL, this]; simp
   · unfold zm0
     rw [hne n e, zvb hi hL hne n (by omega)]
     cases L n && p n <;> cases p i <;> simp
theorem zk5 {T : TT} {L : za9} {f f' : Nat -> Option AV} {g g' : Nat -> Option Ob} {c c' : Nat -> Bool} {kn kn' : List (Nat × Bool)} {o : Oper} (hv : zcn (evf f kn) (zbu o.op) = zcn (evf f' kn') (zbu o.op))
   (hg : ∀ id, id ∈ yni o.op (zcn (evf f' kn') (zbu o.op)) -> g id = g' id) (hn : zbz o.op = true -> ∀ d, o.dst = some d -> g d = g' d)
   (hc : zn5 o.op = true -> ∀ id, id ∈ yh1 (zcn (evf f' kn') (zbu o.op)) -> c id = c' id) : zj6 T L f g c kn o = zj6 T L f' g' c' kn' o := by
 unfold zj6
 rw [hv]
 have e1 : yne g (yni o.op (zcn (evf f' kn') (zbu o.op))) = yne g' (yni o.op (zcn (evf f' kn') (zbu o.op))) := by
   funext id
   unfold yne
   split
   · rename_i h; exact hg id (zca.1 h)
   · rfl
 have e2 : zxd c o.op (zcn (evf f' kn') (zbu o.op)) = zxd c' o.op (zcn (evf f' kn') (zbu o.op)) := by
   funext id
   unfold zxd
   split
   · rename_i h
     split
     · rename_i h2; exact hc h id (zca.1 h2)
     · rfl
   · rfl
 have e3 : zcd g o.op o.dst = zcd g' o.op o.dst := by
   unfold zcd
   split
   · rename_i h
     split
     · rename_i d hd; rw [hn h d hd]
     · rfl
   · rfl
 rw [e1, e2, e3]
def zm3 (f : Nat -> Option AV) (kn : List (Nat × Bool)) : Prop := ∀ t b, za2 kn t = some b -> f t = some (.bool b)
theorem yix {f : Nat -> Option AV} {kn : List (Nat × Bool)} (h : zm3 f kn) (x : Operand) : evf f kn x = evf f [] x := by
 unfold evf
 cases x with
 | tmp t =>
   simp only [za2]
   cases e : za2 kn t with
   | none => rfl
   | some b => simp [h t b e]
 | _ => rfl
theorem zgl {α β : Type} {k k' : α -> β} : ∀ {l : List α}, (∀ x ∈ l, k x = k' x) -> zcn k l = zcn k' l
 | [], _ => rfl
 | x :: l, h => by simp [zcn, h x (by simp), zgl (l := l) (fun y hy => h y (by simp [hy]))]
inductive Holds (P : Program) : zc0 -> AV -> List (Nat × Ob) -> List Nat -> Prop
 | ok (v : AV) (os : List (Nat × Ob)) (ice : List Nat) : Holds P (.ok v os ice) v os ice
 | okIf (b : Bool) (v : AV) (os : List (Nat × Ob)) (ice : List Nat) (h : b = true) : Holds P (.okIf b v os ice) v os ice
 | okP (p : Prop) (v : AV) (os : List (Nat × Ob)) (ice : List Nat) (h : p) : Holds P (.okP p v os ice) v os ice
 | call (k : FuncId) (xs : List AV) (ice : List Nat) (r : AV) (h : zbk P k xs r) : Holds P (.call k xs ice) r [] ice
 | callB (k : FuncId) (xs : List AV) (r : AV) (hs : zzd r = true) (h : zbk P k xs r) : Holds P (.callB k xs) r [] []
 | alt1 (b : Bool) (v : AV) (os : List (Nat × Ob)) (q : Bool) (v' : AV) (os' : List (Nat × Ob)) (h : b = true) : Holds P (.alt b v os q v' os') v os []
 | alt2 (b : Bool) (v : AV) (os : List (Nat × Ob)) (q : Bool) (v' : AV) (os' : List (Nat × Ob)) (h : b = false) (hq : q = true) : Holds P (.alt b v os q v' os') v' os' []
theorem yqi {P : Program} {base : Nat} {M : Two} {W : World} {nt : Nat} {f : Nat -> Option AV} {g : Nat -> Option Ob} {c : Nat -> Bool} {o : Oper} {a : Act} {w : World} {x : zc0} {v : AV} {os : List (Nat × Ob)} {ice : List Nat}
   (h : Holds P x v os ice) (s : zbw P base M W nt f g c o a w x) : Adv P base M W nt f g c o a w v os ice := by
 cases h with
 | ok => exact s
 | okIf _ _ _ _ h => exact s h
 | okP _ _ _ _ h => exact s h
 | call _ _ _ _ h => exact s _ h
 | callB _ _ _ hs h => exact s _ hs h
 | alt1 _ _ _ _ _ _ h => exact s.1 h
 | alt2 _ _ _ _ _ _ h hq => exact s.2 h hq
inductive Sat (P : Program) (Q : AV -> Prop) : zcb -> Prop
 | need {b : Bool} {k : zcb} (h : b = true) (hk : Sat P Q k) : Sat P Q (.need b k)
 | must {p : Prop} {k : zcb} (h : p) (hk : Sat P Q k) : Sat P Q (.must p k)
 | ite {b : Bool} {t e : zcb} (ht : b = true -> Sat P Q t) (he : b = false -> Sat P Q e) : Sat P Q (.ite b t e)
 | done {r : AV} (h : Q r) : Sat P Q (.done r)
 | yes : Sat P Q .yes
 | call {f : FuncId} {xs : List AV} {k : AV -> zcb} {r : AV} (h : zbk P f xs r) (hk : Sat P Q (k r)) : Sat P Q (.call f xs k)
 | ex {X : Type} {f : X -> zcb} (x : X) (h : Sat P Q (f x)) : Sat P Q (.ex X f)
 | all {X : Type} {f : X -> zcb} (h : ∀ x, Sat P Q (f x)) : Sat P Q (.all X f)
 | sup {p : Prop} {k : zcb} (h : p -> Sat P Q k) : Sat P Q (.sup p k)
 | and {a b : zcb} (h1 : Sat P Q a) (h2 : Sat P Q b) : Sat P Q (.and a b)
structure zdn (P : Program) (S : zn1) : Prop where
 fz : ∀ f xs p r, S.fz f xs = some (p, r) -> p -> zbk P f xs r
 mt : ∀ f m, S.mt f = some m -> ∀ raw ob T, m raw ob = some T -> T.p -> zat P f T.xs T.O T.r T.O1
theorem zhj {P : Program} {Q : AV -> Prop} {next : zcb} : ∀ {ps : List Prop}, Sat P Q (yg4 ps next) -> (∀ p, p ∈ ps -> p) /\ Sat P Q next
 | [], h => ⟨fun p hp => by simp at hp, h⟩
 | p :: r, h => by
   cases h with
   | must h hk =>
     obtain ⟨h1, h2⟩ := zhj hk
     exact ⟨fun q hq => by rcases List.mem_cons.1 hq with rfl | hq; exact h; exact h1 q hq, h2⟩
theorem ygp {P : Program} {T : TT} {f : Nat -> Option AV} {g : Nat -> Option Ob} {c : Nat -> Bool} {kn : List (Nat × Bool)} {o : Oper} {b : Bool} (h : zq6 kn o.op = some b) {v : AV} {os : List (Nat × Ob)} {ice : List Nat}
   (hh : Holds P (zj6 T std f g c kn o) v os ice) : v = .bool b := by
 have lit : ∀ x b, litOf kn x = some b -> evf f kn x = .bool b := by
   intro x b hx
   unfold litOf at hx
   split at hx
   · cases hx; rfl
   · rename_i t
     simp [evf, hx]
   · cases hx
 unfold zq6 at h
 unfold zj6 yt1 at hh
 split at h
 · rename_i x e
   rw [e] at hh
   simp only [zbu, zcn, ydc, lit x b h] at hh
   cases hh; rfl
 · rename_i x e
   rw [e] at hh
   simp only [zbu, zcn, ydc, lit x b h] at hh
   cases hh; rfl
 · rename_i x y z e
   rw [e] at hh
   simp only [zbu, zcn] at hh
   split at h
   · rename_i hc
     rw [lit x _ hc, lit y b h] at hh
     simp only [ydb] at hh
     cases hh; rfl
   · rename_i hc
     rw [lit x _ hc, lit z b h] at hh
     simp only [ydb] at hh
     cases hh; rfl
   · cases h
 · cases h
theorem zr5 {kn : List (Nat × Bool)} {d t : Nat} : za2 (yld kn d) t = if t = d then none else za2 kn t := by
 induction kn with
 | nil => simp [yld, za2]
 | cons x kn ih =>
   obtain ⟨u, b⟩ := x
   unfold yld
   cases e : za5 u d with
   | true =>
     simp only [ih]
     have := za1 e; subst this
     by_cases ht : t = u
     · simp [ht]
     · have : za5 u t = false := zac fun h => ht h.symm
       simp [ht, za2, this]
   | false =>
     simp only [za2]
     cases e' : za5 u t with
     | true =>
       have := za1 e'; subst this
       have : u ≠ d := by rintro rfl; rw [za3] at e; cases e
       simp [this]
     | false => simpa using ih
theorem zjx (s : St) (dst : Option Nat) (v : AV) : za2 (s.put dst v) = zjq (za2 s.slots) dst v := by
 funext t
 unfold St.put zjq
 cases dst with
 | none => rfl
 | some d =>
   simp only [za2]
   by_cases e : t = d
   · subst e; simp [za3]
   · have : za5 d t = false := zac fun h => e h.symm
     simp [this, e]
theorem yhu {α : Type} (os l : List (Nat × α)) (id : Nat) : za2 (zb9 os l) id = match za2 os id with | some o => some o | none => za2 l id := zea os l id
theorem zr6 (os l : List (Nat × Ob)) : za2 (zb9 os l) = zb7 (za2 l) os := by
 funext id; rw [yhu]; unfold zb7; cases za2 os id <;> rfl
theorem ygm (os l : List Nat) : ∀ id, zbp (zb9 os l) id = (zbp os id || zbp l id) := by
 intro id
 induction os with
 | nil => simp [zb9, zbp]
 | cons x os ih =>
   simp only [zb9, zbp]
   cases za5 x id <;> simp [ih]
theorem zq4 (os l : List Nat) : zbp (zb9 os l) = zhd (zbp l) os := by
 funext id; rw [ygm]; rfl
theorem zut {f : Nat -> Option AV} {kn : List (Nat × Bool)} (h : zm3 f kn) {dst : Option Nat} {v : AV} {x : Option Bool} (hx : ∀ b, x = some b -> v = .bool b) : zm3 (zjq f dst v) (yph kn dst x) := by
 intro t b ht
 unfold yph at ht
 cases dst with
 | none => exact h t b ht
 | some d =>
   simp only [zjq]
   cases x with
   | none =>
     simp only at ht
     rw [zr5] at ht
     split at ht
     · cases ht
     · rename_i e; rw [if_neg e]; exact h t b ht
   | some y =>
     simp only [za2] at ht
     cases e : za5 d t with
     | true =>
       rw [e] at ht
       have := za1 e; subst this
       cases ht
       rw [if_pos rfl, hx _ rfl]
     | false =>
       rw [e] at ht
       simp only at ht
       rw [zr5] at ht
       split at ht
       · cases ht
       · rename_i e; rw [if_neg e]; exact h t b ht
theorem ze7 {f : Nat -> Option AV} {kn : List (Nat × Bool)} (h : zm3 f kn) {t : Nat} {b : Bool} (hx : f t = some (.bool b)) : zm3 f ((t, b) :: kn) := by
 intro u y hu
 simp only [za2] at hu
 cases e : za5 t u with
 | true =>
   rw [e] at hu
   have := za1 e; subst this
   cases hu; exact hx
 | false => rw [e] at hu; exact h u y hu
def zlk (base : Nat) (M : Two) (W : World) (nt : Nat) (s : St) (a : Act) (w : World) : Prop :=
 zgq base M W nt (za2 s.slots) (za2 s.objs) (zbp s.ice) a w /\ zm3 (za2 s.slots) s.kn
structure Ev where
 want : Bool
 v : AV
 os : List (Nat × Ob)
 ice : List Nat
 ent : Ent
def nothing : Ev := ⟨false, .tup [], [], [], ⟨[], []⟩⟩
def zr8 (P : Program) (T : TT) (f : Nat -> Option AV) (g : Nat -> Option Ob) (c : Nat -> Bool) (o : Oper) (e : Ev) : Prop :=
 Holds P (zj6 T std f g c [] o) e.v e.os e.ice \/ (yj3 P f g c o e.v e.os /\ e.ice = [])
structure yr6 (P : Program) (T : TT) (ops : List Oper) (f : Nat -> Option AV) (g : Nat -> Option Ob) (c : Nat -> Bool) (o : Oper) (e : Ev) : Prop where
 guard : match zh8 ops o with
   | none => e.want = true
   | some (some t, w) => (∃ b, f t = some (.bool b) /\ e.want = (b == w)) \/ (f t = some (.tup []) /\ e.want = false)
   | some (none, _) => False
 no : e.want = false -> e.v = .tup [] /\ e.os = [] /\ e.ice = [] /\ e.ent = ⟨[], []⟩
 yes : e.want = true -> zr8 P T f g c o e
def yi0 (f : Nat -> Option AV) (o : Oper) (e : Ev) : Prop := e.want = true ->
 (∀ id, id ∈ yni o.op (zcn (evf f []) (zbu o.op)) -> id ∈ e.ent.ids) /\ (zbz o.op = true -> ∀ d, o.dst = some d -> d ∈ e.ent.ids) /\ (∀ id, id ∈ e.ice -> id ∈ e.ent.ids) /\
 (∀ id, id ∈ keys e.os -> id ∈ e.ent.wr) /\ (zn5 o.op = true -> ∀ id, id ∈ yh1 (zcn (evf f []) (zbu o.op)) -> id ∈ e.ent.wr)
def yhx (ops : List Oper) (o : Oper) (e : Ev) (acc : List (Nat × Ent)) : Prop := e.want = true -> zil ops o.after.toList e.ent acc = true
def zwv (acc : List (Nat × Ent)) (i : Nat) (e : Ev) : List (Nat × Ent) := if e.want = true then zu1 acc i e.ent else acc
def yno (P : Program) (T : TT) (draw : Bool) (ops : List Oper) : List Oper -> Nat -> (Nat -> Option AV) -> (Nat -> Option Ob) -> (Nat -> Bool) -> List (Nat × Ent) -> List Ev -> (Nat -> Option AV) -> (Nat -> Option Ob) -> (Nat -> Bool) -> Prop
 | [], _, f, g, c, _, [], f', g', c' => f' = f /\ g' = g /\ c' = c
 | o :: r, i, f, g, c, acc, e :: es, f', g', c' => yr6 P T ops f g c o e /\ (draw = true -> yi0 f o e /\ yhx ops o e acc) /\
     yno P T draw ops r (i + 1) (zjq f o.dst e.v) (zb7 g e.os) (zhd c e.ice) (if draw = true then zwv acc i e else acc) es f' g' c'
 | _, _, _, _, _, _, _, _, _, _ => False
section
variable {P : Program} {T : TT} {S : zn1} {Q : AV -> Prop} {draw : Bool} {ops : List Oper}
theorem yjl {f : Nat -> Option AV} {g : Nat -> Option Ob} {c : Nat -> Bool} {kn : List (Nat × Bool)} (h : zm3 f kn) (L : za9) (o : Oper) : zj6 T L f g c kn o = zj6 T L f g c [] o :=
 zk5 (zgl fun x _ => yix h x) (fun _ _ => rfl) (fun _ _ _ => rfl) (fun _ _ _ => rfl)
theorem zxk (hS : zdn P S) {o : Oper} {i : Nat} {s : St} {acc : List (Nat × Ent)} {next : St -> List (Nat × Ent) -> zcb} (hk : zm3 (za2 s.slots) s.kn)
   (h : Sat P Q (zqr T std S draw ops o i s acc next)) : ∃ e : Ev, e.want = true /\ zr8 P T (za2 s.slots) (za2 s.objs) (zbp s.ice) o e /\ (draw = true -> yi0 (za2 s.slots) o e /\ yhx ops o e acc) /\
     ∃ s', za2 s'.slots = zjq (za2 s.slots) o.dst e.v /\ za2 s'.objs = zb7 (za2 s.objs) e.os /\ zbp s'.ice = zhd (zbp s.ice) e.ice /\ zm3 (za2 s'.slots) s'.kn /\ Sat P Q (next s' (if draw = true then zwv acc i e else acc)) := by
 have hval : zcn (evf (za2 s.slots) s.kn) (zbu o.op) = zcn (evf (za2 s.slots) []) (zbu o.op) := zgl fun x _ => yix hk x
 have key : ∀ v os ice, (∀ ent, zr8 P T (za2 s.slots) (za2 s.objs) (zbp s.ice) o ⟨true, v, os, ice, ent⟩) -> (∀ b, zq6 s.kn o.op = some b -> v = .bool b) ->
     Sat P Q (zfo draw ops o i s acc (zxc draw s o) (ynr draw s o) v os ice next) -> ∃ e : Ev, e.want = true /\ zr8 P T (za2 s.slots) (za2 s.objs) (zbp s.ice) o e /\ (draw = true -> yi0 (za2 s.slots) o e /\ yhx ops o e acc) /\
     ∃ s', za2 s'.slots = zjq (za2 s.slots) o.dst e.v /\ za2 s'.objs = zb7 (za2 s.objs) e.os /\ zbp s'.ice = zhd (zbp s.ice) e.ice /\ zm3 (za2 s'.slots) s'.kn /\ Sat P Q (next s' (if draw = true then zwv acc i e else acc)) := by
   intro v os ice hh hl h
   refine ⟨⟨true, v, os, ice, ⟨zb9 ice (zxc draw s o), zb9 (ynr draw s o) (keys os)⟩⟩, rfl, hh _, fun hd => ?_, s.eff o.dst v os ice (zq6 s.kn o.op), zjx .., zr6 .., zq4 .., ?_, ?_⟩
   · subst hd
     refine ⟨fun _ => ⟨fun id hid => ?_, fun hc d hd => ?_, fun id hid => ?_, fun id hid => ?_, fun hw id hid => ?_⟩, fun _ => ?_⟩
     · simp only [zae, List.mem_append, zxc]; rw [hval]; exact .inr (.inr hid)
     · simp [zae, zxc, hc, hd]
     · simp only [zae, List.mem_append]; exact .inl hid
     · simp only [zae, List.mem_append]; exact .inr hid
     · simp only [zae, List.mem_append, ynr, hw]; rw [hval]; exact .inl hid
     · simp only [zfo] at h
       split at h
       · rename_i e; exact e
       · cases h
   · show zm3 (za2 (s.put o.dst v)) (yph s.kn o.dst (zq6 s.kn o.op))
     rw [zjx]
     exact zut hk hl
   · unfold zfo at h
     cases draw with
     | false => exact h
     | true =>
       simp only at h
       split at h
       · exact h
       · cases h
 have key1 : ∀ v os ice, Holds P (zj6 T std (za2 s.slots) (za2 s.objs) (zbp s.ice) s.kn o) v os ice -> (∀ ent, zr8 P T (za2 s.slots) (za2 s.objs) (zbp s.ice) o ⟨true, v, os, ice, ent⟩) /\ ∀ b, zq6 s.kn o.op = some b -> v = .bool b := by
   intro v os ice hh
   have hh' := hh
   rw [yjl hk] at hh'
   exact ⟨fun _ => .inl hh', fun b hb => ygp hb hh⟩
 unfold zqr at h
 split at h
 · rename_i m raw hsel
   obtain ⟨f, first, caps, zs, c1, c2, hm, rfl⟩ : ∃ f first caps zs, zse o.op = true /\ zcn (evf (za2 s.slots) s.kn) (zbu o.op) = .fn f first caps :: zs /\ S.mt f = some m /\ raw = zb9 first (zb9 zs caps) := by
     split at hsel
     · rename_i c1
       split at hsel
       · rename_i f first caps zs c2
         split at hsel
         · rename_i m' hm; cases hsel; exact ⟨f, first, caps, zs, c1, c2, hm, rfl⟩
         · cases hsel
       · cases hsel
     · cases hsel
   obtain ⟨fo, ys, ts, e1⟩ : ∃ fo ys ts, o.op = .call { callee := .value fo, args := ys, argTypes := ts } := by
     unfold zse at c1
     split at c1
     · rename_i fo ys ts e1; exact ⟨_, _, _, e1⟩
     · cases c1
   unfold ypt at h
   split at h
   · rename_i T' hT'
     split at h
     · rename_i mt hmt
       split at h
       · rename_i hfr
         obtain ⟨hps, h⟩ := zhj h
         cases h with
         | must hp h =>
           refine key _ _ [] (fun ent => .inr ⟨⟨fo, ys, ts, f, first, caps, zs, mt.ids, _, T', e1, by rw [<- hval]; exact c2, hS.mt f m hm _ _ T' hT' hp, ygd hmt hfr hps, rfl, rfl⟩, rfl⟩) (fun b hb => ?_) h
           rw [e1] at hb; cases hb
       · cases h
     · cases h
   · cases h
 unfold ypu at h
 split at h
 · rename_i v os ice e; obtain ⟨k1, k2⟩ := key1 v os ice (by rw [e]; exact .ok ..); exact key v os ice k1 k2 h
 · rename_i b v os ice e; cases h with | need h hk => obtain ⟨k1, k2⟩ := key1 v os ice (by rw [e]; exact .okIf _ _ _ _ h); exact key v os ice k1 k2 hk
 · rename_i b v os ice e; cases h with | must h hk => obtain ⟨k1, k2⟩ := key1 v os ice (by rw [e]; exact .okP _ _ _ _ h); exact key v os ice k1 k2 hk
 · rename_i b v os q v' os' e
   cases hb : b with
   | true =>
     cases h with | ite ht he => obtain ⟨k1, k2⟩ := key1 v os [] (by rw [e]; exact .alt1 _ _ _ _ _ _ hb); exact key v os [] k1 k2 (ht hb)
   | false =>
     cases h with
     | ite ht he =>
       have h := he hb
       cases h with | need h hk => obtain ⟨k1, k2⟩ := key1 v' os' [] (by rw [e]; exact .alt2 _ _ _ _ _ _ hb h); exact key v' os' [] k1 k2 hk
 · rename_i f xs ice e
   split at h
   · rename_i p r hs
     cases h with | must h hk => obtain ⟨k1, k2⟩ := key1 r [] ice (by rw [e]; exact .call _ _ _ _ (hS.fz f _ p r hs h)); exact key r [] ice k1 k2 hk
   · rename_i hs
     cases h with | call h hk => obtain ⟨k1, k2⟩ := key1 _ [] ice (by rw [e]; exact .call _ _ _ _ h); exact key _ [] ice k1 k2 hk
 · rename_i f xs e
   split at h
   · rename_i p r hs
     split at h
     · rename_i hr
       cases h with | must h hk => obtain ⟨k1, k2⟩ := key1 r [] [] (by rw [e]; exact .callB _ _ _ hr (hS.fz f _ p r hs h)); exact key r [] [] k1 k2 hk
     · cases h
   · cases h
 · cases h
theorem zeo (hS : zdn P S) {k : St -> zcb} : ∀ (r : List Oper) (i : Nat) (s : St) (acc : List (Nat × Ent)), zm3 (za2 s.slots) s.kn -> Sat P Q (zd6 T std S draw ops r i s acc k) ->
   ∃ es s', yno P T draw ops r i (za2 s.slots) (za2 s.objs) (zbp s.ice) acc es (za2 s'.slots) (za2 s'.objs) (zbp s'.ice) /\ zm3 (za2 s'.slots) s'.kn /\ Sat P Q (k s')
 | [], i, s, acc, hk, h => ⟨[], s, ⟨rfl, rfl, rfl⟩, hk, h⟩
 | o :: r, i, s, acc, hk, h => by
   have yes : ∀ s1 : St, s1.slots = s.slots -> s1.objs = s.objs -> s1.ice = s.ice -> zm3 (za2 s1.slots) s1.kn ->
       (match zh8 ops o with
         | none => true = true
         | some (some t, w) => (∃ b, za2 s.slots t = some (.bool b) /\ true = (b == w)) \/ (za2 s.slots t = some (.tup []) /\ true = false)
         | some (none, _) => False) -> Sat P Q (zqr T std S draw ops o i s1 acc (fun s acc => zd6 T std S draw ops r (i + 1) s acc k)) ->
       ∃ es s', yno P T draw ops (o :: r) i (za2 s.slots) (za2 s.objs) (zbp s.ice) acc es (za2 s'.slots) (za2 s'.objs) (zbp s'.ice) /\ zm3 (za2 s'.slots) s'.kn /\ Sat P Q (k s') := by
     intro s1 e1 e2 e3 hk1 hg h
     obtain ⟨e, hw, hh, he, s2, h1, h2, h3, h4, h5⟩ := zxk hS hk1 h
     obtain ⟨es, s', hW, hk', h'⟩ := zeo hS r (i + 1) s2 _ h4 h5
     rw [h1, h2, h3, e1, e2, e3] at hW
     rw [e1, e2, e3] at hh
     rw [e1] at he
     refine ⟨e :: es, s', ⟨⟨?_, fun h => (by rw [hw] at h; cases h), fun _ => hh⟩, he, hW⟩, hk', h'⟩
     rw [hw]; exact hg
   have no : ∀ s1 : St, s1.slots = s.slots -> s1.objs = s.objs -> s1.ice = s.ice -> zm3 (za2 s1.slots) s1.kn ->
       (match zh8 ops o with
         | none => false = true
         | some (some t, w) => (∃ b, za2 s.slots t = some (.bool b) /\ false = (b == w)) \/ (za2 s.slots t = some (.tup []) /\ false = false)
         | some (none, _) => False) -> Sat P Q (zd6 T std S draw ops r (i + 1) (s1.eff o.dst (.tup []) [] [] none) acc k) ->
       ∃ es s', yno P T draw ops (o :: r) i (za2 s.slots) (za2 s.objs) (zbp s.ice) acc es (za2 s'.slots) (za2 s'.objs) (zbp s'.ice) /\ zm3 (za2 s'.slots) s'.kn /\ Sat P Q (k s') := by
     intro s1 e1 e2 e3 hk1 hg h
     have h4 : zm3 (za2 (s1.eff o.dst (.tup []) [] [] none).slots) (s1.eff o.dst (.tup []) [] [] none).kn := by
       show zm3 (za2 (s1.put o.dst (.tup []))) (yph s1.kn o.dst none)
       rw [zjx]
       exact zut hk1 fun b hb => by cases hb
     obtain ⟨es, s', hW, hk', h'⟩ := zeo hS r (i + 1) _ _ h4 h
     have q1 : za2 (s1.eff o.dst (.tup []) [] [] none).slots = zjq (za2 s.slots) o.dst (.tup []) := by rw [<- e1]; exact zjx ..
     have q2 : za2 (s1.eff o.dst (.tup []) [] [] none).objs = zb7 (za2 s.objs) [] := by rw [<- e2]; exact zr6 ..
     have q3 : zbp (s1.eff o.dst (.tup []) [] [] none).ice = zhd (zbp s.ice) [] := by rw [<- e3]; exact zq4 ..
     rw [q1, q2, q3] at hW
     refine ⟨nothing :: es, s', ⟨⟨hg, fun _ => ⟨rfl, rfl, rfl, rfl⟩, fun h => by cases h⟩, fun _ => ⟨fun h => by simp [nothing] at h, fun h => by simp [nothing] at h⟩, ?_⟩, hk', h'⟩
     simpa [zwv, nothing] using hW
   unfold zd6 at h
   split at h
   · rename_i e; exact yes s rfl rfl rfl hk (by rw [e]) h
   · cases h
   · rename_i t w e
     rw [e] at yes no
     split at h
     · rename_i b hb
       have hf := hk t b hb
       split at h
       · exact yes s rfl rfl rfl hk (.inl ⟨true, hf, rfl⟩) h
       · exact yes s rfl rfl rfl hk (.inl ⟨false, hf, rfl⟩) h
       · rename_i h1 h2
         refine no s rfl rfl rfl hk (.inl ⟨b, hf, ?_⟩) h
         cases b <;> cases w <;> simp_all
     · split at h
       · rename_i hb
         exact no s rfl rfl rfl hk (.inr ⟨hb, rfl⟩) h
       · rename_i b hb
         split at h
         · cases h with | ite h1 h2 =>
           cases b with
           | true => exact yes (s.know t true) rfl rfl rfl (ze7 hk hb) (.inl ⟨true, hb, rfl⟩) (h1 rfl)
           | false => exact no (s.know t false) rfl rfl rfl (ze7 hk hb) (.inl ⟨false, hb, rfl⟩) (h2 rfl)
         · cases h with | ite h1 h2 =>
           cases b with
           | true => exact no (s.know t true) rfl rfl rfl (ze7 hk hb) (.inl ⟨true, hb, rfl⟩) (h1 rfl)
           | false => exact yes (s.know t false) rfl rfl rfl (ze7 hk hb) (.inl ⟨false, hb, rfl⟩) (h2 rfl)
       · cases h
end
end Sy
end Go.Proofs.Ytogomcfgfnlclaa
namespace Go.Proofs.Ytogomcfgfnlclaa
namespace Sy
open Go Go.RowKit
set_option linter.unusedSimpArgs false
set_option linter.unusedVariables false
set_option linter.unusedSectionVars false
def zri : List Operand -> List Nat
 | [] => []
 | .tmp t :: r => t :: zri r
 | _ :: r => zri r
def ys7 (nt : Nat) (o : Oper) : Bool :=
 (match o.dst with | some d => zb3 d nt | none => true) && (zbu o.op).all fun x => match x with | .const v => zho v | _ => true
def zpq (i : Nat) (o : Oper) (ts : List Nat) : Nat -> List Oper -> Bool
 | _, [] => true
 | j, o' :: r => (match o'.dst with
   | none => true
   | some d => (za5 j i || (match o.dst with | some d' => !za5 d' d | none => true)) &&
     (!zbp ts d || (zb3 j i && zax o.after.toList j) || (zb3 i j && zax o'.after.toList i))) && zpq i o ts (j + 1) r
def zld (ops : List Oper) : Nat -> List Oper -> Bool
 | _, [] => true
 | i, o :: r => (o.after.toList.all fun e => !Region.binds .any e || zb3 e.on i) && (match o.guard with | none => true | some (g, _) => zax o.after.toList g) &&
   zpq i o (zri (zbu o.op)) 0 ops && zld ops (i + 1) r
structure yj2 (nt : Nat) (o : Oper) : Prop where
 dst : ∀ d, o.dst = some d -> d < nt
 pl : ∀ x ∈ zbu o.op, ∀ v, x = .const v -> zho v = true
theorem yax {nt : Nat} {o : Oper} (h : ys7 nt o = true) : yj2 nt o := by
 unfold ys7 at h
 simp only [Bool.and_eq_true] at h
 refine ⟨fun d hd => ?_, fun x hx v hv => ?_⟩
 · have h1 := h.1
   rw [hd] at h1
   exact zan h1
 · have h2 := List.all_eq_true.1 h.2 x hx
   rw [hv] at h2
   exact h2
theorem ybm {l : List Operand} {t : Nat} (h : Operand.tmp t ∈ l) : t ∈ zri l := by
 induction l with
 | nil => cases h
 | cons x l ih =>
   rcases List.mem_cons.1 h with rfl | h'
   · simp [zri]
   · cases x <;> simp [zri, ih h']
structure zll (ops : List Oper) : Prop where
 back : ∀ (i : Nat) (o : Oper) (e : Edge), ops[i]? = some o -> e ∈ o.after -> Region.binds .any e = true -> e.on < i
 guard : ∀ (i : Nat) (o : Oper) g b, ops[i]? = some o -> o.guard = some (g, b) -> zax o.after.toList g = true
 once : ∀ (i j : Nat) (o o' : Oper) d, ops[i]? = some o -> ops[j]? = some o' -> o.dst = some d -> o'.dst = some d -> i = j
 reads : ∀ (i j : Nat) (o o' : Oper) d, ops[i]? = some o -> ops[j]? = some o' -> o'.dst = some d -> Operand.tmp d ∈ zbu o.op ->
   (j < i /\ zax o.after.toList j = true) \/ (i < j /\ zax o'.after.toList i = true)
theorem zkk {i : Nat} {o : Oper} {ts : List Nat} : ∀ (l : List Oper) (j : Nat), zpq i o ts j l = true -> ∀ (k : Nat) (o' : Oper), l[k]? = some o' -> ∀ d, o'.dst = some d ->
   (za5 (j + k) i || (match o.dst with | some d' => !za5 d' d | none => true)) = true /\ (!zbp ts d || (zb3 (j + k) i && zax o.after.toList (j + k)) || (zb3 i (j + k) && zax o'.after.toList i)) = true
 | [], _, _, k, o', hk, _, _ => by simp at hk
 | x :: l, j, h, k, o', hk, d, hd => by
   unfold zpq at h
   rw [Bool.and_eq_true] at h
   cases k with
   | zero =>
     simp only [List.getElem?_cons_zero, Option.some.injEq] at hk
     subst hk
     have h1 := h.1
     rw [hd] at h1
     simp only [Bool.and_eq_true] at h1
     exact h1
   | succ k =>
     have := zkk l (j + 1) h.2 k o' (by simpa using hk) d hd
     rw [show j + 1 + k = j + (k + 1) by omega] at this
     exact this
theorem zqu {ops : List Oper} : ∀ (l : List Oper) (i : Nat), zld ops i l = true -> ∀ (k : Nat) (o : Oper), l[k]? = some o ->
   ((o.after.toList.all fun e => !Region.binds .any e || zb3 e.on (i + k)) && (match o.guard with | none => true | some (g, _) => zax o.after.toList g)) = true /\ zpq (i + k) o (zri (zbu o.op)) 0 ops = true
 | [], _, _, k, o, hk => by simp at hk
 | x :: l, i, h, k, o, hk => by
   unfold zld at h
   rw [Bool.and_eq_true, Bool.and_eq_true] at h
   cases k with
   | zero =>
     simp only [List.getElem?_cons_zero, Option.some.injEq] at hk
     subst hk
     exact ⟨h.1.1, h.1.2⟩
   | succ k =>
     have := zqu l (i + 1) h.2 k o (by simpa using hk)
     rw [show i + 1 + k = i + (k + 1) by omega] at this
     exact this
theorem zqt {ops : List Oper} (h : zld ops 0 ops = true) : zll ops := by
 have H := zqu ops 0 h
 simp only [Nat.zero_add] at H
 refine ⟨fun i o e ho he hb => ?_, fun i o g b ho hg => ?_, fun i j o o' d ho ho' hd hd' => ?_, fun i j o o' d ho ho' hd hr => ?_⟩
 · have h1 := (H i o ho).1
   rw [Bool.and_eq_true, List.all_eq_true] at h1
   have h2 := h1.1 e (Array.mem_toList_iff.2 he)
   rw [hb] at h2
   exact zan (by simpa using h2)
 · have h1 := (H i o ho).1
   rw [Bool.and_eq_true] at h1
   have h2 := h1.2
   rw [hg] at h2
   exact h2
 · have h1 := (zkk ops 0 (H i o ho).2 j o' ho' d hd').1
   rw [hd, Nat.zero_add] at h1
   simp only [za3, Bool.not_true, Bool.or_false] at h1
   exact (za1 h1).symm
 · have h1 := (zkk ops 0 (H i o ho).2 j o' ho' d hd).2
   rw [Nat.zero_add, zca.2 (ybm hr)] at h1
   simp only [Bool.not_true, Bool.false_or, Bool.or_eq_true, Bool.and_eq_true] at h1
   rcases h1 with h1 | h1
   · exact .inl ⟨zan h1.1, h1.2⟩
   · exact .inr ⟨zan h1.1, h1.2⟩
section
variable {P : Program} {T : TT} {base : Nat} {M : Two} {W : World} {nt : Nat} {ops : List Oper}
theorem zye {f : Nat -> Option AV} {g : Nat -> Option Ob} {c : Nat -> Bool} {a : Act} {w : World} {o : Oper} {e : Ev} (hs : zgq base M W nt f g c a w) (hops : ∀ o ∈ ops, yj2 nt o)
   (hg : match zh8 ops o with
     | none => e.want = true
     | some (some t, w) => (∃ b, f t = some (.bool b) /\ e.want = (b == w)) \/ (f t = some (.tup []) /\ e.want = false)
     | some (none, _) => False) : Region.wanted o (yielded ops.toArray a.tmps) = e.want := by
 obtain ⟨D, μ, h⟩ := hs
 unfold Region.wanted
 unfold zh8 at hg
 cases e1 : o.guard with
 | none => rw [e1] at hg; simp only at hg |-; exact hg.symm
 | some x =>
   obtain ⟨j, wt⟩ := x
   rw [e1] at hg
   simp only at hg |-
   cases e2 : ops[j]? with
   | none => rw [e2] at hg; exact hg.elim
   | some o' =>
     rw [e2] at hg
     simp only at hg
     cases e3 : o'.dst with
     | none => rw [e3] at hg; exact hg.elim
     | some t =>
       rw [e3] at hg
       simp only at hg
       rcases hg with ⟨b, hb, hw⟩ | ⟨hb, hw⟩
       rotate_left
       · have ht : t < a.tmps.size := by rw [h.tmps]; exact (hops o' (List.mem_of_getElem? e2)).dst t e3
         obtain ⟨us, hu, l1, _⟩ := (h.slots t _ hb).inv_tup
         have hus : us = #[] := Array.eq_empty_of_size_eq_zero (by simpa using l1.symm)
         have hx : a.tmps[t]? = some (.tuple #[]) := by
           rw [hus] at hu
           rw [<- hu]; simp [ht]
         unfold yielded
         simp only [List.getElem?_toArray, e2, Option.bind_some, e3, hx]
         rw [hw]; cases wt <;> rfl
       have ht : t < a.tmps.size := by rw [h.tmps]; exact (hops o' (List.mem_of_getElem? e2)).dst t e3
       have hr := (h.slots t _ hb).inv_bool
       have hx : a.tmps[t]? = some (.bool b) := by rw [<- hr]; simp [ht]
       unfold yielded
       simp only [List.getElem?_toArray, e2, Option.bind_some, e3, hx]
       rw [hw]
       cases b <;> cases wt <;> rfl
theorem znr {f : Nat -> Option AV} {g : Nat -> Option Ob} {c : Nat -> Bool} {a : Act} {w : World} {o : Oper} {e : Ev} {i : Nat} {Q : Exit -> Act -> World -> Prop} {K : Act -> World -> Prop} (hT : zbd P T)
   (hs : zgq base M W nt f g c a w) (hops : ∀ o ∈ ops, yj2 nt o) (ho : ops[i]? = some o) (he : yr6 P T ops f g c o e)
   (hK : ∀ a' w', zgq base M W nt (zjq f o.dst e.v) (zb7 g e.os) (zhd c e.ice) a' w' -> K a' w') : wpOp P ops.toArray Q i K a w := by
 have hw := zye hs hops he.guard
 have hok := hops o (List.mem_of_getElem? ho)
 obtain ⟨D, μ, h⟩ := hs
 unfold wpOp
 rw [List.getElem?_toArray, ho]
 simp only
 rw [hw]
 cases e1 : e.want with
 | true =>
   rw [if_pos rfl]
   rcases he.yes e1 with h1 | ⟨h1, h2⟩
   · exact .inl (yqi h1 (says h hok.dst hT hok.pl (fun t b ht => by simp [za2] at ht)) K Q hK)
   · rw [h2] at hK
     exact .inl (yte h hok.dst hok.pl h1 K Q hK)
 | false =>
   rw [if_neg (by simp)]
   obtain ⟨h1, h2, h3, _⟩ := he.no e1
   rw [h1, h2, h3] at hK
   exact hK _ _ ⟨D, μ, h.put hok.dst (.tup [] #[] rfl (fun i x v hx => by simp at hx))⟩
theorem zyo (hT : zbd P T) (hops : ∀ o ∈ ops, yj2 nt o) {Q : Exit -> Act -> World -> Prop} {draw : Bool} : ∀ (r : List Oper) (i : Nat) (f : Nat -> Option AV) (g : Nat -> Option Ob) (c : Nat -> Bool) (acc : List (Nat × Ent)) (es : List Ev) (f' : Nat -> Option AV) (g' : Nat -> Option Ob) (c' : Nat -> Bool) (a : Act) (w : World),
   (∀ k, r[k]? = ops[i + k]?) -> yno P T draw ops r i f g c acc es f' g' c' -> zgq base M W nt f g c a w -> (∀ a' w', zgq base M W nt f' g' c' a' w' -> Q .normal a' w') ->
   wpOps P ops.toArray Q (List.range' i r.length) a w
 | [], i, f, g, c, acc, es, f', g', c', a, w, hr, hW, hs, hQ => by
   cases es with
   | nil => obtain ⟨rfl, rfl, rfl⟩ := hW; exact hQ a w hs
   | cons _ _ => exact hW.elim
 | o :: r, i, f, g, c, acc, [], f', g', c', a, w, hr, hW, hs, hQ => hW.elim
 | o :: r, i, f, g, c, acc, e :: es, f', g', c', a, w, hr, hW, hs, hQ => by
   have ho : ops[i]? = some o := by have := hr 0; simpa using this.symm
   rw [List.length_cons, List.range'_succ, wpOps_cons]
   exact znr hT hs hops ho hW.1 fun a' w' hs' => zyo hT hops r (i + 1) _ _ _ _ es f' g' c' a' w' (fun k => by have := hr (k + 1); rw [List.getElem?_cons_succ] at this; rw [this]; congr 1; omega) hW.2.2 hs' hQ
def zy7 (ops : List Oper) (E : Nat -> Ev) (t : Nat) (j : Nat) : Option AV := match ops[j]? with
 | some o => if o.dst = some t then some (E j).v else none
 | none => none
theorem zv3 (f : Nat -> Option AV) (o : Oper) (v : AV) (t : Nat) : zjq f o.dst v t = match (if o.dst = some t then some v else none) with | some x => some x | none => f t := by
 unfold zjq
 cases e : o.dst with
 | none => simp
 | some d =>
   by_cases h : t = d
   · subst h; simp
   · simp [h]; rw [if_neg (fun h' => h h'.symm)]
section
variable (ops : List Oper) (E : Nat -> Ev) (f0 : Nat -> Option AV) (g0 : Nat -> Option Ob) (c0 : Nat -> Bool)
def fL (L : Nat -> Bool) (n : Nat) : Nat -> Option AV := fun t => zhb L (zy7 ops E t) (f0 t) n
def gL (L : Nat -> Bool) (n : Nat) : Nat -> Option Ob := fun id => zhb L (fun j => za2 (E j).os id) (g0 id) n
def cL (L : Nat -> Bool) (n : Nat) : Nat -> Bool := fun id => zm0 L (fun j => zbp (E j).ice id) (c0 id) n
end
abbrev zfn : Nat -> Bool := fun _ => true
variable {E : Nat -> Ev} {f0 : Nat -> Option AV} {g0 : Nat -> Option Ob} {c0 : Nat -> Bool}
theorem ym1 {i : Nat} {o : Oper} (ho : ops[i]? = some o) : fL ops E f0 zfn (i + 1) = zjq (fL ops E f0 zfn i) o.dst (E i).v := by
 funext t
 rw [zv3]
 show zhb zfn (zy7 ops E t) (f0 t) (i + 1) = _
 rw [zks, if_pos rfl]
 have : zy7 ops E t i = if o.dst = some t then some (E i).v else none := by unfold zy7; rw [ho]
 rw [this]
 cases (if o.dst = some t then some (E i).v else none) <;> rfl
theorem ylw {i : Nat} : gL E g0 zfn (i + 1) = zb7 (gL E g0 zfn i) (E i).os := by
 funext id
 show zhb zfn _ (g0 id) (i + 1) = _
 rw [zks, if_pos rfl]
 unfold zb7
 cases za2 (E i).os id <;> rfl
theorem ymp {i : Nat} : cL E c0 zfn (i + 1) = zhd (cL E c0 zfn i) (E i).ice := by
 funext id
 show zm0 zfn _ (c0 id) (i + 1) = _
 rw [zr1]
 rfl
def yg0 (E : Nat -> Ev) (acc : List (Nat × Ent)) (i : Nat) : Prop := ∀ k, k < i -> (E k).ent = ⟨[], []⟩ \/ (k, (E k).ent) ∈ acc
theorem zwu {acc : List (Nat × Ent)} {i : Nat} (h : yg0 E acc i) (hno : (E i).want = false -> (E i).ent = ⟨[], []⟩) : yg0 E (zwv acc i (E i)) (i + 1) := by
 intro k hk
 unfold zwv
 by_cases hi : k = i
 · subst hi
   cases hw : (E k).want with
   | false => exact .inl (hno hw)
   | true =>
     rw [if_pos rfl]
     unfold zu1
     generalize (E k).ent = x
     obtain ⟨a, b⟩ := x
     cases a with
     | nil => cases b with
       | nil => exact .inl rfl
       | cons _ _ => exact .inr (by simp)
     | cons _ _ => exact .inr (by simp)
 · rcases h k (by omega) with h | h
   · exact .inl h
   · refine .inr ?_
     split
     · unfold zu1
       split
       · split
         · exact h
         · exact List.mem_cons_of_mem _ h
       · exact List.mem_cons_of_mem _ h
     · exact h
structure At (P : Program) (T : TT) (ops : List Oper) (E : Nat -> Ev) (f0 : Nat -> Option AV) (g0 : Nat -> Option Ob) (c0 : Nat -> Bool) (j : Nat) (o : Oper) : Prop where
 ev : yr6 P T ops (fL ops E f0 zfn j) (gL E g0 zfn j) (cL E c0 zfn j) o (E j)
 ent : yi0 (fL ops E f0 zfn j) o (E j)
 ord : ∃ acc, yg0 E acc j /\ yhx ops o (E j) acc
theorem zyf : ∀ (r : List Oper) (i : Nat) (f : Nat -> Option AV) (g : Nat -> Option Ob) (c : Nat -> Bool) (acc : List (Nat × Ent)) (es : List Ev) (f' : Nat -> Option AV) (g' : Nat -> Option Ob) (c' : Nat -> Bool),
   (∀ k, r[k]? = ops[i + k]?) -> (∀ k e, es[k]? = some e -> E (i + k) = e) -> f = fL ops E f0 zfn i -> g = gL E g0 zfn i -> c = cL E c0 zfn i -> yg0 E acc i -> yno P T true ops r i f g c acc es f' g' c' ->
   (∀ j o, i <= j -> ops[j]? = some o -> At P T ops E f0 g0 c0 j o) /\ f' = fL ops E f0 zfn (i + r.length) /\ g' = gL E g0 zfn (i + r.length) /\ c' = cL E c0 zfn (i + r.length)
 | [], i, f, g, c, acc, es, f', g', c', hr, hE, ef, eg, ec, hn, hW => by
   cases es with
   | nil =>
     obtain ⟨rfl, rfl, rfl⟩ := hW
     refine ⟨fun j o hj ho => ?_, ef, eg, ec⟩
     have := hr (j - i)
     rw [show i + (j - i) = j by omega, ho] at this
     simp at this
   | cons _ _ => exact hW.elim
 | o :: r, i, f, g, c, acc, [], f', g', c', hr, hE, ef, eg, ec, hn, hW => hW.elim
 | o :: r, i, f, g, c, acc, e :: es, f', g', c', hr, hE, ef, eg, ec, hn, hW => by
   have ho : ops[i]? = some o := by have := hr 0; simpa using this.symm
   obtain ⟨h1, h2, h3⟩ := hW
   obtain ⟨h2, h2'⟩ := h2 rfl
   have hEi : E i = e := hE 0 e rfl
   rw [if_pos rfl] at h3
   have ih := zyf r (i + 1) _ _ _ _ es f' g' c' (fun k => by have := hr (k + 1); rw [List.getElem?_cons_succ] at this; rw [this]; congr 1; omega) (fun k x hx => by rw [show i + 1 + k = i + (k + 1) by omega]; exact hE (k + 1) x (by simpa using hx))
     (by rw [ym1 ho, hEi, ef]) (by rw [ylw, hEi, eg]) (by rw [ymp, hEi, ec]) (by rw [<- hEi]; exact zwu hn (by rw [hEi]; exact fun hw => (h1.no hw).2.2.2)) h3
   obtain ⟨i1, i2, i3, i4⟩ := ih
   rw [show i + 1 + r.length = i + (o :: r).length by simp; omega] at i2 i3 i4
   refine ⟨fun j o' hj ho' => ?_, i2, i3, i4⟩
   by_cases e1 : j = i
   · subst e1
     rw [ho] at ho'
     cases ho'
     subst hEi; subst ef; subst eg; subst ec
     exact ⟨h1, h2, acc, hn, h2'⟩
   · exact i1 j o' (by omega) ho'
theorem zq1 {xs ys : List Nat} {id : Nat} (h1 : id ∈ xs) (h2 : id ∈ ys) : ybo xs ys = true := by
 induction xs with
 | nil => cases h1
 | cons x xs ih =>
   unfold ybo
   rcases List.mem_cons.1 h1 with rfl | h1
   · rw [zca.2 h2]
   · split
     · rfl
     · exact ih h1
theorem ymd {a b : Ent} {id : Nat} (h1 : id ∈ a.wr) (h2 : id ∈ b.ids \/ id ∈ b.wr) : zsy a b = true := by
 unfold zsy
 rw [zq1 h1 (by rw [zae, List.mem_append]; exact h2)]
theorem ymc {a b : Ent} {id : Nat} (h1 : id ∈ b.wr) (h2 : id ∈ a.ids) : zsy a b = true := by
 unfold zsy
 split
 · rfl
 · exact zq1 h1 h2
theorem zrz {es : List Edge} {x : Ent} {acc : List (Nat × Ent)} (h : zil ops es x acc = true) {k : Nat} {y : Ent} (hm : (k, y) ∈ acc) (hc : zsy x y = true) : ahead ops 4 es k = true := by
 induction acc with
 | nil => cases hm
 | cons z acc ih =>
   obtain ⟨j, z⟩ := z
   unfold zil at h
   rcases List.mem_cons.1 hm with e | hm
   · cases e
     rw [hc] at h
     simp only at h
     split at h
     · assumption
     · cases h
   · refine ih ?_ hm
     split at h
     · split at h
       · exact h
       · cases h
     · exact h
def zn3 (ops : List Oper) (L : Nat -> Bool) : Prop := ∀ (k : Nat) (o : Oper) (e : Edge), ops[k]? = some o -> L k = true -> e ∈ o.after -> Region.binds .any e = true -> L e.on = true
theorem zg7 {L : Nat -> Bool} {es : List Edge} {j : Nat} (h : ∀ e ∈ es, Region.binds .any e = true -> L e.on = true) (hd : zax es j = true) : L j = true := by
 induction es with
 | nil => simp [zax] at hd
 | cons e es ih =>
   have ih := ih fun x hx => h x (by simp [hx])
   unfold zax at hd
   split at hd
   · rename_i hb
     split at hd
     · rename_i he
       rw [<- za1 he]; exact h e (by simp) hb
     · exact ih hd
   · exact ih hd
theorem zox {L : Nat -> Bool} (hc : zn3 ops L) {j : Nat} : ∀ (n : Nat) (es : List Edge), (∀ e ∈ es, Region.binds .any e = true -> L e.on = true) -> ahead ops n es j = true -> L j = true
 | 0, es, h, hd => zg7 h hd
 | n + 1, es, h, hd => by
   unfold ahead at hd
   split at hd
   · rename_i h'; exact zg7 h h'
   · rw [List.any_eq_true] at hd
     obtain ⟨e, he, hd⟩ := hd
     split at hd
     · rename_i hb
       split at hd
       · cases hd
       · split at hd
         · rename_i o ho
           exact zox hc n o.after.toList (fun x hx hxb => hc e.on o x ho (h e he hb) (Array.mem_toList_iff.1 hx) hxb) hd
         · cases hd
     · cases hd
structure ye8 (ops : List Oper) (L : Nat -> Bool) (i : Nat) (o : Oper) : Prop where
 at_ : ops[i]? = some o
 not : L i = false
 go : ∀ e ∈ o.after.toList, Region.binds .any e = true -> L e.on = true
variable {L : Nat -> Bool} {i : Nat} {o : Oper}
theorem ypz (h : At P T ops E f0 g0 c0 i o) {id : Nat} (hid : id ∈ (E i).ent.ids \/ id ∈ (E i).ent.wr) : (E i).want = true := by
 cases hw : (E i).want with
 | true => rfl
 | false =>
   have := (h.ev.no hw).2.2.2
   rw [this] at hid
   simp at hid
theorem ztw (hA : ∀ j o, ops[j]? = some o -> At P T ops E f0 g0 c0 j o) {j k : Nat} {o : Oper} (ho : ops[k]? = some o) (hjk : j < k) {id : Nat} (h : (id ∈ (E k).ent.wr /\ (id ∈ (E j).ent.ids \/ id ∈ (E j).ent.wr)) \/ (id ∈ (E j).ent.wr /\ id ∈ (E k).ent.ids)) : ahead ops 4 o.after.toList j = true := by
 have A := hA k o ho
 have hw : (E k).want = true := ypz A (id := id) (by rcases h with h | h; exact .inr h.1; exact .inl h.2)
 obtain ⟨acc, hn, ho'⟩ := A.ord
 have hor := ho' hw
 have hcl : zsy (E k).ent (E j).ent = true := by
   rcases h with h | h
   · exact ymd h.1 h.2
   · exact ymc h.1 h.2
 rcases hn j hjk with h0 | h0
 · rw [h0] at h; simp at h
 · exact zrz hor h0 hcl
theorem yqq (hA : ∀ j o, ops[j]? = some o -> At P T ops E f0 g0 c0 j o) (hC : zn3 ops L) (hR : ye8 ops L i o) {j : Nat} (hj : j < ops.length) {id : Nat}
   (h : (id ∈ (E j).ent.wr /\ (id ∈ (E i).ent.ids \/ id ∈ (E i).ent.wr)) \/ (id ∈ (E i).ent.wr /\ id ∈ (E j).ent.ids)) : L j = decide (j < i) := by
 obtain ⟨oj, hoj⟩ : ∃ oj, ops[j]? = some oj := ⟨_, List.getElem?_eq_getElem hj⟩
 rcases Nat.lt_trichotomy j i with hlt | heq | hgt
 · have := ztw hA hR.at_ hlt (id := id) (by
     rcases h with ⟨h1, h2 | h2⟩ | ⟨h1, h2⟩
     · exact .inr ⟨h1, h2⟩
     · exact .inl ⟨h2, .inr h1⟩
     · exact .inl ⟨h1, .inl h2⟩)
   rw [zox hC 4 _ hR.go this]; simp [hlt]
 · subst heq
   rw [hR.not]; simp
 · have := ztw hA hoj hgt (id := id) (by
     rcases h with ⟨h1, h2 | h2⟩ | ⟨h1, h2⟩
     · exact .inl ⟨h1, .inl h2⟩
     · exact .inl ⟨h1, .inr h2⟩
     · exact .inr ⟨h1, h2⟩)
   have hn : L j = false := by
     cases hL : L j with
     | false => rfl
     | true =>
       have h2 := zox hC 4 _ (fun e he hb => hC j oj e hoj hL (Array.mem_toList_iff.1 he) hb) this
       rw [hR.not] at h2; cases h2
   rw [hn]; simp; omega
theorem yiv (hD : zll ops) (hC : zn3 ops L) (hR : ye8 ops L i o) {t : Nat} (ht : Operand.tmp t ∈ zbu o.op \/ ∃ g b og, o.guard = some (g, b) /\ ops[g]? = some og /\ og.dst = some t) : fL ops E f0 L ops.length t = fL ops E f0 zfn i t := by
 have hi : i < ops.length := (List.getElem?_eq_some_iff.1 hR.at_).1
 show zhb L (zy7 ops E t) (f0 t) ops.length = zhb zfn (zy7 ops E t) (f0 t) i
 rw [<- zkt i ops.length (by omega)]
 refine zcy _ fun j hj hh => ?_
 obtain ⟨oj, hoj⟩ : ∃ oj, ops[j]? = some oj := ⟨_, List.getElem?_eq_getElem hj⟩
 have hdj : oj.dst = some t := by
   unfold zy7 at hh
   rw [hoj] at hh
   simp only at hh
   split at hh
   · assumption
   · exact absurd rfl hh
 rcases ht with ht | ⟨g, b, og, h1, h2, h3⟩
 · rcases hD.reads i j o oj t hR.at_ hoj hdj ht with h | h
   · rw [zg7 hR.go h.2]; simp [h.1]
   · have hn : L j = false := by
       cases hL : L j with
       | false => rfl
       | true =>
         have h2 := zg7 (fun e he hb => hC j oj e hoj hL (Array.mem_toList_iff.1 he) hb) h.2
         rw [hR.not] at h2; cases h2
     rw [hn]; simp; omega
 · have := hD.once j g oj og t hoj h2 hdj h3
   subst this
   have hd := hD.guard i o j b hR.at_ h1
   rw [zg7 hR.go hd]
   have : j < i := by
     have key : ∀ es : List Edge, (∀ e ∈ es, Region.binds .any e = true -> e.on < i) -> zax es j = true -> j < i := by
       intro es
       induction es with
       | nil => intro _ h; simp [zax] at h
       | cons e es ih =>
         intro h hd
         have ih := ih fun x hx => h x (by simp [hx])
         unfold zax at hd
         split at hd
         · rename_i hb
           split at hd
           · rename_i he; rw [<- za1 he]; exact h e (by simp) hb
           · exact ih hd
         · exact ih hd
     exact key _ (fun e he hb => hD.back i o e hR.at_ (Array.mem_toList_iff.1 he) hb) hd
   simp [this]
theorem ygv {α : Type} {l : List (Nat × α)} {id : Nat} (h : za2 l id ≠ none) : id ∈ keys l := by
 induction l with
 | nil => simp [za2] at h
 | cons x l ih =>
   obtain ⟨k, v⟩ := x
   unfold za2 at h
   unfold keys
   cases e : za5 k id with
   | true => simp [za1 e]
   | false => rw [e] at h; simp [ih h]
theorem yfu (h : At P T ops E f0 g0 c0 i o) {id : Nat} (hh : za2 (E i).os id ≠ none) : id ∈ (E i).ent.wr := by
 cases hw : (E i).want with
 | true => exact (h.ent hw).2.2.2.1 id (ygv hh)
 | false => rw [(h.ev.no hw).2.1] at hh; simp [za2] at hh
theorem ylo (h : At P T ops E f0 g0 c0 i o) {id : Nat} (hh : zbp (E i).ice id = true) : id ∈ (E i).ent.ids := by
 cases hw : (E i).want with
 | true => exact (h.ent hw).2.2.1 id (zca.1 hh)
 | false => rw [(h.ev.no hw).2.2.1] at hh; simp [zbp] at hh
theorem ypv (hD : zll ops) (hA : ∀ j o, ops[j]? = some o -> At P T ops E f0 g0 c0 j o) (hC : zn3 ops L) (hR : ye8 ops L i o) :
   yr6 P T ops (fL ops E f0 L ops.length) (gL E g0 L ops.length) (cL E c0 L ops.length) o (E i) := by
 have A := hA i o hR.at_
 have hi : i < ops.length := (List.getElem?_eq_some_iff.1 hR.at_).1
 refine ⟨?_, A.ev.no, fun hw => ?_⟩
 · have hg := A.ev.guard
   unfold zh8 at hg |-
   cases e1 : o.guard with
   | none => rw [e1] at hg; exact hg
   | some x =>
     obtain ⟨j, b⟩ := x
     rw [e1] at hg
     simp only at hg |-
     cases e2 : ops[j]? with
     | none => rw [e2] at hg; exact hg
     | some o' =>
       rw [e2] at hg
       simp only at hg |-
       cases e3 : o'.dst with
       | none => rw [e3] at hg; exact hg
       | some t =>
         rw [e3] at hg
         simp only at hg |-
         rw [yiv hD hC hR (.inr ⟨j, b, o', e1, e2, e3⟩)]
         exact hg
 · have h1 := A.ev.yes hw
   obtain ⟨n1, n2, n3, n4, n5⟩ := A.ent hw
   have hv : zcn (evf (fL ops E f0 L ops.length) []) (zbu o.op) = zcn (evf (fL ops E f0 zfn i) []) (zbu o.op) := by
     refine zgl fun x hx => ?_
     cases x with
     | tmp t => simp only [evf, za2]; rw [yiv hD hC hR (.inl hx)]
     | _ => rfl
   have hg : ∀ id, id ∈ (E i).ent.ids -> gL E g0 L ops.length id = gL E g0 zfn i id := by
     intro id hid
     show zhb L _ (g0 id) ops.length = zhb zfn _ (g0 id) i
     rw [<- zkt i ops.length (by omega)]
     refine zcy _ fun j hj hh => ?_
     obtain ⟨oj, hoj⟩ : ∃ oj, ops[j]? = some oj := ⟨_, List.getElem?_eq_getElem hj⟩
     exact yqq hA hC hR hj (id := id) (.inl ⟨yfu (hA j oj hoj) hh, .inl hid⟩)
   have hgw : ∀ id, id ∈ (E i).ent.wr -> gL E g0 L ops.length id = gL E g0 zfn i id := by
     intro id hid
     show zhb L _ (g0 id) ops.length = zhb zfn _ (g0 id) i
     rw [<- zkt i ops.length (by omega)]
     refine zcy _ fun j hj hh => ?_
     obtain ⟨oj, hoj⟩ : ∃ oj, ops[j]? = some oj := ⟨_, List.getElem?_eq_getElem hj⟩
     exact yqq hA hC hR hj (id := id) (.inl ⟨yfu (hA j oj hoj) hh, .inr hid⟩)
   have hc : ∀ id, id ∈ (E i).ent.wr -> cL E c0 L ops.length id = cL E c0 zfn i id := by
     intro id hid
     show zm0 L _ (c0 id) ops.length = zm0 zfn _ (c0 id) i
     rw [<- ye1 i ops.length (by omega)]
     refine zey _ fun j hj hh => ?_
     obtain ⟨oj, hoj⟩ : ∃ oj, ops[j]? = some oj := ⟨_, List.getElem?_eq_getElem hj⟩
     exact yqq hA hC hR hj (id := id) (.inr ⟨hid, ylo (hA j oj hoj) hh⟩)
   rcases h1 with h1 | ⟨h1, h2⟩
   · left
     rw [zk5 (f' := fL ops E f0 zfn i) (g' := gL E g0 zfn i) (c' := cL E c0 zfn i) (kn' := []) hv (fun id hid => hg id (n1 id hid)) (fun hcr d hd => hg d (n2 hcr d hd)) (fun hwr id hid => hc id (n5 hwr id hid))]
     exact h1
   · right
     refine ⟨?_, h2⟩
     obtain ⟨fo, xs, ts, k, first, caps, zs, F, fr, T', e, hvals, hM, hm, q1, q2⟩ := h1
     refine ⟨fo, xs, ts, k, first, caps, zs, F, fr, T', e, by rw [hv]; exact hvals, hM, hm.congr (fun id hid => hgw id (n4 id (by rw [q2]; exact hid))) (fun id hid => hc id (n4 id (by rw [q2]; exact hid))), q1, q2⟩
theorem ymz (hD : zll ops) (hA : ∀ j o, ops[j]? = some o -> At P T ops E f0 g0 c0 j o) (hC : zn3 ops L) (hR : ye8 ops L i o) {L' : Nat -> Bool} (h1 : L' i = true) (hne : ∀ j, j ≠ i -> L' j = L j) :
   zjq (fL ops E f0 L ops.length) o.dst (E i).v = fL ops E f0 L' ops.length /\ zb7 (gL E g0 L ops.length) (E i).os = gL E g0 L' ops.length /\ zhd (cL E c0 L ops.length) (E i).ice = cL E c0 L' ops.length := by
 have A := hA i o hR.at_
 have hi : i < ops.length := (List.getElem?_eq_some_iff.1 hR.at_).1
 refine ⟨?_, ?_, ?_⟩
 · funext t
   rw [zv3]
   have hf : zy7 ops E t i = if o.dst = some t then some (E i).v else none := by unfold zy7; rw [hR.at_]
   have := zo8 (hit := zy7 ops E t) (s := f0 t) h1 hR.not hne ops.length hi (fun hh j hij hj hLj => by
     rw [hf] at hh
     have hd : o.dst = some t := by
       split at hh
       · assumption
       · exact absurd rfl hh
     obtain ⟨oj, hoj⟩ : ∃ oj, ops[j]? = some oj := ⟨_, List.getElem?_eq_getElem hj⟩
     unfold zy7
     rw [hoj]
     simp only
     rw [if_neg]
     intro hdj
     have := hD.once i j o oj t hR.at_ hoj hd hdj
     omega)
   rw [hf] at this
   show _ = zhb L' (zy7 ops E t) (f0 t) ops.length
   rw [this]
   cases (if o.dst = some t then some (E i).v else none) <;> rfl
 · funext id
   have := zo8 (hit := fun j => za2 (E j).os id) (s := g0 id) h1 hR.not hne ops.length hi (fun hh j hij hj hLj => by
     refine Decidable.byContradiction fun hjn => ?_
     obtain ⟨oj, hoj⟩ : ∃ oj, ops[j]? = some oj := ⟨_, List.getElem?_eq_getElem hj⟩
     have := yqq hA hC hR hj (id := id) (.inl ⟨yfu (hA j oj hoj) (by intro e; rw [e] at hjn; exact hjn rfl), .inr (yfu A hh)⟩)
     rw [hLj] at this
     simp at this
     omega)
   show _ = zhb L' (fun j => za2 (E j).os id) (g0 id) ops.length
   rw [this]
   unfold zb7
   cases za2 (E i).os id <;> rfl
 · funext id
   have := zvb (p := fun j => zbp (E j).ice id) (s := c0 id) h1 hR.not hne ops.length hi
   show _ = zm0 L' _ (c0 id) ops.length
   rw [this]
   rfl
def left (L : Array Bool) : Nat := L.toList.count false
theorem ygo {L : Array Bool} {i : Nat} (h : L.getD i true = false) (hi : i < L.size) : left (L.setIfInBounds i true) + 1 = left L := by
 have hget : L[i] = false := by simpa [hi] using h
 unfold left
 have hc : 0 < List.count false L.toList := List.count_pos_iff.2 (by rw [<- hget]; simp)
 have h2 := List.count_set (a := true) (b := false) (l := L.toList) (i := i) (by simpa using hi)
 rw [Array.toList_setIfInBounds, h2]
 have e1 : (L.toList[i]'(by simpa using hi)) = false := by simpa using hget
 rw [e1]
 have e2 : ((false == false) = true) := rfl
 have e3 : ¬ ((true == false) = true) := by decide
 rw [if_pos e2, if_neg e3]
 omega
theorem zsj {L : Array Bool} {i : Nat} (h : i < L.size) (d d' : Bool) : L.getD i d = L.getD i d' := by simp [h]
theorem zr2 (hD : zll ops) {L : Array Bool} (hs : L.size = ops.length) (hn : Region.ready .any ops.toArray L = []) : ∀ j, j < ops.length -> L.getD j true = true := by
 intro j
 induction j using Nat.strongRecOn with
 | _ j ih =>
   intro hj
   refine Decidable.byContradiction fun h => ?_
   have hm : j ∈ Region.ready .any ops.toArray L := by
     rw [mem_ready]
     refine ⟨by simpa using h, ops[j], by simp [hj], fun e he hb => ?_⟩
     have hlt := hD.back j ops[j] e (List.getElem?_eq_getElem hj) he hb
     rw [zsj (by omega) false true]
     exact ih e.on hlt (by omega)
   rw [hn] at hm; cases hm
structure InvA (base : Nat) (M : Two) (W : World) (nt : Nat) (ops : List Oper) (E : Nat -> Ev) (f0 : Nat -> Option AV) (g0 : Nat -> Option Ob) (c0 : Nat -> Bool) (L : Array Bool) (a : Act) (w : World) : Prop where
 size : L.size = ops.length
 closed : zn3 ops (fun i => L.getD i false)
 sim : zgq base M W nt (fL ops E f0 (fun i => L.getD i false) ops.length) (gL E g0 (fun i => L.getD i false) ops.length) (cL E c0 (fun i => L.getD i false) ops.length) a w
theorem zql {L : Array Bool} (hs : L.size = ops.length) (h : ∀ j, j < ops.length -> L.getD j true = true) :
   fL ops E f0 (fun i => L.getD i false) ops.length = fL ops E f0 zfn ops.length /\ gL E g0 (fun i => L.getD i false) ops.length = gL E g0 zfn ops.length /\ cL E c0 (fun i => L.getD i false) ops.length = cL E c0 zfn ops.length := by
 have hj : ∀ j, j < ops.length -> L.getD j false = zfn j := fun j hj => by rw [zsj (by omega) false true]; exact h j hj
 exact ⟨funext fun t => zcy _ fun j h _ => hj j h, funext fun t => zcy _ fun j h _ => hj j h, funext fun t => zey _ fun j h _ => hj j h⟩
theorem yj0 (hT : zbd P T) (hops : ∀ o ∈ ops, yj2 nt o) (hD : zll ops) (hA : ∀ j o, ops[j]? = some o -> At P T ops E f0 g0 c0 j o) {Q : Exit -> Act -> World -> Prop}
   (hQ : ∀ a w, zgq base M W nt (fL ops E f0 zfn ops.length) (gL E g0 zfn ops.length) (cL E c0 zfn ops.length) a w -> Q .normal a w) :
   ∀ (fuel : Nat) (L : Array Bool) (a : Act) (w : World), left L <= fuel -> InvA base M W nt ops E f0 g0 c0 L a w -> wpAny P .any ops.toArray Q fuel L a w
 | 0, L, a, w, hf, I => by
   have hall : ∀ j, j < ops.length -> L.getD j true = true := fun j hj => by
     refine Decidable.byContradiction fun h => ?_
     have hm : false ∈ L.toList := by
       have hjL : j < L.size := by rw [I.size]; exact hj
       have : L[j] = false := by simpa [hjL] using h
       rw [<- this]; simp
     have := List.count_pos_iff.2 hm
     unfold left at hf; omega
   obtain ⟨e1, e2, e3⟩ := zql (E := E) (f0 := f0) (g0 := g0) (c0 := c0) I.size hall
   refine ⟨?_, hQ a w (by have := I.sim; rwa [e1, e2, e3] at this)⟩
   refine List.eq_nil_iff_forall_not_mem.2 fun j hj => ?_
   rw [mem_ready] at hj
   obtain ⟨h1, o, ho, _⟩ := hj
   have hj : j < ops.length := by
     rw [List.getElem?_toArray] at ho
     exact (List.getElem?_eq_some_iff.1 ho).1
   rw [hall j hj] at h1; cases h1
 | fuel + 1, L, a, w, hf, I => by
   refine ⟨fun hn => ?_, fun i hi => ?_⟩
   · obtain ⟨e1, e2, e3⟩ := zql (E := E) (f0 := f0) (g0 := g0) (c0 := c0) I.size (zr2 hD I.size hn)
     exact hQ a w (by have := I.sim; rwa [e1, e2, e3] at this)
   · rw [mem_ready] at hi
     obtain ⟨hun, o, ho, hed⟩ := hi
     rw [List.getElem?_toArray] at ho
     have hil : i < ops.length := (List.getElem?_eq_some_iff.1 ho).1
     have hiL : i < L.size := by rw [I.size]; exact hil
     have hR : ye8 ops (fun i => L.getD i false) i o := ⟨ho, by rw [zsj hiL false true]; exact hun, fun e he hb => hed e (Array.mem_toList_iff.1 he) hb⟩
     have hleft := ygo hun hiL
     have h1 : (fun j => (L.setIfInBounds i true).getD j false) i = true := by simp [hiL]
     have hne : ∀ j, j ≠ i -> (fun j => (L.setIfInBounds i true).getD j false) j = (fun j => L.getD j false) j := fun j hj => by
       simp only [Array.getD_eq_getD_getElem?, Array.getElem?_setIfInBounds_ne (fun e => hj e.symm)]
     obtain ⟨q1, q2, q3⟩ := ymz hD hA I.closed hR h1 hne
     refine znr hT I.sim hops ho (ypv hD hA I.closed hR) fun a' w' hs => yj0 hT hops hD hA hQ fuel _ a' w' (by omega) ⟨by simpa using I.size, ?_, ?_⟩
     · intro k ok e hk hL he hb
       by_cases hki : k = i
       · subst hki
         rw [ho] at hk; cases hk
         have := hR.go e (Array.mem_toList_iff.2 he) hb
         by_cases hei : e.on = k
         · rw [hei]; exact h1
         · have := hne e.on hei; simp only at this |-; rw [this]; exact hR.go e (Array.mem_toList_iff.2 he) hb
       · have h2 := hne k hki
         simp only at h2 hL
         rw [h2] at hL
         have := I.closed k ok e hk hL he hb
         by_cases hei : e.on = i
         · rw [hei]; exact h1
         · have h3 := hne e.on hei; simp only at h3 |-; rw [h3]; exact this
     · rw [q1, q2, q3] at hs
       exact hs
theorem zed {L : Array Bool} {i : Nat} (h : i ∈ Region.ready .any ops.toArray L) : ∃ o, ops[i]? = some o /\ L.getD i true = false /\ ∀ j, zax o.after.toList j = true -> L.getD j false = true := by
 rw [mem_ready] at h
 obtain ⟨h1, o, ho, h2⟩ := h
 rw [List.getElem?_toArray] at ho
 refine ⟨o, ho, h1, fun j hj => ?_⟩
 have : ∀ es : List Edge, zax es j = true -> ∃ e, e ∈ es /\ Region.binds .any e = true /\ e.on = j := by
   intro es
   induction es with
   | nil => intro h; cases h
   | cons x es ih =>
     intro h
     unfold zax at h
     split at h
     · rename_i hb
       split at h
       · rename_i he; exact ⟨x, by simp, hb, za1 he⟩
       · obtain ⟨e, e1, e2, e3⟩ := ih h; exact ⟨e, by simp [e1], e2, e3⟩
     · obtain ⟨e, e1, e2, e3⟩ := ih h; exact ⟨e, by simp [e1], e2, e3⟩
 obtain ⟨e, e1, e2, e3⟩ := this _ hj
 rw [<- e3]
 exact h2 e (Array.mem_toList_iff.1 e1) e2
theorem yd6 {o0 o1 o2 o3 : Oper} (hT : zbd P T) (hops : ∀ o ∈ [o0, o1, o2, o3], yj2 nt o) (hD : zll [o0, o1, o2, o3])
   (d1 : zax o1.after.toList 0 = true) (d2 : zax o2.after.toList 0 = true) (d3 : zax o3.after.toList 1 = true) (d4 : zax o3.after.toList 2 = true) {Q : Exit -> Act -> World -> Prop}
   {f f1 f2 f3 f4 f2' f3' f4' : Nat -> Option AV} {g g1 g2 g3 g4 g2' g3' g4' : Nat -> Option Ob} {c c1 c2 c3 c4 c2' c3' c4' : Nat -> Bool}
   (h0 : ∀ a w K, zgq base M W nt f g c a w -> (∀ a w, zgq base M W nt f1 g1 c1 a w -> K a w) -> wpOp P [o0, o1, o2, o3].toArray Q 0 K a w)
   (h1 : ∀ a w K, zgq base M W nt f1 g1 c1 a w -> (∀ a w, zgq base M W nt f2 g2 c2 a w -> K a w) -> wpOp P [o0, o1, o2, o3].toArray Q 1 K a w)
   (h2 : ∀ a w K, zgq base M W nt f2 g2 c2 a w -> (∀ a w, zgq base M W nt f3 g3 c3 a w -> K a w) -> wpOp P [o0, o1, o2, o3].toArray Q 2 K a w)
   (h3 : ∀ a w K, zgq base M W nt f3 g3 c3 a w -> (∀ a w, zgq base M W nt f4 g4 c4 a w -> K a w) -> wpOp P [o0, o1, o2, o3].toArray Q 3 K a w)
   (h1' : ∀ a w K, zgq base M W nt f1 g1 c1 a w -> (∀ a w, zgq base M W nt f2' g2' c2' a w -> K a w) -> wpOp P [o0, o1, o2, o3].toArray Q 2 K a w)
   (h2' : ∀ a w K, zgq base M W nt f2' g2' c2' a w -> (∀ a w, zgq base M W nt f3' g3' c3' a w -> K a w) -> wpOp P [o0, o1, o2, o3].toArray Q 1 K a w)
   (h3' : ∀ a w K, zgq base M W nt f3' g3' c3' a w -> (∀ a w, zgq base M W nt f4' g4' c4' a w -> K a w) -> wpOp P [o0, o1, o2, o3].toArray Q 3 K a w)
   (hQ : ∀ a w, zgq base M W nt f4 g4 c4 a w -> Q .normal a w) (hQ' : ∀ a w, zgq base M W nt f4' g4' c4' a w -> Q .normal a w)
   {a : Act} {w : World} (hs : zgq base M W nt f g c a w) : wpAny P .any [o0, o1, o2, o3].toArray Q 4 #[false, false, false, false] a w := by
 have nd : ∀ (L : Array Bool), L.size = 4 -> (∃ j, j < 4 /\ L.getD j true = false) -> Region.ready .any [o0, o1, o2, o3].toArray L = [] -> False := by
   intro L hL hj hn
   obtain ⟨j, hj1, hj2⟩ := hj
   have := zr2 hD (L := L) hL hn j hj1
   rw [this] at hj2; cases hj2
 have four : ∀ {i : Nat} {o : Oper}, [o0, o1, o2, o3][i]? = some o -> (i = 0 /\ o = o0) \/ (i = 1 /\ o = o1) \/ (i = 2 /\ o = o2) \/ (i = 3 /\ o = o3) := by
   intro i o h
   match i, h with
   | 0, h => cases h; simp
   | 1, h => cases h; simp
   | 2, h => cases h; simp
   | 3, h => cases h; simp
   | i + 4, h => simp at h
 refine ⟨fun hn => (nd _ rfl ⟨0, by omega, rfl⟩ hn).elim, fun i hi => ?_⟩
 obtain ⟨o, ho, hL, hd⟩ := zed hi
 rcases four ho with ⟨rfl, rfl⟩ | ⟨rfl, rfl⟩ | ⟨rfl, rfl⟩ | ⟨rfl, rfl⟩
 rotate_left
 · cases hd 0 d1
 · cases hd 0 d2
 · cases hd 1 d3
 refine h0 a w _ hs fun a w hs => ?_
 refine ⟨fun hn => (nd _ rfl ⟨1, by omega, rfl⟩ hn).elim, fun i hi => ?_⟩
 obtain ⟨o, ho, hL, hd⟩ := zed hi
 rcases four ho with ⟨rfl, rfl⟩ | ⟨rfl, rfl⟩ | ⟨rfl, rfl⟩ | ⟨rfl, rfl⟩
 · cases hL
 · refine h1 a w _ hs fun a w hs => ?_
   refine ⟨fun hn => (nd _ rfl ⟨2, by omega, rfl⟩ hn).elim, fun i hi => ?_⟩
   obtain ⟨o, ho, hL, hd⟩ := zed hi
   rcases four ho with ⟨rfl, rfl⟩ | ⟨rfl, rfl⟩ | ⟨rfl, rfl⟩ | ⟨rfl, rfl⟩
   · cases hL
   · cases hL
   · refine h2 a w _ hs fun a w hs => ?_
     refine ⟨fun hn => (nd _ rfl ⟨3, by omega, rfl⟩ hn).elim, fun i hi => ?_⟩
     obtain ⟨o, ho, hL, hd⟩ := zed hi
     rcases four ho with ⟨rfl, rfl⟩ | ⟨rfl, rfl⟩ | ⟨rfl, rfl⟩ | ⟨rfl, rfl⟩
     · cases hL
     · cases hL
     · cases hL
     · refine h3 a w _ hs fun a w hs => ?_
       refine ⟨?_, hQ a w hs⟩
       refine List.eq_nil_iff_forall_not_mem.2 fun i hi => ?_
       obtain ⟨o, ho, hL, hd⟩ := zed hi
       rcases four ho with ⟨rfl, rfl⟩ | ⟨rfl, rfl⟩ | ⟨rfl, rfl⟩ | ⟨rfl, rfl⟩ <;> cases hL
   · cases hd 2 d4
 · refine h1' a w _ hs fun a w hs => ?_
   refine ⟨fun hn => (nd _ rfl ⟨1, by omega, rfl⟩ hn).elim, fun i hi => ?_⟩
   obtain ⟨o, ho, hL, hd⟩ := zed hi
   rcases four ho with ⟨rfl, rfl⟩ | ⟨rfl, rfl⟩ | ⟨rfl, rfl⟩ | ⟨rfl, rfl⟩
   · cases hL
   · refine h2' a w _ hs fun a w hs => ?_
     refine ⟨fun hn => (nd _ rfl ⟨3, by omega, rfl⟩ hn).elim, fun i hi => ?_⟩
     obtain ⟨o, ho, hL, hd⟩ := zed hi
     rcases four ho with ⟨rfl, rfl⟩ | ⟨rfl, rfl⟩ | ⟨rfl, rfl⟩ | ⟨rfl, rfl⟩
     · cases hL
     · cases hL
     · cases hL
     · refine h3' a w _ hs fun a w hs => ?_
       refine ⟨?_, hQ' a w hs⟩
       refine List.eq_nil_iff_forall_not_mem.2 fun i hi => ?_
       obtain ⟨o, ho, hL, hd⟩ := zed hi
       rcases four ho with ⟨rfl, rfl⟩ | ⟨rfl, rfl⟩ | ⟨rfl, rfl⟩ | ⟨rfl, rfl⟩ <;> cases hL
   · cases hL
   · cases hd 1 d3
 · cases hd 1 d3
def yag (nt : Nat) (draw : Bool) (ops : List Oper) : Bool := ops.all (ys7 nt) && (!draw || zld ops 0 ops)
theorem zml {Q1 : AV -> Prop} {v : Nat} {k : St -> zcb} {s : St} (hk : zm3 (za2 s.slots) s.kn) (h : Sat P Q1 (ygs v k s)) : ∃ s' : St, s'.slots = s.slots /\ s'.objs = s.objs /\ s'.ice = s.ice /\ zm3 (za2 s'.slots) s'.kn /\ Sat P Q1 (k s') := by
 unfold ygs at h
 split at h
 · rename_i b hb
   exact ⟨s.know v b, rfl, rfl, rfl, ze7 hk hb, h⟩
 · cases h
theorem zwn {S : zn1} {Q1 : AV -> Prop} (hT : zbd P T) (hS : zdn P S) (hm : P.follows .mixedOrders = true) {draw : Bool} (hB : yag nt draw ops = true) {id : Nat} {s : St} {a : Act} {w : World} (hs : zlk base M W nt s a w)
   {k : St -> zcb} (h : Sat P Q1 (zd6 T std S draw ops ops 0 s [] k)) {Q : Exit -> Act -> World -> Prop} (hQ : ∀ s' a' w', zlk base M W nt s' a' w' -> Sat P Q1 (k s') -> Q .normal a' w') :
   (Code.region id ops.toArray draw).wp P Q a w := by
 unfold yag at hB
 rw [Bool.and_eq_true, List.all_eq_true] at hB
 have hops : ∀ o ∈ ops, yj2 nt o := fun o ho => yax (hB.1 o ho)
 obtain ⟨es, s', hW, hk', h'⟩ := zeo hS ops 0 s [] hs.2 h
 cases draw with
 | false =>
   refine wp_region ?_
   have := zyo (base := base) (M := M) (W := W) hT hops (Q := Q) ops 0 _ _ _ _ es _ _ _ a w (fun k => by simp) hW hs.1 fun a' w' hs' => hQ s' a' w' ⟨hs', hk'⟩ h'
   rw [List.range_eq_range']
   simpa using this
 | true =>
   refine wp_region_any hm ?_
   have hD := zqt (by simpa using hB.2 : zld ops 0 ops = true)
   obtain ⟨hA, e1, e2, e3⟩ := zyf (ops := ops) (E := fun j => es.getD j nothing) (f0 := za2 s.slots) (g0 := za2 s.objs) (c0 := zbp s.ice) ops 0 _ _ _ _ es _ _ _ (fun k => by simp) (fun k e he => by simp [he]) rfl rfl rfl (fun k hk => by omega) hW
   rw [Nat.zero_add] at e1 e2 e3
   have hl : left (Array.replicate ops.length false) <= ops.toArray.size := by
     unfold left; simp
   have hsz : ops.toArray.size = ops.length := by simp
   rw [hsz] at hl |-
   refine yj0 (E := fun j => es.getD j nothing) hT hops hD (fun j o ho => hA j o (by omega) ho) (fun a' w' hs' => hQ s' a' w' ⟨by rw [e1, e2, e3]; exact hs', hk'⟩ h') ops.length _ a _ hl ⟨by simp, ?_, ?_⟩
   · intro k o e hk hL _ _
     have hk : k < ops.length := (List.getElem?_eq_some_iff.1 hk).1
     simp [hk] at hL
   · have z : ∀ j, j < ops.length -> (fun i => (Array.replicate ops.length false).getD i false) j = false := fun j hj => by simp [hj]
     have h1 : fL ops (fun j => es.getD j nothing) (za2 s.slots) (fun i => (Array.replicate ops.length false).getD i false) ops.length = za2 s.slots := by
       funext t
       exact zhx 0 ops.length (fun j _ hj hL => by have := z j hj; simp only at this; rw [this] at hL; cases hL) (by omega)
     have h2 : gL (fun j => es.getD j nothing) (za2 s.objs) (fun i => (Array.replicate ops.length false).getD i false) ops.length = za2 s.objs := by
       funext t
       exact zhx 0 ops.length (fun j _ hj hL => by have := z j hj; simp only at this; rw [this] at hL; cases hL) (by omega)
     have h3 : cL (fun j => es.getD j nothing) (zbp s.ice) (fun i => (Array.replicate ops.length false).getD i false) ops.length = zbp s.ice := by
       funext t
       exact zli 0 ops.length (fun j _ hj => z j hj) (by omega)
     rw [h1, h2, h3]
     obtain ⟨D, μ, hs⟩ := hs.1
     exact ⟨D, μ, hs.drew⟩
theorem yaf {S : zn1} {Q1 : AV -> Prop} (hT : zbd P T) (hS : zdn P S) (hm : P.follows .mixedOrders = true) {draw : Bool} (hB : yag nt draw ops = true) {id : Nat} {s : St} {a : Act} {w : World} (hs : zlk base M W nt s a w)
   {k : St -> zcb} (h : Sat P Q1 (zru T std S draw ops s k)) {Q : Exit -> Act -> World -> Prop} (hQ : ∀ s' a' w', zlk base M W nt s' a' w' -> Sat P Q1 (k s') -> Q .normal a' w') :
   (Code.region id ops.toArray draw).wp P Q a w := by
 unfold zru at h
 split at h
 rotate_left
 · exact zwn hT hS hm hB hs h hQ
 rename_i v hch
 cases draw with
 | false => cases hch
 | true =>
   simp only [cond_true] at hch
   unfold yd7 at hch
   split at hch
   rotate_left
   · cases hch
   rename_i o0 o1 o2 o3
   split at hch
   rotate_left
   · cases hch
   split at hch
   rotate_left
   · cases hch
   rename_i d1 d2 d3 d4 hng
   unfold yag at hB
   rw [Bool.and_eq_true, List.all_eq_true] at hB
   have hops : ∀ o ∈ [o0, o1, o2, o3], yj2 nt o := fun o ho => yax (hB.1 o ho)
   have hD := zqt (by simpa using hB.2 : zld [o0, o1, o2, o3] 0 [o0, o1, o2, o3] = true)
   obtain ⟨n0, n1, n2, n3⟩ : o0.guard = none /\ o1.guard = none /\ o2.guard = none /\ o3.guard = none := by
     simp only [zs5] at hng
     cases e0 : o0.guard <;> cases e1 : o1.guard <;> cases e2 : o2.guard <;> cases e3 : o3.guard <;> simp_all
   obtain ⟨es, s1, hW, hk1, h⟩ := zeo hS [o0] 0 s [] hs.2 h
   cases h with
   | and hA hB2 =>
     obtain ⟨esA, sA, hWA, hkA, hA⟩ := zeo hS [o1, o2, o3] 1 s1 [] hk1 hA
     obtain ⟨esB, sB, hWB, hkB, hB2⟩ := zeo hS [o2, o1, o3] 1 s1 [] hk1 hB2
     obtain ⟨sA', q1, q2, q3, hkA', hA⟩ := zml hkA hA
     obtain ⟨sB', p1, p2, p3, hkB', hB2⟩ := zml hkB hB2
     match es, hW with
     | [e0], ⟨x0, _, w0, w0', w0''⟩ =>
       match esA, hWA with
       | [a1, a2, a3], ⟨xa1, _, xa2, _, xa3, _, wa, wa', wa''⟩ =>
         match esB, hWB with
         | [b1, b2, b3], ⟨xb1, _, xb2, _, xb3, _, wb, wb', wb''⟩ =>
           refine wp_region_any hm ?_
           obtain ⟨D, μ, hs0⟩ := hs.1
           rw [w0, w0', w0''] at xa1 xa2 xa3 xb1 xb2 xb3
           rw [w0] at wa wb
           rw [w0'] at wa' wb'
           rw [w0''] at wa'' wb''
           refine yd6 hT hops hD d1 d2 d3 d4
             (h0 := fun a w K hs hK => znr hT hs hops rfl x0 hK)
             (h1 := fun a w K hs hK => znr hT hs hops rfl xa1 hK)
             (h2 := fun a w K hs hK => znr hT hs hops rfl xa2 hK)
             (h3 := fun a w K hs hK => znr hT hs hops rfl xa3 hK)
             (h1' := fun a w K hs hK => znr hT hs hops rfl xb1 hK)
             (h2' := fun a w K hs hK => znr hT hs hops rfl xb2 hK)
             (h3' := fun a w K hs hK => znr hT hs hops rfl xb3 hK)
             (hQ := fun a w hs => hQ sA' a w ⟨?_, hkA'⟩ hA) (hQ' := fun a w hs => hQ sB' a w ⟨?_, hkB'⟩ hB2) ⟨D, μ, hs0.drew⟩
           · rw [q1, q2, q3, wa, wa', wa'']; exact hs
           · rw [p1, p2, p3, wb, wb', wb'']; exact hs
end
end Sy
end Go.Proofs.Ytogomcfgfnlclaa
namespace Go.Proofs.Ytogomcfgfnlclaa
namespace Sy
open Go Go.RowKit
set_option linter.unusedSimpArgs false
set_option linter.unusedVariables false
set_option linter.unusedSectionVars false
section
variable {P : Program} {Q : AV -> Prop} {base : Nat} {M : Two} {W : World} {nt : Nat} {s tm : St} {a : Act} {w : World} {hold : List Nat} {next : zcb}
def frz (ice : List Nat) (objs : List (Nat × Ob)) (F : List (Nat × Option Nat)) : List Nat := match objs with
 | [] => []
 | (t, _) :: r => match za2 F t with
   | some (some id) => if zbp ice t = true then id :: frz ice r F else frz ice r F
   | _ => frz ice r F
theorem zl7 {ice : List Nat} {F : List (Nat × Option Nat)} : ∀ {objs : List (Nat × Ob)} {id : Nat}, id ∈ frz ice objs F -> ∃ t, za2 F t = some (some id) /\ zbp ice t = true /\ za2 objs t ≠ none
 | [], id, h => by cases h
 | (t, o) :: r, id, h => by
   unfold frz at h
   have up : ∀ {t'}, za2 r t' ≠ none -> za2 ((t, o) :: r) t' ≠ none := by
     intro t' h
     unfold za2
     split
     · simp
     · exact h
   split at h
   · rename_i k hk
     split at h
     · rename_i e
       rcases List.mem_cons.1 h with rfl | h
       · exact ⟨t, hk, e, by simp [za2, za3]⟩
       · obtain ⟨t', h1, h2, h3⟩ := zl7 h; exact ⟨t', h1, h2, up h3⟩
     · obtain ⟨t', h1, h2, h3⟩ := zl7 h; exact ⟨t', h1, h2, up h3⟩
   · obtain ⟨t', h1, h2, h3⟩ := zl7 h; exact ⟨t', h1, h2, up h3⟩
theorem ybn {ice : List Nat} {F : List (Nat × Option Nat)} : ∀ {objs : List (Nat × Ob)} {id t : Nat}, za2 F t = some (some id) -> zbp ice t = true -> za2 objs t ≠ none -> id ∈ frz ice objs F
 | [], id, t, _, _, h => by simp [za2] at h
 | (k, o) :: r, id, t, h1, h2, h3 => by
   unfold frz
   unfold za2 at h3
   cases e : za5 k t with
   | true =>
     have := za1 e; subst this
     rw [h1]
     simp only
     rw [if_pos h2]
     simp
   | false =>
     rw [e] at h3
     have ih := ybn (objs := r) h1 h2 h3
     split
     · split
       · exact List.mem_cons_of_mem _ ih
       · exact ih
     · exact ih
theorem zkj : ∀ {F : List (Nat × Option Nat)}, zrx F = true -> ∀ t x, za2 F t = some x -> zct t = true -> x = some t
 | [], _, t, x, h, _ => by cases h
 | (k, y) :: r, e, t, x, h, hp => by
   unfold zrx at e
   unfold za2 at h
   split at h
   · rename_i hb
     have hk := za1 hb; subst hk
     cases h
     rw [hp] at e
     simp only at e
     split at e
     · rename_i hi; exact zsd hi
     · cases e
   · have e' : zrx r = true := by
       split at e
       · split at e
         · exact e
         · cases e
       · exact e
     exact zkj e' t x h hp
structure zga (g O : Nat -> Option Ob) (F : List (Nat × Option Nat)) : Prop where
 gp : Plain g
 opl : ∀ n o, O n = some o -> n < zbv
 dom : ∀ n x, za2 F n = some x -> O n ≠ none
 tb : ∀ n o id, O n = some o -> za2 F n = some (some id) -> ∃ o', g id = some o' /\ zgb o o'
 tid : ∀ t o, O t = some o -> zau o = true -> za2 F t = some (some t)
 inj : Inj F
theorem zga.fp {g O : Nat -> Option Ob} {F : List (Nat × Option Nat)} (m : zga g O F) {n id : Nat} (h : za2 F n = some (some id)) : id < zbv := by
 obtain ⟨o, ho⟩ := Option.ne_none_iff_exists'.1 (m.dom n _ h)
 obtain ⟨o', q, _⟩ := m.tb n o id ho h
 exact (m.gp _ _ q).1
theorem zg4 (G : Nat -> Option Ob) {i : Nat} (hi : zb4 i = true) : gx G i = zdx (G (zgg i)) (zp1 i) := by unfold gx; rw [if_pos hi]
theorem zga.row {g O : Nat -> Option Ob} {F : List (Nat × Option Nat)} (m : zga g O F) {n : Nat} (hn : zb4 n = true) :
   (za2 F (zgg n) = some (some (zgg n)) /\ (gx O n = none ↔ gx g n = none) /\ ∀ r, gx O n = some r -> ∃ ty sz k get get', r = .row ty sz k get /\ gx g n = some (.row ty sz k get') /\ ∀ i j, i < k -> j < sz -> get' i j = get i j) \/
   (za2 F (zgg n) ≠ some (some (zgg n)) /\ gx O n = none) := by
 rw [zg4 O hn, zg4 g hn]
 by_cases hF : za2 F (zgg n) = some (some (zgg n))
 · obtain ⟨o, ho⟩ := Option.ne_none_iff_exists'.1 (m.dom _ _ hF)
   obtain ⟨o', q, ht⟩ := m.tb _ o _ ho hF
   rw [ho, q]
   exact .inl ⟨hF, ht.mem _⟩
 · refine .inr ⟨hF, zc9 (fun o ho => ?_) _⟩
   cases e : zau o with
   | false => rfl
   | true => exact absurd (m.tid _ o ho e) hF
theorem zv2 {F : List (Nat × Option Nat)} {O : Nat -> Option Ob} {n : Nat} (hn : zb4 n = true) : gF F O n = match gx O n with | some _ => some (some n) | none => none := by
 unfold gF
 refine (if_pos hn).trans ?_
 cases gx O n <;> rfl
theorem zei {F : List (Nat × Option Nat)} {O : Nat -> Option Ob} {n : Nat} (hn : ¬ zb4 n = true) : gF F O n = za2 F n := by unfold gF; rw [if_neg hn]
theorem zga.muF {g O : Nat -> Option Ob} {F : List (Nat × Option Nat)} (m : zga g O F) {μ : Mu} (hd : ∀ id, μ id = none ↔ gx g id = none) (n : Nat) : zfm μ F n = match gF F O n with | some (some id) => μ id | some none => some none | none => none := by
 by_cases hn : zb4 n = true
 · rw [zv2 hn]
   unfold zfm
   rw [if_pos hn]
   rcases m.row hn with ⟨h1, h2, _⟩ | ⟨h1, h2⟩
   · rw [if_pos h1]
     cases e : gx O n with
     | some _ => rfl
     | none => simp only; rw [hd n]; exact h2.1 e
   · rw [if_neg h1, h2]
 · rw [zei hn, zgf (by have := mt zcu.2 hn; omega)]; rfl
theorem zqk {F : List (Nat × Option Nat)} {O : Nat -> Option Ob} {t id : Nat} (ht : zb4 t = true) (e : gF F O t = some (some id)) : id = t := by
 rw [zv2 ht] at e
 split at e
 · cases e; rfl
 · cases e
theorem zga.gInj {g O : Nat -> Option Ob} {F : List (Nat × Option Nat)} (m : zga g O F) : ∀ t t' id, gF F O t = some (some id) -> gF F O t' = some (some id) -> t = t' := fun t t' id h1 h2 => by
 have nomid : ∀ {i}, i < zbv -> ¬ zb4 i = true := fun hi => by rw [zaw.2 hi]; decide
 by_cases e1 : zb4 t = true <;> by_cases e2 : zb4 t' = true
 · rw [<- zqk e1 h1, <- zqk e2 h2]
 · have q1 := zqk e1 h1
   rw [zei e2] at h2
   have q2 := m.fp h2
   rw [q1] at q2
   exact absurd e1 (nomid q2)
 · have q1 := zqk e2 h2
   rw [zei e1] at h1
   have q2 := m.fp h1
   rw [q1] at q2
   exact absurd e2 (nomid q2)
 · rw [zei e1] at h1
   rw [zei e2] at h2
   exact m.inj _ _ _ h1 h2
theorem zga.gDom {g O : Nat -> Option Ob} {F : List (Nat × Option Nat)} (m : zga g O F) {n : Nat} {x : Option Nat} (hx : gF F O n = some x) : gx O n ≠ none := by
 by_cases hn : zb4 n = true
 · rw [zv2 hn] at hx
   intro e
   rw [e] at hx; cases hx
 · rw [zei hn] at hx
   obtain ⟨o, ho⟩ := Option.ne_none_iff_exists'.1 (m.dom n _ hx)
   rw [zab (by simpa using hn), ho]; simp
theorem zwk {h : Array Obj} {D : Nat -> Prop} {μ μ' : Mu} {ty sz k : Nat} {get get' : Nat -> Nat -> AV} (e : ∀ i j, i < k -> j < sz -> get' i j = get i j) {y : Option (Nat × Nat × Nat)} (r : zdg h D μ (.row ty sz k get') y) : zdg h D μ' (.row ty sz k get) y := by
 match y, r with
 | none, r => exact r
 | some (b, z, m'), ⟨e0, cc, t, fr', k1, k2, k3, k4, k5⟩ =>
   exact ⟨e0, cc, t, fr', k1, k2, k3, k4, fun i j hi hj => by
     obtain ⟨v, v1, v2, v3⟩ := k5 i j hi hj
     exact ⟨v, v1, v2, by rw [<- e i j hi hj]; exact v3⟩⟩
theorem zg1 {tm : List (Nat × Ob)} : ∀ {objs : List (Nat × Ob)}, zhz objs tm = true -> ∀ t o, za2 objs t = some o -> zau o = true -> ∃ o', za2 tm t = some o' /\ zau o' = true
 | [], _, _, _, h, _ => by cases h
 | (m, o') :: r, e, t, o, h, ht => by
   unfold zhz at e
   unfold za2 at h
   split at e
   · rename_i q; cases q
   · rename_i q; cases q
     split at e
     · rename_i hO
       split at h
       · rename_i he
         have := za1 he; subst this
         exact ⟨_, hO, rfl⟩
       · exact zg1 e t o h ht
     · cases e
   · rename_i hno q; cases q
     split at h
     · cases h
       cases o' <;> first | exact (hno _ _ _ _ _ _ rfl).elim | cases ht
     · exact zg1 e t o h ht
theorem zm6 : ∀ {O : List (Nat × Ob)} {t : Nat} {o : Ob}, za2 O t = some o -> zau o = true -> t ∈ zp8 O
 | [], _, _, h, _ => by cases h
 | (m, o') :: r, t, o, h, ht => by
   unfold za2 at h
   split at h
   · rename_i he
     cases h
     rw [za1 he]
     cases o' <;> first | exact List.mem_cons_self .. | cases ht
   · have ih := zm6 h ht
     cases o' <;> first | exact ih | exact List.mem_cons_of_mem _ ih
theorem zpj : ∀ {l : List Nat} {t : Nat}, t ∈ l -> za2 (zpk l) t = some (some t)
 | [], t, h => by cases h
 | i :: r, t, h => by
   unfold zpk za2
   cases e : za5 i t with
   | true => simp only; rw [za1 e]
   | false =>
     simp only
     rcases List.mem_cons.1 h with rfl | h
     · rw [za3] at e; cases e
     · exact zpj h
theorem yos {pin : Nat -> Option (Nat × Nat × Nat)} {μ : Mu} {F : List (Nat × Option Nat)} (h : ∀ id y, zct id = true -> μ id = some y -> y = pin id) (hF : zrx F = true) {id : Nat} {y : Option (Nat × Nat × Nat)} (hp : zct id = true) (hy : zfm μ F id = some y) : y = pin id := by
 unfold zfm at hy
 split at hy
 · rename_i hm
   rw [zi0 (Nat.le_trans zov (zcu.1 hm))] at hp; cases hp
 · unfold ybg at hy
   split at hy
   · rename_i k hk
     have := zkj hF id _ hk hp
     cases this
     exact h id y hp hy
   · rename_i hk
     have := zkj hF id _ hk hp
     cases this
   · cases hy
theorem ybq (hs : zlk base M W nt s a w) (h : Sat P Q (zwz s tm hold next)) (hkn : tm.kn = []) : zlk base M W nt tm a w /\ Sat P Q next := by
 unfold zwz at h
 split at h
 · rename_i m1 e1
   split at h
   · rename_i m2 e2
     split at h
     · rename_i hin hice hpin
       split at h
       case h_2 => cases h
       rename_i hkb
       rw [Bool.and_eq_true] at hkb
       obtain ⟨hkt, hbk⟩ := hkb
       obtain ⟨hps, hnext⟩ := zhj h
       rw [zae] at hps
       have hps := fun p hh => hps p (List.mem_append_right _ hh)
       refine ⟨?_, hnext⟩
       obtain ⟨⟨D, μ, S⟩, _⟩ := hs
       let F := m2.ids
       obtain ⟨x2, r20⟩ := ze2 (h := w.heap) (D := D) (μ := μ) e2
       obtain ⟨x1, -⟩ := zef (h := w.heap) (D := D) (μ := μ) (a := a) e1
       have hF2 : Fin m2 F := ⟨fun _ _ h => h, hps⟩
       have hF1 : Fin m1 F := hF2.of x2
       have hInj : Inj F := x2.inj (x1.inj fun t t' id h1 h2 => by
         have q1 := zhk h1; have q2 := zhk h2
         simp only [Option.some.injEq] at q1 q2
         rw [<- q1, <- q2])
       have TM : zga (za2 s.objs) (za2 tm.objs) F := { gp := S.tbs, opl := zfi hbk, dom := fun n x hx => zl0 hin n x hx, tb := fun n o id ho hF => (r20 F hF2 n o ho).tb id hF, tid := fun t o ho ht => x2.ids _ _ (x1.ids _ _ (zpj (by rw [zae]; exact List.mem_append_left _ (zm6 ho ht)))), inj := hInj }
       have hal : ∀ id, id ∈ frz tm.ice tm.objs F -> ∃ o, za2 s.objs id = some o /\ o ≠ .gone := by
         intro id hid
         obtain ⟨t, h1, h2, h3⟩ := zl7 hid
         obtain ⟨o, ho⟩ := Option.ne_none_iff_exists'.1 h3
         obtain ⟨x, hx, hp⟩ := (r20 F hF2 t o ho).pair
         rw [h1] at hx
         cases hx
         obtain ⟨_, o', ho', hne, _⟩ := hp
         exact ⟨o', ho', hne⟩
       have S' := S.freeze (frz tm.ice tm.objs F) hal
       obtain ⟨_, r1⟩ := zef (h := w.heap) (D := fun b => D b \/ ∃ id z m, id ∈ frz tm.ice tm.objs F /\ μ id = some (some (b, z, m))) (μ := μ) (a := a) e1
       obtain ⟨_, r2⟩ := ze2 (h := w.heap) (D := fun b => D b \/ ∃ id z m, id ∈ frz tm.ice tm.objs F /\ μ id = some (some (b, z, m))) (μ := μ) e2
       generalize hDD : (fun b => D b \/ ∃ id z m, id ∈ frz tm.ice tm.objs F /\ μ id = some (some (b, z, m))) = D' at S' r1 r2
       have r1 := r1 F hF1 S'.slots
       have r2 := r2 F hF2
       have muF := TM.muF S.domx
       have pl : ∀ tid b z, zfm μ F tid = some (some (b, z)) -> ∃ id, gF F (za2 tm.objs) tid = some (some id) /\ μ id = some (some (b, z)) := by
         intro tid b z hm
         rw [muF] at hm
         split at hm
         · rename_i id hid; exact ⟨id, hid, hm⟩
         · cases hm
         · cases hm
       have icm : ∀ id, zb4 id = true -> zbp tm.ice id = false := fun id hm => by
         cases hl : zbp tm.ice id with
         | false => rfl
         | true =>
           obtain ⟨o, ho⟩ := Option.ne_none_iff_exists'.1 (zl4 hice id hl)
           rw [zaw.2 (zfi hbk id o ho)] at hm; cases hm
       have obs : ∀ tid o, gx (za2 tm.objs) tid = some o -> ∃ x, gF F (za2 tm.objs) tid = some x /\ match x with
           | some id => (zbp s.ice id = true -> zbp tm.ice tid = true) /\ ∃ o', gx (za2 s.objs) id = some o' /\ o' ≠ .gone /\ ∀ y, zdg w.heap D' μ o' y -> zdg w.heap D' (zfm μ F) o y
           | none => zdg w.heap D' (zfm μ F) o none := by
         intro tid o ho
         by_cases hm : zb4 tid = true
         · rw [zv2 hm, ho]
           refine ⟨some tid, rfl, fun hi => (by rw [S.icm tid hm] at hi; cases hi), ?_⟩
           rcases TM.row hm with ⟨h1, h2, h3⟩ | ⟨h1, h2⟩
           · obtain ⟨ty, sz, k, get, get', rfl, q1, q2⟩ := h3 o ho
             exact ⟨_, q1, by simp, fun y => zwk q2⟩
           · rw [h2] at ho; cases ho
         · rw [zab (by simpa using hm)] at ho
           rw [zei hm]
           obtain ⟨x, hx, hp⟩ := (r2 tid o ho).pair
           refine ⟨x, hx, ?_⟩
           cases x with
           | none => exact hp
           | some id =>
             obtain ⟨h1, o', ho', hne, h2⟩ := hp
             exact ⟨h1, o', S.tbs.up ho', hne, h2⟩
       have obj : ∀ tid id, gF F (za2 tm.objs) tid = some (some id) -> ∃ o', gx (za2 s.objs) id = some o' /\ o' ≠ .gone /\ (zbp s.ice id = true -> zbp tm.ice tid = true) := by
         intro tid id hid
         obtain ⟨o, ho⟩ := Option.ne_none_iff_exists'.1 (TM.gDom hid)
         obtain ⟨x, hx, hp⟩ := obs tid o ho
         rw [hx] at hid
         cases hid
         obtain ⟨h1, o', ho', hne, _⟩ := hp
         exact ⟨o', ho', hne, h1⟩
       refine ⟨⟨D', zfm μ F, { S' with slots := r1, domx := fun id => ?_, obsx := fun id o x h1 h2 => ?_, injx := ?_, own := fun id b z hm => ?_, kdx := ?_, icyx := fun id hc => ?_, pin := fun id y hp hy => yos S.pin hpin hp hy, tbs := fun id o ho => ⟨zfi hbk id o ho, fun ht => ?_⟩, icm := icm, mems := fun id y hm hy => ?_ }⟩, fun t b ht => by rw [hkn] at ht; cases ht⟩
       · rw [muF]
         constructor
         · intro hm
           refine Classical.byContradiction fun ho => ?_
           obtain ⟨o, ho⟩ := Option.ne_none_iff_exists'.1 ho
           obtain ⟨x, hx, hp⟩ := obs id o ho
           rw [hx] at hm
           cases x with
           | none => cases hm
           | some k =>
             simp only at hm hp
             obtain ⟨_, o', ho', _, _⟩ := hp
             have := (S.domx k).1 hm
             rw [ho'] at this; cases this
         · intro ho
           cases hf : gF F (za2 tm.objs) id with
           | none => rfl
           | some x => exact absurd ho (TM.gDom hf)
       · obtain ⟨y, hy, hp⟩ := obs id o h1
         rw [muF, hy] at h2
         cases y with
         | none => cases h2; exact hp
         | some k =>
           simp only at h2 hp
           obtain ⟨_, o', ho', _, hr⟩ := hp
           exact hr x (S'.obsx k o' x ho' h2)
       · intro id id' b z z' o o' h1 h2 _ _ _ _
         obtain ⟨k, hk, hm⟩ := pl id b z h1
         obtain ⟨k', hk', hm'⟩ := pl id' b z' h2
         obtain ⟨q, hq, hqn, _⟩ := obj id k hk
         obtain ⟨q', hq', hqn', _⟩ := obj id' k' hk'
         have := S.injx k k' b z z' q q' hm hm' hq hq' hqn hqn'
         subst this
         exact TM.gInj _ _ _ hk hk'
       · obtain ⟨k, hk, hm⟩ := pl id b z hm
         exact S.own k b z hm
       · intro id b z o h1 h2 h3
         obtain ⟨k, hk, hm⟩ := pl id b z h1
         obtain ⟨q, hq, hqn, hic⟩ := obj id k hk
         have K := S'.kdx k b z q hm hq hqn
         by_cases hmid : zb4 id = true
         · have hki := zqk hmid hk
           subst hki
           have hc0 : zhd (zbp s.ice) (frz tm.ice tm.objs F) k = false := S'.icm k hmid
           refine ⟨fun hc => ?_, fun _ => K.2 hc0⟩
           rw [icm k hmid] at hc; cases hc
         · rw [zei hmid] at hk
           rw [zab (by simpa using hmid)] at h2
           refine ⟨fun hc => K.1 ?_, fun hc => K.2 ?_⟩
           · unfold zhd
             rw [zca.2 (ybn hk hc (by rw [h2]; simp))]; rfl
           · unfold zhd
             rw [Bool.or_eq_false_iff]
             refine ⟨?_, ?_⟩
             · cases hl : zbp (frz tm.ice tm.objs F) k with
               | false => rfl
               | true =>
                 obtain ⟨t, t1, t2, _⟩ := zl7 (zca.1 hl)
                 have := hInj _ _ _ t1 hk
                 subst this
                 rw [hc] at t2; cases t2
             · cases hl : zbp s.ice k with
               | false => rfl
               | true => have := hic hl; rw [hc] at this; cases this
       · obtain ⟨o, ho⟩ := Option.ne_none_iff_exists'.1 (zl4 hice id hc)
         rw [zab (zaw.2 (zfi hbk id o ho)), ho]; simp
       · obtain ⟨o', q1, q2⟩ := TM.tb id o id ho (TM.tid id o ho ht)
         exact (S.tbs id o' q1).2 (q2.1.trans ht)
       · have hy := S.mems id y hm hy
         have hg : gx (za2 s.objs) id ≠ none := fun e => by rw [(S.domx id).2 e] at hy; cases hy
         rw [zg4 _ hm] at hg
         cases ho : za2 s.objs (zgg id) with
         | none => rw [ho] at hg; exact absurd rfl hg
         | some o =>
           have ht : zau o = true := by
             cases e : zau o with
             | true => rfl
             | false => rw [ho] at hg; exact absurd (zc9 (fun x hx => by cases hx; exact e) _) hg
           obtain ⟨o', q1, q2⟩ := zg1 hkt _ o ho ht
           unfold zfm
           rw [if_pos hm, if_pos (TM.tid _ o' q1 q2)]
           exact hy
     · cases h
   · cases h
 · cases h
theorem ybp (hs : zlk base M W nt s a w) (h : Sat P Q (zwz s tm hold next)) : ∀ n o, za2 tm.objs n = some o -> o ≠ .gone := by
 unfold zwz at h
 split at h
 · rename_i m1 e1
   split at h
   · rename_i m2 e2
     split at h
     · split at h
       case h_2 => cases h
       obtain ⟨hps, hnext⟩ := zhj h
       rw [zae] at hps
       have hps := fun p hh => hps p (List.mem_append_right _ hh)
       intro n o ho
       obtain ⟨x2, r2⟩ := ze2 (h := #[]) (D := fun _ => False) (μ := zar) e2
       exact (r2 m2.ids ⟨fun _ _ h => h, hps⟩ n o ho).live
     · cases h
   · cases h
 · cases h
end
end Sy
end Go.Proofs.Ytogomcfgfnlclaa
namespace Go.Proofs.Ytogomcfgfnlclaa
namespace Sy
open Go Go.RowKit
set_option linter.unusedSimpArgs false
set_option linter.unusedVariables false
set_option linter.unusedSectionVars false
def ynv : Ex -> Exit
 | .normal => .normal
 | .exit id => .exit id
 | .goto l => .goto l
 | .ret => .ret
def zg6 : Code -> List Code
 | .seq a b => zg6 a ++ zg6 b
 | .skip => []
 | .label _ => []
 | c => [c]
def WPl (P : Program) : List Code -> (Exit -> Act -> World -> Prop) -> Act -> World -> Prop
 | [], Q, a, w => Q .normal a w
 | c :: cs, Q, a, w => c.wp P (Exit.then (WPl P cs Q) Q) a w
theorem zf5 {P : Program} {Q : Exit -> Act -> World -> Prop} : Exit.then (WPl P [] Q) Q = Q := by
 funext e a w; cases e <;> rfl
theorem zya {P : Program} {ys : List Code} {Q : Exit -> Act -> World -> Prop} : ∀ {xs : List Code}, WPl P (xs ++ ys) Q = WPl P xs (Exit.then (WPl P ys Q) Q)
 | [] => rfl
 | c :: xs => by
   funext a w
   show c.wp P (Exit.then (WPl P (xs ++ ys) Q) Q) a w = c.wp P (Exit.then (WPl P xs (Exit.then (WPl P ys Q) Q)) (Exit.then (WPl P ys Q) Q)) a w
   rw [zya (xs := xs)]
   congr 1
   funext e a w
   cases e <;> rfl
theorem zyb {P : Program} {c : Code} {Q : Exit -> Act -> World -> Prop} {a : Act} {w : World} (h : WPl P [c] Q a w) : c.wp P Q a w := by
 have : c.wp P (Exit.then (WPl P [] Q) Q) a w := h
 rwa [zf5] at this
theorem ze3 {P : Program} : ∀ {c : Code} {Q : Exit -> Act -> World -> Prop} {a : Act} {w : World}, WPl P (zg6 c) Q a w -> c.wp P Q a w := by
 intro c
 induction c with
 | seq x y ih1 ih2 =>
   intro Q a w h
   unfold zg6 at h
   rw [zya] at h
   refine wp_seq (wp_mono (ih1 h) fun e a w hq => ?_)
   cases e with
   | normal => exact ih2 hq
   | _ => exact hq
 | skip => intro Q a w h; exact wp_skip h
 | label l => intro Q a w h; exact wp_label h
 | _ => intro Q a w h; exact zyb h
def ziw : List Nat -> Bool
 | [] => true
 | x :: xs => !zbp xs x && ziw xs
def zc5 (nt : Nat) : Code -> Bool
 | .region _ ops d => yag nt d ops.toList
 | .seq a b => zc5 nt a && zc5 nt b
 | .cond _ a b => zc5 nt a && zc5 nt b
 | .block _ b => zc5 nt b
 | .loop b => zc5 nt b
 | .scope b => ziw (zdh b) && zc5 nt b
 | _ => true
theorem zon : ∀ {c : Code} {l : Nat} {r : Code}, findLabel c l = some r -> l ∈ zdh c := by
 intro c
 induction c with
 | seq a b ih1 ih2 =>
   intro l r h
   unfold findLabel at h
   simp only [zdh, zae, List.mem_append]
   cases e : findLabel a l with
   | some x => exact .inl (ih1 e)
   | none => rw [e] at h; exact .inr (ih2 h)
 | label l' =>
   intro l r h
   unfold findLabel at h
   split at h
   · rename_i e; simp [zdh, beq_iff_eq.1 e]
   · cases h
 | _ => intro l r h; simp [findLabel] at h
theorem ycv {nt : Nat} : ∀ {c : Code} {l : Nat} {r : Code}, findLabel c l = some r -> zc5 nt c = true -> zc5 nt r = true := by
 intro c
 induction c with
 | seq a b ih1 ih2 =>
   intro l r h hc
   unfold zc5 at hc
   rw [Bool.and_eq_true] at hc
   unfold findLabel at h
   cases e : findLabel a l with
   | some x =>
     rw [e] at h
     cases h
     unfold zc5
     rw [Bool.and_eq_true]
     exact ⟨ih1 e hc.1, hc.2⟩
   | none => rw [e] at h; exact ih2 h hc.2
 | label l' =>
   intro l r h _
   unfold findLabel at h
   split at h
   · cases h; rfl
   · cases h
 | _ => intro l r h; simp [findLabel] at h
theorem yb7 {xs ys : List Nat} (h : ziw (xs ++ ys) = true) : ziw xs = true /\ ziw ys = true /\ ∀ l, l ∈ xs -> l ∉ ys := by
 induction xs with
 | nil => exact ⟨rfl, h, fun l hl => by cases hl⟩
 | cons x xs ih =>
   simp only [List.cons_append, ziw, Bool.and_eq_true, Bool.not_eq_true'] at h |-
   obtain ⟨h1, h2⟩ := h
   obtain ⟨i1, i2, i3⟩ := ih h2
   have hx : x ∉ xs ++ ys := fun hm => by rw [zca.2 hm] at h1; cases h1
   simp only [List.mem_append, not_or] at hx
   refine ⟨⟨?_, i1⟩, i2, fun l hl => ?_⟩
   · cases e : zbp xs x with
     | false => rfl
     | true => exact absurd (zca.1 e) hx.1
   · rcases List.mem_cons.1 hl with rfl | hl
     · exact hx.2
     · exact i3 l hl
theorem ycw : ∀ {c : Code} {l0 l : Nat} {r c' : Code}, ziw (zdh c) = true -> findLabel c l0 = some r -> findLabel r l = some c' -> ∃ c'', findLabel c l = some c'' /\ zg6 c'' = zg6 c' := by
 intro c
 induction c with
 | seq a b ih1 ih2 =>
   intro l0 l r c' hn h h'
   simp only [zdh, zae] at hn
   obtain ⟨n1, n2, n3⟩ := yb7 hn
   have none_of : ∀ {x}, findLabel b l = some x -> findLabel a l = none := by
     intro x hx
     cases e : findLabel a l with
     | none => rfl
     | some y => exact absurd (zon hx) (n3 l (zon e))
   unfold findLabel at h
   cases e : findLabel a l0 with
   | some x =>
     rw [e] at h
     cases h
     unfold findLabel at h'
     cases e' : findLabel x l with
     | some y =>
       rw [e'] at h'
       cases h'
       obtain ⟨c'', h1, h2⟩ := ih1 n1 e e'
       exact ⟨.seq c'' b, by simp [findLabel, h1], by simp [zg6, h2]⟩
     | none =>
       rw [e'] at h'
       exact ⟨c', by simp only [findLabel]; rw [none_of h']; exact h', rfl⟩
   | none =>
     rw [e] at h
     obtain ⟨c'', h1, h2⟩ := ih2 n2 h h'
     exact ⟨c'', by simp only [findLabel]; rw [none_of h1]; exact h1, h2⟩
 | label l' =>
   intro l0 l r c' _ h h'
   unfold findLabel at h
   split at h
   · cases h; simp [findLabel] at h'
   · cases h
 | _ => intro l0 l r c' _ h; simp [findLabel] at h
inductive ynp (P : Program) (Q : Exit -> Act -> World -> Prop) (body : Code) : Code -> Act -> World -> Prop
 | mk {c : Code} {a : Act} {w : World} (R : Exit -> Act -> World -> Prop) (h : c.wp P R a w)
     (hn : ∀ e a' w', R e a' w' -> (∀ l rest, e = .goto l -> findLabel body l = some rest -> False) -> Q e a' w')
     (hg : ∀ l rest a' w', R (.goto l) a' w' -> findLabel body l = some rest -> ynp P Q body rest a' w') : ynp P Q body c a w
def Qg (P : Program) (Q : Exit -> Act -> World -> Prop) (body : Code) : Exit -> Act -> World -> Prop
 | .goto l, a, w => match findLabel body l with
   | some rest => ynp P Q body rest a w
   | none => Q (.goto l) a w
 | e, a, w => Q e a w
theorem ycg {P : Program} {Q : Exit -> Act -> World -> Prop} {body c : Code} {a : Act} {w : World} (h : c.wp P (Qg P Q body) a w) : ynp P Q body c a w := by
 refine .mk _ h (fun e a' w' hq hno => ?_) (fun l rest a' w' hq hf => ?_)
 · cases e with
   | goto l =>
     simp only [Qg] at hq
     split at hq
     · rename_i rest hf; exact (hno l rest rfl hf).elim
     · exact hq
   | _ => exact hq
 · simp only [Qg] at hq
   rw [hf] at hq
   exact hq
theorem yls {P : Program} {Q : Exit -> Act -> World -> Prop} {body : Code} {c : Code} {a : Act} {w : World} (g : ynp P Q body c a w) :
   ∀ (b : Frame) (k : List Item) (cs : List Frame), ∃ e a' w', Q e a' w' /\ Arrives P (lone (b.at a (.code c :: .inScope body :: k)) cs w) b k cs e a' w' := by
 induction g with
 | mk R h hn hg ih =>
   intro b k cs
   obtain ⟨e, a₁, w₁, hq, harr⟩ := h b (.inScope body :: k) cs
   cases e with
   | normal => exact ⟨.normal, a₁, w₁, hn _ _ _ hq (fun _ _ h => by cases h), Steps.trans harr (.one step_inScope)⟩
   | exit id => exact ⟨.exit id, a₁, w₁, hn _ _ _ hq (fun _ _ h => by cases h), fun k' hk => harr k' (by simp [exitTo, hk])⟩
   | goto l =>
     cases hf : findLabel body l with
     | some rest =>
       obtain ⟨e₂, a₂, w₂, hq₂, harr₂⟩ := ih l rest a₁ w₁ hq hf b k cs
       exact ⟨e₂, a₂, w₂, hq₂, .of_steps (harr _ (by simp [gotoIn, hf])) harr₂⟩
     | none =>
       refine ⟨.goto l, a₁, w₁, hn _ _ _ hq (fun l' r h hf' => by cases h; rw [hf] at hf'; cases hf'), fun k' hk => harr k' (by simp [gotoIn, hf, hk])⟩
   | ret => exact ⟨_, a₁, w₁, hn _ _ _ hq (fun _ _ h => by cases h), harr⟩
   | panic ch => exact ⟨_, a₁, w₁, hn _ _ _ hq (fun _ _ h => by cases h), harr⟩
   | outgrown => exact ⟨_, a₁, w₁, hn _ _ _ hq (fun _ _ h => by cases h), harr⟩
theorem zn7 {P : Program} {Q : Exit -> Act -> World -> Prop} {body : Code} {a : Act} {w : World} (g : ynp P Q body body a w) : (Code.scope body).wp P Q a w := by
 intro b k cs
 obtain ⟨e, a₁, w₁, hq, harr⟩ := yls g b k cs
 exact ⟨e, a₁, w₁, hq, .of_steps (.one step_scope) harr⟩
section
variable {P : Program} {T : TT} {S : zn1} {lo lb : Nat -> St -> Option Ann} {base : Nat} {M : Two} {W : World} {nt : Nat} {Q1 : AV -> Prop}
def Kon (P : Program) (base : Nat) (M : Two) (W : World) (nt : Nat) (Q1 : AV -> Prop) (k : K) (Q : Exit -> Act -> World -> Prop) : Prop := ∀ e s a w, zlk base M W nt s a w -> Sat P Q1 (k e s) -> Q (ynv e) a w
def ytf (P : Program) (base : Nat) (M : Two) (W : World) (nt : Nat) (Q1 : AV -> Prop) (sc : Code -> St -> K -> zcb) : Prop :=
 ∀ body s k Q a w, zc5 nt (.scope body) = true -> zlk base M W nt s a w -> Sat P Q1 (sc body s k) -> Kon P base M W nt Q1 k Q -> (Code.scope body).wp P Q a w
theorem zeu {an : Ann} {ks : List (Nat × AV)} {ko : List (Nat × Ob)} {ice : List Nat} {m : Option Nat} {s : St} {a : Act} {w : World} (hs : zlk base M W nt s a w) (h : Sat P Q1 (zff an ks ko ice m s)) :
   ∃ x, an.inv x /\ (∀ m0, m = some m0 -> an.mu x < m0) /\ zlk base M W nt (an.st ks ko ice x) a w := by
 unfold zff at h
 cases h with
 | ex x h =>
   obtain ⟨h1, h2⟩ := ybq hs h rfl
   cases h2 with
   | must h3 h4 =>
     refine ⟨x, h3, fun m0 hm => ?_, h1⟩
     subst hm
     cases h4 with | must h5 _ => exact h5
theorem ya5 {sc : Code -> St -> K -> zcb} {A : Nat -> Bool} {id : Nat} {b : Code} (hb : ∀ body, b ≠ .loop body) {s : St} {k : K} :
   run T std S lo sc A (.block id b) s k = run T std S lo sc noL b s (fun e s' => match e with
   | .exit j => match za5 j id with
     | true => k .normal s'
     | false => k (.exit j) s'
   | e => k e s') := by
 cases b <;> first | rfl | exact absurd rfl (hb _)
def yn2 (P : Program) (T : TT) (S : zn1) (lo : Nat -> St -> Option Ann) (base : Nat) (M : Two) (W : World) (nt : Nat) (Q1 : AV -> Prop) (sc : Code -> St -> K -> zcb) (c : Code) : Prop := zc5 nt c = true ->
   ∀ (A : Nat -> Bool) (s : St) (k : K) (Q : Exit -> Act -> World -> Prop) (ys : List Code) (a : Act) (w : World), zlk base M W nt s a w -> Sat P Q1 (run T std S lo sc A c s k) ->
   Kon P base M W nt Q1 k (Exit.then (WPl P ys Q) Q) ->
   (∀ l c' s' a' w', A l = true -> findLabel c l = some c' -> zlk base M W nt s' a' w' -> Sat P Q1 (k (.goto l) s') -> WPl P (zg6 c' ++ ys) Q a' w') -> WPl P (zg6 c ++ ys) Q a w
theorem ykc (hT : zbd P T) (hS : zdn P S) (hm : P.follows .mixedOrders = true) {sc : Code -> St -> K -> zcb} (hsc : ytf P base M W nt Q1 sc) : ∀ (c : Code),
   yn2 P T S lo base M W nt Q1 sc c /\ (∀ body, c = .loop body -> yn2 P T S lo base M W nt Q1 sc body) := by
 intro c
 induction c with
 | skip => refine ⟨?_, fun body e => by cases e⟩; intro _ A s k Q ys a w hs h hk _; exact hk .normal s a w hs h
 | region id ops d =>
   refine ⟨?_, fun body e => by cases e⟩
   intro hc A s k Q ys a w hs h hk _
   show (Code.region id ops d).wp P (Exit.then (WPl P ys Q) Q) a w
   have := yaf (id := id) (Q := Exit.then (WPl P ys Q) Q) hT hS hm hc hs h (fun s' a' w' hs' h' => hk .normal s' a' w' hs' h')
   simpa using this
 | seq x y ih1 ih2 =>
   refine ⟨?_, fun body e => by cases e⟩
   intro hc A s k Q ys a w hs h hk hl
   unfold zc5 at hc
   rw [Bool.and_eq_true] at hc
   show WPl P ((zg6 x ++ zg6 y) ++ ys) Q a w
   rw [List.append_assoc]
   refine ih1.1 hc.1 A s _ Q (zg6 y ++ ys) a w hs h (fun e s' a' w' hs' h' => ?_) (fun l c' s' a' w' hA hf hs' h' => ?_)
   · cases e with
     | normal =>
       refine ih2.1 hc.2 _ s' k Q ys a' w' hs' h' hk (fun l c' s2 a2 w2 hA hf hs2 h2 => hl l c' s2 a2 w2 ?_ ?_ hs2 h2)
       · split at hA
         · cases hA
         · exact hA
       · split at hA
         · cases hA
         · rename_i e; simp only [findLabel]; rw [e]; exact hf
     | exit id => exact hk (.exit id) s' a' w' hs' h'
     | goto l => exact hk (.goto l) s' a' w' hs' h'
     | ret => exact hk .ret s' a' w' hs' h'
   · have := hl l (.seq c' y) s' a' w' hA (by simp [findLabel, hf]) hs' h'
     simpa [zg6] using this
 | cond x p q ih1 ih2 =>
   refine ⟨?_, fun body e => by cases e⟩
   intro hc A s k Q ys a w hs h hk _
   unfold zc5 at hc
   rw [Bool.and_eq_true] at hc
   show (Code.cond x p q).wp P (Exit.then (WPl P ys Q) Q) a w
   have yes : ∀ (k1 : K) (s1 : St), zlk base M W nt s1 a w -> Sat P Q1 (run T std S lo sc noL p s1 k1) -> Kon P base M W nt Q1 k1 (Exit.then (WPl P ys Q) Q) -> p.wp P (Exit.then (WPl P ys Q) Q) a w := fun k1 s1 h1 h2 hk1 => ze3 (by
     have := ih1.1 hc.1 noL s1 k1 (Exit.then (WPl P ys Q) Q) [] a w h1 h2 (by rw [zf5]; exact hk1) (fun l c' s' a' w' hA => by cases hA)
     simpa using this)
   have no : ∀ (k1 : K) (s1 : St), zlk base M W nt s1 a w -> Sat P Q1 (run T std S lo sc noL q s1 k1) -> Kon P base M W nt Q1 k1 (Exit.then (WPl P ys Q) Q) -> q.wp P (Exit.then (WPl P ys Q) Q) a w := fun k1 s1 h1 h2 hk1 => ze3 (by
     have := ih2.1 hc.2 noL s1 k1 (Exit.then (WPl P ys Q) Q) [] a w h1 h2 (by rw [zf5]; exact hk1) (fun l c' s' a' w' hA => by cases hA)
     simpa using this)
   have lit : ∀ b, litOf s.kn x = some b -> a.eval x = .bool b := by
     intro b hb
     cases x with
     | tmp t =>
       obtain ⟨⟨D, μ, S⟩, hkn⟩ := hs
       exact (S.slots t _ (hkn t b hb)).inv_bool
     | const v => cases v <;> simp [litOf] at hb; subst hb; rfl
     | _ => simp [litOf] at hb
   have one : ∀ v : Bool, litOf s.kn x = some v -> ∀ k1 : K, Kon P base M W nt Q1 k1 (Exit.then (WPl P ys Q) Q) -> Sat P Q1 (match v with | true => run T std S lo sc noL p s k1 | false => run T std S lo sc noL q s k1) -> (Code.cond x p q).wp P (Exit.then (WPl P ys Q) Q) a w := by
     intro v e k1 hk1 h2
     cases v with
     | true => exact wp_cond_true (lit true e) (yes k1 s hs h2 hk1)
     | false => exact wp_cond_false (lit false e) (no k1 s hs h2 hk1)
   unfold run at h
   split at h
   · rename_i v e
     replace one := one v e
     clear e
     split at h
     · exact one k hk h
     · rename_i an _
       split at h
       · rename_i ks _
         split at h
         · rename_i ko _
           cases h with
           | and h1 h2 =>
             refine one _ (fun e s' a' w' hs' h' => ?_) h1
             cases e with
             | normal =>
               obtain ⟨y, hy, _, hsy⟩ := zeu hs' (show Sat P Q1 (zff an ks ko s.ice none s') from h')
               cases h2 with
               | all h2 => cases h2 y with
                 | sup h3 => exact hk .normal _ a' w' hsy (h3 hy)
             | exit j => exact hk (.exit j) s' a' w' hs' h'
             | goto l => exact hk (.goto l) s' a' w' hs' h'
             | ret => exact hk .ret s' a' w' hs' h'
         · cases h
       · cases h
   · split at h
     · rename_i t _ _
       split at h
       · rename_i b hb
         have he : a.eval (.tmp t) = .bool b := by
           obtain ⟨⟨D, μ, S⟩, hkn⟩ := hs
           exact (S.slots t _ hb).inv_bool
         have both : ∀ k1 : K, Kon P base M W nt Q1 k1 (Exit.then (WPl P ys Q) Q) -> Sat P Q1 (.ite b (run T std S lo sc noL p (s.know t true) k1) (run T std S lo sc noL q (s.know t false) k1)) -> (Code.cond (.tmp t) p q).wp P (Exit.then (WPl P ys Q) Q) a w := by
           intro k1 hk1 h
           cases h with
           | ite h1 h2 =>
             refine wp_cond_split he (fun ht => ?_) (fun hf => ?_)
             · subst ht
               exact yes k1 (s.know t true) ⟨hs.1, ze7 hs.2 hb⟩ (h1 rfl) hk1
             · subst hf
               exact no k1 (s.know t false) ⟨hs.1, ze7 hs.2 hb⟩ (h2 rfl) hk1
         split at h
         · exact both k hk h
         · rename_i an _
           split at h
           · rename_i ks _
             split at h
             · rename_i ko _
               cases h with
               | and h1 h2 =>
                 refine both _ (fun e s' a' w' hs' h' => ?_) h1
                 cases e with
                 | normal =>
                   obtain ⟨y, hy, _, hsy⟩ := zeu hs' h'
                   cases h2 with
                   | all h2 => cases h2 y with
                     | sup h3 => exact hk .normal _ a' w' hsy (h3 hy)
                 | exit j => exact hk (.exit j) s' a' w' hs' h'
                 | goto l => exact hk (.goto l) s' a' w' hs' h'
                 | ret => exact hk .ret s' a' w' hs' h'
             · cases h
           · cases h
       · cases h
     · cases h
 | block id b ih =>
   refine ⟨?_, fun body e => by cases e⟩
   intro hc A s k Q ys a w hs h hk _
   show (Code.block id b).wp P (Exit.then (WPl P ys Q) Q) a w
   generalize Exit.then (WPl P ys Q) Q = Q' at hk
   by_cases hb : ∃ body, b = .loop body
   · obtain ⟨body, rfl⟩ := hb
     have hbody := ih.2 body rfl hc
     unfold run at h
     split at h
     · rename_i an hlo
       split at h
       · rename_i ks hks
         split at h
         · rename_i ko hko
           cases h with
           | and h1 h2 =>
             obtain ⟨x0, i0, _, s0⟩ := zeu hs h1
             cases h2 with
             | all h2 =>
               refine wp_block (wp_loop_ghost (fun n a w => ∃ x, an.inv x /\ an.mu x = n /\ zlk base M W nt (an.st ks ko s.ice x) a w) (an.mu x0) ⟨x0, i0, rfl, s0⟩ ?_)
               rintro n a1 w1 ⟨x, hx, rfl, hsx⟩
               refine ze3 ?_
               cases h2 x with
               | sup h3 =>
                 have := hbody noL _ _ (Exit.then (fun a' w' => ∃ n', n' < an.mu x /\ ∃ x, an.inv x /\ an.mu x = n' /\ zlk base M W nt (an.st ks ko s.ice x) a' w') (Exit.inBlock id Q')) [] a1 w1 hsx (h3 hx) (fun e s' a' w' hs' h' => ?_) (fun l c' s' a' w' hA => by cases hA)
                 · simpa using this
                 · rw [zf5]
                   cases e with
                   | exit j =>
                     simp only at h'
                     show (if j = id then Q' .normal a' w' else Q' (.exit j) a' w')
                     cases e : za5 j id with
                     | true => rw [e] at h'; rw [if_pos (za1 e)]; exact hk .normal s' a' w' hs' h'
                     | false =>
                       rw [e] at h'
                       rw [if_neg (by rintro rfl; rw [za3] at e; cases e)]
                       exact hk (.exit j) s' a' w' hs' h'
                   | normal =>
                     obtain ⟨x', i', m', s2⟩ := zeu hs' h'
                     exact ⟨an.mu x', m' _ rfl, x', i', rfl, s2⟩
                   | goto l => exact hk (.goto l) s' a' w' hs' h'
                   | ret => exact hk .ret s' a' w' hs' h'
         · cases h
       · cases h
     · cases h
   · rw [ya5 (fun body e => hb ⟨body, e⟩)] at h
     refine wp_block (ze3 ?_)
     have := ih.1 hc noL s _ (Exit.inBlock id Q') [] a w hs h (fun e s' a' w' hs' h' => ?_) (fun l c' s' a' w' hA => by cases hA)
     · simpa using this
     · rw [zf5]
       cases e with
       | exit j =>
         simp only at h'
         show (if j = id then Q' .normal a' w' else Q' (.exit j) a' w')
         cases e : za5 j id with
         | true => rw [e] at h'; rw [if_pos (za1 e)]; exact hk .normal s' a' w' hs' h'
         | false =>
           rw [e] at h'
           rw [if_neg (by rintro rfl; rw [za3] at e; cases e)]
           exact hk (.exit j) s' a' w' hs' h'
       | normal => exact hk .normal s' a' w' hs' h'
       | goto l => exact hk (.goto l) s' a' w' hs' h'
       | ret => exact hk .ret s' a' w' hs' h'
 | exit id => refine ⟨?_, fun body e => by cases e⟩; intro _ A s k Q ys a w hs h hk _; exact wp_exit (hk (.exit id) s a w hs h)
 | goto l => refine ⟨?_, fun body e => by cases e⟩; intro _ A s k Q ys a w hs h hk _; exact wp_goto (hk (.goto l) s a w hs h)
 | ret => refine ⟨?_, fun body e => by cases e⟩; intro _ A s k Q ys a w hs h hk _; exact wp_ret (hk .ret s a w hs h)
 | label l =>
   refine ⟨?_, fun body e => by cases e⟩
   intro _ A s k Q ys a w hs h hk hl
   unfold run at h
   split at h
   · rename_i hA
     exact hl l .skip s a w hA (by simp [findLabel]) hs h
   · exact hk .normal s a w hs h
 | scope b ih =>
   refine ⟨?_, fun body e => by cases e⟩
   intro hc A s k Q ys a w hs h hk _
   exact hsc b s k _ a w hc hs h hk
 | loop b ih => exact ⟨fun _ A s k Q ys a w hs h hk _ => (by cases h), fun body e => by cases e; exact ih.1⟩
 | _ => refine ⟨?_, fun body e => by cases e⟩; intro _ A s k Q ys a w hs h hk _; cases h
theorem yi6 (hT : zbd P T) (hS : zdn P S) (hm : P.follows .mixedOrders = true) {sc : Code -> St -> K -> zcb} (hsc : ytf P base M W nt Q1 sc) (c : Code) : yn2 P T S lo base M W nt Q1 sc c := (ykc hT hS hm hsc c).1
def yti (P : Program) (base : Nat) (M : Two) (W : World) (nt : Nat) (lb : Nat -> St -> Option Ann) (body : Code) (bs : St) (Q : Exit -> Act -> World -> Prop) (m : Option Nat) : Prop :=
 ∀ l an rest ks ko x a w, lb l bs = some an -> findLabel body l = some rest -> zlv bs.slots an.keep = some ks -> zob bs.objs an.hold = some ko -> an.inv x -> (∀ m0, m = some m0 -> an.mu x < m0) ->
   zlk base M W nt (an.st ks ko bs.ice x) a w -> WPl P (zg6 rest) (Qg P Q body) a w
def yj1 (P : Program) (T : TT) (S : zn1) (lo lb : Nat -> St -> Option Ann) (base : Nat) (M : Two) (W : World) (nt : Nat) (Q1 : AV -> Prop) (n : Nat) : Prop :=
 ∀ body rest bs s k m Q a w, ziw (zdh body) = true -> zc5 nt rest = true -> zc5 nt body = true -> (rest = body \/ ∃ l, findLabel body l = some rest) -> zlk base M W nt s a w -> Sat P Q1 (pass T std S lo lb n body rest s k m bs) ->
   Kon P base M W nt Q1 k Q -> yti P base M W nt lb body bs Q m -> WPl P (zg6 rest) (Qg P Q body) a w
theorem zop {body : Code} {bs : St} {ps : Code -> St -> Nat -> zcb} {t : zcb} : ∀ {ls : List Nat}, Sat P Q1 (zev lb body bs ps ls t) -> Sat P Q1 t /\
   ∀ l, l ∈ ls -> ∀ an rest ks ko, lb l bs = some an -> findLabel body l = some rest -> zlv bs.slots an.keep = some ks -> zob bs.objs an.hold = some ko -> ∀ x, an.inv x -> Sat P Q1 (ps rest (an.st ks ko bs.ice x) (an.mu x))
 | [], h => ⟨h, fun l hl => by cases hl⟩
 | l0 :: ls, h => by
   unfold zev at h
   split at h
   · rename_i an hlb
     split at h
     · rename_i rest hf
       split at h
       · rename_i ks hks
         split at h
         · rename_i ko hko
           cases h with
           | and h1 h2 =>
             obtain ⟨i1, i2⟩ := zop h2
             refine ⟨i1, fun l hl an' rest' ks' ko' q1 q2 q3 q4 x hx => ?_⟩
             rcases List.mem_cons.1 hl with rfl | hl
             · rw [hlb] at q1; cases q1
               rw [hf] at q2; cases q2
               rw [hks] at q3; cases q3
               rw [hko] at q4; cases q4
               cases h1 with
               | all h1 => cases h1 x with | sup h1 => exact h1 hx
             · exact i2 l hl an' rest' ks' ko' q1 q2 q3 q4 x hx
         · cases h
       · cases h
     · rename_i hf
       obtain ⟨i1, i2⟩ := zop h
       refine ⟨i1, fun l hl an' rest' ks' ko' q1 q2 => ?_⟩
       rcases List.mem_cons.1 hl with rfl | hl
       · rw [hf] at q2; cases q2
       · exact i2 l hl an' rest' ks' ko' q1 q2
   · rename_i hlb
     obtain ⟨i1, i2⟩ := zop h
     refine ⟨i1, fun l hl an' rest' ks' ko' q1 => ?_⟩
     rcases List.mem_cons.1 hl with rfl | hl
     · rw [hlb] at q1; cases q1
     · exact i2 l hl an' rest' ks' ko' q1
theorem ztn (n : Nat) (hp : yj1 P T S lo lb base M W nt Q1 n) : ytf P base M W nt Q1 (zmb lb (pass T std S lo lb n)) := by
 intro body s k Q a w hc hs h hk
 unfold zc5 at hc
 rw [Bool.and_eq_true] at hc
 unfold zmb at h
 obtain ⟨h1, h2⟩ := zop h
 have lab : ∀ m, ∀ l an rest ks ko x a w, lb l s = some an -> findLabel body l = some rest -> zlv s.slots an.keep = some ks -> zob s.objs an.hold = some ko -> an.inv x -> an.mu x = m ->
     zlk base M W nt (an.st ks ko s.ice x) a w -> WPl P (zg6 rest) (Qg P Q body) a w := by
   intro m
   induction m using Nat.strongRecOn with
   | _ m ih =>
     intro l an rest ks ko x a w q1 q2 q3 q4 hx hm hsx
     subst hm
     refine hp body rest s _ k (some (an.mu x)) Q a w hc.1 (ycv q2 hc.2) hc.2 (.inr ⟨l, q2⟩) hsx (h2 l (zon q2) an rest ks ko q1 q2 q3 q4 x hx) hk ?_
     intro l' an' rest' ks' ko' x' a' w' p1 p2 p3 p4 hx' hlt hs'
     exact ih (an'.mu x') (hlt _ rfl) l' an' rest' ks' ko' x' a' w' p1 p2 p3 p4 hx' rfl hs'
 have := hp body body s s k none Q a w hc.1 hc.2 hc.2 (.inl rfl) hs h1 hk (fun l an rest ks ko x a w q1 q2 q3 q4 hx _ hsx => lab _ l an rest ks ko x a w q1 q2 q3 q4 hx rfl hsx)
 exact zn7 (ycg (ze3 this))
theorem yat (hT : zbd P T) (hS : zdn P S) (hm : P.follows .mixedOrders = true) : ∀ n, yj1 P T S lo lb base M W nt Q1 n
 | 0 => by intro body rest bs s k m Q a w _ _ _ _ _ h; cases h
 | n + 1 => by
   intro body rest bs s k m Q a w hn hr hb hsuf hs h hk hl
   have ih := yat hT hS hm n
   unfold pass at h
   have go : ∀ l rest' s' a' w', findLabel body l = some rest' -> zlk base M W nt s' a' w' -> Sat P Q1 (jump lb (fun rest' s' => pass T std S lo lb n body rest' s' k m bs) body bs m k (.goto l) s') -> WPl P (zg6 rest') (Qg P Q body) a' w' := by
     intro l rest' s' a' w' hf hs' h'
     simp only [jump, hf] at h'
     split at h'
     · rename_i an hlb
       split at h'
       · rename_i ks hks
         split at h'
         · rename_i ko hko
           obtain ⟨x, i1, i2, i3⟩ := zeu hs' h'
           exact hl l an rest' ks ko x a' w' hlb hf hks hko i1 i2 i3
         · cases h'
       · cases h'
     · exact ih body rest' bs s' k m Q a' w' hn (ycv hf hb) hb (.inr ⟨l, hf⟩) hs' h' hk hl
   have := yi6 hT hS hm (ztn n ih) rest hr _ s _ (Qg P Q body) [] a w hs h (fun e s' a' w' hs' h' => ?_) (fun l c' s' a' w' hA hf hs' h' => ?_)
   · simpa using this
   · rw [zf5]
     cases e with
     | goto l =>
       show Qg P Q body (.goto l) a' w'
       simp only [Qg]
       cases hf : findLabel body l with
       | some rest' => exact ycg (ze3 (go l rest' s' a' w' hf hs' h'))
       | none =>
         simp only [jump, hf] at h'
         exact hk (.goto l) s' a' w' hs' h'
     | normal => exact hk .normal s' a' w' hs' h'
     | exit id => exact hk (.exit id) s' a' w' hs' h'
     | ret => exact hk .ret s' a' w' hs' h'
   · rw [List.append_nil]
     rcases hsuf with rfl | ⟨l0, h0⟩
     · exact go l c' s' a' w' hf hs' h'
     · obtain ⟨c'', e1, e2⟩ := ycw hn h0 hf
       rw [<- e2]
       exact go l c'' s' a' w' e1 hs' h'
theorem yd4 (hT : zbd P T) (hS : zdn P S) (hm : P.follows .mixedOrders = true) {n : Nat} {c : Code} (hc : zc5 nt c = true) {s : St} {k : K} {Q : Exit -> Act -> World -> Prop} {a : Act} {w : World} (hs : zlk base M W nt s a w)
   (h : Sat P Q1 (run T std S lo (zmb lb (pass T std S lo lb n)) noL c s k)) (hk : Kon P base M W nt Q1 k Q) : c.wp P Q a w := by
 refine ze3 ?_
 have := yi6 hT hS hm (ztn n (yat hT hS hm n)) c hc noL s k Q [] a w hs h (by rw [zf5]; exact hk) (fun l c' s' a' w' hA => by cases hA)
 simpa using this
end
end Sy
end Go.Proofs.Ytogomcfgfnlclaa
namespace Go.Proofs.Ytogomcfgfnlclaa
namespace Sy
open Go Go.RowKit
set_option linter.unusedSimpArgs false
set_option linter.unusedVariables false
set_option linter.unusedSectionVars false
def zm1 : List Prop -> Prop
 | [] => True
 | p :: r => p /\ zm1 r
def zbo (r v : AV) : Prop := match zfq ⟨[], []⟩ r v with
 | some ⟨ps, []⟩ => zm1 ps
 | _ => False
def zsn : List AV -> List AV -> Prop
 | [], [] => True
 | x :: xs, y :: ys => zbo x y /\ zsn xs ys
 | _, _ => False
def zi5 (r v : AV) : Prop := match r, v with
 | .tup rs, .tup vs => zsn rs vs
 | r, v => zbo r v
theorem zvc : ∀ {l : List Prop}, zm1 l -> ∀ p, p ∈ l -> p
 | [], _, p, h => by cases h
 | q :: l, ⟨h1, h2⟩, p, h => by
   rcases List.mem_cons.1 h with rfl | h
   · exact h1
   · exact zvc h2 p h
theorem ykz (μ : Mu) : zfm μ [] = zar := by
 funext t
 unfold zfm
 split <;> rfl
theorem yct {h : Array Obj} {D : Nat -> Prop} {r v : AV} {x : Value} (f : zbo r v) (hr : R h D zar v x) : R h D zar r x := by
 unfold zbo at f
 split at f
 · rename_i ps e
   have := (zuf (h := h) (D := D) (μ := zar) e).2 [] x ⟨fun _ _ h => h, zvc f⟩ hr
   rwa [ykz] at this
 · exact f.elim
theorem yco {h : Array Obj} {D : Nat -> Prop} : ∀ {rs vs : List AV}, zsn rs vs -> rs.length = vs.length /\ ∀ (i : Nat) r v x, rs[i]? = some r -> vs[i]? = some v -> R h D zar v x -> R h D zar r x
 | [], [], _ => ⟨rfl, fun i r v x h => by simp at h⟩
 | r :: rs, v :: vs, ⟨f1, f2⟩ => by
   obtain ⟨l1, h1⟩ := yco (h := h) (D := D) f2
   refine ⟨by simp [l1], fun i r' v' x hr hv hx => ?_⟩
   cases i with
   | zero => simp at hr hv; subst hr; subst hv; exact yct f1 hx
   | succ i => exact h1 i r' v' x (by simpa using hr) (by simpa using hv) hx
 | [], _ :: _, f => f.elim
 | _ :: _, [], f => f.elim
theorem yiu {h : Array Obj} {D : Nat -> Prop} {r v : AV} {x : Value} (f : zi5 r v) (hr : R h D zar v x) : R h D zar r x := by
 unfold zi5 at f
 split at f
 · rename_i rs vs
   obtain ⟨us, rfl, l1, h1⟩ := hr.inv_tup
   obtain ⟨l2, h2⟩ := yco (h := h) (D := D) f
   refine .tup _ _ (by rw [l2, l1]) fun i r x hr hx => ?_
   obtain ⟨v, hv⟩ : ∃ v, vs[i]? = some v := ⟨_, List.getElem?_eq_getElem (by rw [<- l2]; exact (List.getElem?_eq_some_iff.1 hr).1)⟩
   exact h2 i r v x hr hv (h1 i v x hv hx)
 · exact yct f hr
theorem zxr {α : Type} (x : Sem α) : x.bind .pure = x := by
 induction x <;> simp only [Sem.bind] <;> (try (congr 1; try funext _)) <;> (first | rfl | (rename_i ih; exact ih _) | (rename_i ih; exact ih) | (rename_i ih _; exact ih _))
theorem zt4 {α β γ : Type} (x : Sem α) (f : α -> Sem β) (g : β -> Sem γ) : (x.bind f).bind g = x.bind fun a => (f a).bind g := by
 induction x <;> simp only [Sem.bind] <;> (try (congr 1; try funext _)) <;> (first | rfl | (rename_i ih; exact ih _) | (rename_i ih; exact ih) | (rename_i ih _; exact ih _))
instance : LawfulMonad Sem := LawfulMonad.mk' Sem (fun x => zxr x) (fun _ _ => rfl) (fun x f g => zt4 x f g)
theorem zuj {α : Type} {P : Program} {w : World} {k : α -> Sem Value} : ∀ {zs : List α} {us : Nat -> Value}, (∀ (i : Nat) x, zs[i]? = some x -> (k x).run P w = .ok (us i) w) ->
   (zs.mapM k).run P w = .ok ((List.range zs.length).map us) w
 | [], us, h => by simp
 | z :: zs, us, h => by
   have ih := zuj (zs := zs) (us := fun i => us (i + 1)) (fun i x hx => h (i + 1) x (by simpa using hx))
   rw [List.mapM_cons, Sem.run_bind, h 0 z rfl]
   simp only [Result.andThen_ok, Sem.run_bind, ih, Sem.run_pure]
   rw [List.length_cons, List.range_succ_eq_map]
   simp [Function.comp_def]
section
variable {P : Program} {T : TT} {base : Nat} {M : Two} {W : World} {nt : Nat} {s : St} {a : Act} {w : World} {D : Nat -> Prop} {μ : Mu}
def zwm (tmps : Array Value) : ResultVar -> Sem Value
 | .tmp t => pure (tmps.getD t undef)
 | .cell a t => do loadVar t (<- asAddr (tmps.getD a undef))
theorem yoh (h : Sim base M W nt (za2 s.slots) (za2 s.objs) (zbp s.ice) a w D μ) (hT : zbd P T) {x : ResultVar} {v : AV} (e : yqt T s x = some v) : ∃ u, (zwm a.tmps x).run P w = .ok u w /\ R w.heap D μ v u := by
 have ev : ∀ t, R w.heap D μ (evf (za2 s.slots) [] (.tmp t)) (a.tmps.getD t undef) := fun t => ym3 h (fun t b ht => by simp [za2] at ht) (.tmp t) (fun v hv => by cases hv)
 cases x with
 | tmp t =>
   simp only [yqt, Option.some.injEq] at e
   subst e
   exact ⟨_, rfl, ev t⟩
 | cell p t =>
   simp only [yqt] at e
   have hl := zum h hT (t := t) (ev p) (ob := za2 s.objs) (fun _ _ h => h)
   split at e
   · rename_i v' os ice hc
     rw [hc] at hl
     cases e
     obtain ⟨_, _, y, hy, r⟩ := hl
     refine ⟨y, ?_, r⟩
     simp only [zwm]
     generalize a.tmps.getD p undef = u at *
     unfold Instr.loadAt Instr.sureAddr at hy
     unfold asAddr
     split at hy
     · rename_i q; simpa using hy
     · simp [stuck] at hy
   · cases e
theorem zrt (h : Sim base M W nt (za2 s.slots) (za2 s.objs) (zbp s.ice) a w D μ) (hT : zbd P T) : ∀ {rs : List ResultVar} {vs : List AV}, ya9 T s rs = some vs ->
   vs.length = rs.length /\ ∃ us : Nat -> Value, (∀ (i : Nat) x, rs[i]? = some x -> (zwm a.tmps x).run P w = .ok (us i) w) /\ ∀ (i : Nat) v, vs[i]? = some v -> R w.heap D μ v (us i)
 | [], vs, e => by cases e; exact ⟨rfl, fun _ => undef, fun i x hx => by simp at hx, fun i x hx => by simp at hx⟩
 | x :: rs, vs, e => by
   unfold ya9 at e
   split at e
   · rename_i v hv
     split at e
     · rename_i l hl
       cases e
       obtain ⟨u, hu, r⟩ := yoh h hT hv
       obtain ⟨l1, us, h1, h2⟩ := zrt h hT hl
       refine ⟨by simp [l1], fun i => match i with | 0 => u | i + 1 => us i, fun i x' hx => ?_, fun i v' hv' => ?_⟩
       · cases i with
         | zero => simp at hx; subst hx; exact hu
         | succ i => exact h1 i x' (by simpa using hx)
       · cases i with
         | zero => simp at hv'; subst hv'; exact r
         | succ i => exact h2 i v' (by simpa using hv')
     · cases e
   · cases e
theorem zkc {fn : Func} {tmps : Array Value} {us : Nat -> Value} (h : ∀ (i : Nat) x, fn.results.toList[i]? = some x -> (zwm tmps x).run P w = .ok (us i) w) :
   (results fn tmps).run P w = .ok (if fn.results.size = 1 then us 0 else .tuple ((List.range fn.results.size).map us).toArray) w := by
 have h1 : (fn.results.mapM (zwm tmps)).run P w = .ok ((List.range fn.results.size).map us).toArray w := by
   have e : fn.results = fn.results.toList.toArray := by simp
   rw [e, List.mapM_toArray, map_eq_pure_bind, Sem.run_bind, zuj h]
   simp
 have h2 : results fn tmps = (do
     let vs <- fn.results.mapM (zwm tmps)
     pure (if h : vs.size = 1 then vs[0] else .tuple vs)) := by
   unfold results
   congr 1
 rw [h2, Sem.run_bind, h1]
 simp only [Result.andThen_ok, Sem.run_pure]
 congr 1
 by_cases e : fn.results.size = 1
 · rw [if_pos e, dif_pos (by simp [e])]
   try simp
 · rw [if_neg e, dif_neg (by simp [e])]
end
theorem zlj {α : Type} : ∀ (xs : List α) (i t : Nat), za2 (zkm i xs) t = if i <= t then xs[t - i]? else none
 | [], i, t => by simp [zkm, za2]
 | x :: xs, i, t => by
   unfold zkm za2
   cases e : za5 i t with
   | true => have := za1 e; subst this; simp
   | false =>
     have hne : i ≠ t := by rintro rfl; rw [za3] at e; cases e
     simp only
     rw [zlj xs (i + 1) t]
     by_cases h : i <= t
     · rw [if_pos (by omega), if_pos h]
       obtain ⟨k, hk⟩ : ∃ k, t - i = k + 1 := ⟨t - i - 1, by omega⟩
       rw [hk, show t - (i + 1) = k by omega]
       simp
     · rw [if_neg (by omega), if_neg h]
theorem zcz {P : Program} {f : FuncId} {fn : Func} {args : Array Value} {w : World} (hf : P.funcs[f]? = some fn) (hn : (fn.name == "runtime.NumGoroutine") = false) {c : Code} (hb : fn.body = some c) :
   (callFunc f args).run P w = .ok (.enter f args) w := by
 have hn' : ¬ fn.name = "runtime.NumGoroutine" := by simpa using hn
 unfold callFunc
 simp [program, Sem.run, hf, hn', hb]
def zmx : List (Nat × Ob) -> Bool
 | [] => true
 | (t, .tab _ _ n _ _) :: r => match za5 n 0, zb3 t zbv, zct t with | true, true, false => zmx r | _, _, _ => false
 | _ => false
theorem zdd : ∀ {O : List (Nat × Ob)}, zmx O = true -> ∀ t o, za2 O t = some o -> t < zbv /\ zct t = false /\ ∃ ty sz len get, o = .tab ty sz 0 len get
 | [], _, t, o, h => by cases h
 | (m, o') :: r, e, t, o, h => by
   unfold zmx at e
   unfold za2 at h
   split at e
   · rename_i q; cases q
   · rename_i q; cases q
     split at e
     · rename_i h1 h2 h3
       split at h
       · rename_i hb
         have := za1 hb; subst this
         cases h
         have hn := za1 h1
         subst hn
         exact ⟨zan h2, h3, _, _, _, _, rfl⟩
       · exact zdd e t o h
     · cases e
   · cases e
def muT (O : List (Nat × Ob)) : Mu := fun t => match za2 O t with | some _ => some none | none => none
theorem yil {O : List (Nat × Ob)} (e : zmx O = true) (id : Nat) : gx (za2 O) id = za2 O id := by
 by_cases hm : zb4 id = true
 · rw [zg4 _ hm]
   have h1 : za2 O id = none := by
     cases h : za2 O id with
     | none => rfl
     | some o => rw [zaw.2 (zdd e id o h).1] at hm; cases hm
   rw [h1]
   cases h : za2 O (zgg id) with
   | none => rfl
   | some o =>
     obtain ⟨_, _, ty, sz, len, get, rfl⟩ := zdd e _ o h
     simp [zdx]
 · exact zab (by simpa using hm)
theorem ybf {O : List (Nat × Ob)} {id : Nat} {x : Nat × Nat × Nat} : muT O id ≠ some (some x) := by
 unfold muT
 cases za2 O id <;> simp
theorem zn0 {P : Program} {T : TT} {S : zn1} {lo lb : Nat -> St -> Option Ann} {n : Nat} {f : FuncId} {fn : Func} {c : Code} {xs : List AV} {r : AV} {O : List (Nat × Ob)} (hO : zmx O = true) (hf : P.funcs[f]? = some fn) (hb : fn.body = some c) (hn : (fn.name == "runtime.NumGoroutine") = false)
   (hc : zc5 fn.ntmps c = true) (hx : (zbh xs.length fn.ntmps && zbh fn.ntmps 500000) = true) (hT : zbd P T) (hS : zdn P S) (hm : P.follows .mixedOrders = true) (h : Sat P (zi5 r) (yfk T std S lo lb n fn xs O)) : zbk P f xs r := by
 intro D w vs hD hxs hg
 rw [Bool.and_eq_true] at hx
 have hnb := zb2 hx.2
 have hx := zb2 hx.1
 unfold zfp
 rw [zcz hf hn hb]
 simp only
 refine calls_of_wp hf hb ?_
 unfold yfk at h
 rw [hb] at h
 refine yd4 (base := w.heap.size) (M := ⟨fun _ => False, D, fun _ => none, zar⟩) (W := w) hT hS hm hc ⟨⟨D, muT O, ?_⟩, fun t b ht => by simp [za2] at ht⟩ h (fun e s a w' hs h' => ?_)
 · refine { os := rfl, tape := rfl, output := rfl, size := Nat.le_refl _, bs := Nat.le_refl _, old := fun _ _ _ => rfl, defers := rfl, tmps := ?_, slots := fun t v hv => ?_, dlt := hD, low := fun b hb _ => .inl hb, domx := fun id => ?_, obsx := fun id o x ho hx => ?_, injx := fun id id' b z z' o o' h => (ybf h).elim, own := fun id b z h => (ybf h).elim, kdx := fun id b z o h => (ybf h).elim, icyx := fun id h => by (simp [zbp] at h), tbs := fun id o h => ⟨(zdd hO id o h).1, fun _ => (zdd hO id o h).2.1⟩, icm := fun _ _ => rfl, mems := fun id y _ h => (by cases h), ntb := hnb, pin := fun id y hp h => ?_, gl := ⟨hg, zvf hg, fun _ h => h.elim⟩ }
   · rw [hxs.1] at hx
     simp; omega
   · rw [zlj, if_pos (by omega), Nat.sub_zero] at hv
     have hlt : t < vs.size := by rw [<- hxs.1]; exact (List.getElem?_eq_some_iff.1 hv).1
     have h1 : vs[t]? = some vs[t] := by simp [hlt]
     have h2 : (vs ++ Array.replicate (fn.ntmps - vs.size) undef).getD t undef = vs[t] := by
       rw [Array.getD_eq_getD_getElem?, Array.getElem?_append_left hlt, h1]; rfl
     rw [h2]
     exact (hxs.2 t v vs[t] hv h1).free
   · rw [yil hO]
     unfold muT
     cases za2 O id <;> simp
   · rw [yil hO] at ho
     unfold muT at hx
     rw [ho] at hx
     cases hx
     obtain ⟨_, _, ty, sz, len, get, rfl⟩ := zdd hO _ o ho
     exact trivial
   · unfold muT at h
     split at h
     · rename_i o ho
       rw [(zdd hO id o ho).2.1] at hp; cases hp
     · cases h
 · obtain ⟨⟨D1, μ, S1⟩, _⟩ := hs
   have key : Sat P (zi5 r) (yr4 T std fn.results.toList s) -> a.defers = [] /\ ∃ v, (results fn a.tmps).run P w' = .ok v w' /\ ∃ v' D', Ending.returned v = .returned v' /\ Below w.heap.size w w' /\ (∀ b, D b -> D' b) /\ (∀ b, D' b -> D b \/ (w.heap.size <= b /\ b < w'.heap.size)) /\ R w'.heap D' zar r v' := by
     intro h'
     unfold yr4 at h'
     split at h'
     · rename_i vs1 hvs
       obtain ⟨l1, us, h1, h2⟩ := zrt S1 hT hvs
       have hres := zkc (P := P) (w := w') (fn := fn) (tmps := a.tmps) h1
       have hB : Below w.heap.size w w' := ⟨S1.os, S1.tape, S1.output, S1.size, fun b hb => S1.old b hb (fun h => h)⟩
       have lowD : ∀ b, D1 b -> D b \/ (w.heap.size <= b /\ b < w'.heap.size) := fun b hb => by
         by_cases hlt : b < w.heap.size
         · rcases S1.low b hb hlt with h | h
           · exact .inl h
           · exact h.elim
         · exact .inr ⟨by omega, S1.dlt b hb⟩
       have lowM : ∀ id b z, μ id = some (some (b, z)) -> D b \/ (w.heap.size <= b /\ b < w'.heap.size) := fun id b z hm => by
         rcases S1.own id b _ hm with ⟨q1, q2 | q2⟩
         · exact .inr ⟨q2, q1⟩
         · exact q2.elim
       have imm : ∀ vs2, immVs std (za2 s.objs) vs1 = some vs2 -> vs2.length = vs1.length /\ ∀ (i : Nat) v, vs2[i]? = some v -> R w'.heap (fun b => D b \/ DF D1 μ (zdz vs1) b) zar v (us i) := by
         intro vs2 e2
         obtain ⟨i1, _, i3⟩ := zjp S1 (ob := za2 s.objs) (fun _ _ h => h) e2 (ids := zdz vs1) (fun _ h => h)
         refine ⟨i1, fun i v hv => ?_⟩
         obtain ⟨v1, hv1⟩ : ∃ v1, vs1[i]? = some v1 := ⟨_, List.getElem?_eq_getElem (by rw [<- i1]; exact (List.getElem?_eq_some_iff.1 hv).1)⟩
         exact (i3 i v1 v (us i) hv1 hv (h2 i v1 hv1)).mono (fun _ _ => rfl) (fun b hb => .inr hb) (fun _ _ h => by cases h)
       have set : ∀ vs2, zvp std (za2 s.objs) vs1 = some vs2 -> vs2.length = vs1.length /\ ∀ (i : Nat) v, vs2[i]? = some v -> R w'.heap (fun b => D b \/ zy0 D1 μ b) zar v (us i) := by
         intro vs2 e2
         obtain ⟨i1, i3⟩ := zni S1 (ob := za2 s.objs) (fun _ _ h => h) e2
         refine ⟨i1, fun i v hv => ?_⟩
         obtain ⟨v1, hv1⟩ : ∃ v1, vs1[i]? = some v1 := ⟨_, List.getElem?_eq_getElem (by rw [<- i1]; exact (List.getElem?_eq_some_iff.1 hv).1)⟩
         exact (i3 i v1 v (us i) hv1 hv (h2 i v1 hv1)).mono (fun _ _ => rfl) (fun b hb => .inr hb) (fun _ _ h => by cases h)
       have go : ∀ (D2 : Nat -> Prop) (vs2 : List AV), (∀ b, D2 b -> D b \/ (w.heap.size <= b /\ b < w'.heap.size)) -> vs2.length = vs1.length -> (∀ (i : Nat) v, vs2[i]? = some v -> R w'.heap (fun b => D b \/ D2 b) zar v (us i)) ->
           ((∃ v, vs2 = [v] /\ zi5 r v) \/ ((∀ v, vs2 ≠ [v]) /\ zi5 r (.tup vs2))) -> a.defers = [] /\ ∃ v, (results fn a.tmps).run P w' = .ok v w' /\ ∃ v' D', Ending.returned v = .returned v' /\ Below w.heap.size w w' /\ (∀ b, D b -> D' b) /\ (∀ b, D' b -> D b \/ (w.heap.size <= b /\ b < w'.heap.size)) /\ R w'.heap D' zar r v' := by
         intro D2 vs2 hD2 i1 i2 hf
         refine ⟨S1.defers, _, hres, _, fun b => D b \/ D2 b, rfl, hB, fun b hb => .inl hb, fun b hb => hb.elim .inl (hD2 b), ?_⟩
         rcases hf with ⟨v1, rfl, hf⟩ | ⟨hne, hf⟩
         · have hsz : fn.results.size = 1 := by rw [<- Array.length_toList, <- l1, <- i1]; rfl
           rw [if_pos hsz]
           exact yiu hf (i2 0 v1 rfl)
         · have hl : vs2.length = fn.results.size := by rw [i1, l1, Array.length_toList]
           have hsz : ¬ fn.results.size = 1 := by
             rw [<- hl]
             intro h1
             obtain ⟨v, hv⟩ := List.length_eq_one_iff.1 h1
             exact hne v hv
           rw [if_neg hsz]
           refine yiu hf (.tup _ _ (by simp [hl]) fun i v x hv hx => ?_)
           have hlt : i < fn.results.size := by rw [<- hl]; exact (List.getElem?_eq_some_iff.1 hv).1
           simp [hlt] at hx
           subst hx
           exact i2 i v hv
       have hDF : ∀ b, DF D1 μ (zdz vs1) b -> D b \/ (w.heap.size <= b /\ b < w'.heap.size) := by
         rintro b (hb | ⟨id, z, m, _, hm⟩)
         · exact lowD b hb
         · exact lowM id b _ hm
       have hDW : ∀ b, zy0 D1 μ b -> D b \/ (w.heap.size <= b /\ b < w'.heap.size) := by
         rintro b (hb | ⟨id, z, m, hm⟩)
         · exact lowD b hb
         · exact lowM id b _ hm
       split at h'
       · rename_i v1 e2
         cases h' with
         | done h' =>
           obtain ⟨i1, i2⟩ := imm _ e2
           exact go _ _ hDF i1 i2 (.inl ⟨v1, rfl, h'⟩)
       · rename_i vs2 hne e2
         cases h' with
         | done h' =>
           obtain ⟨i1, i2⟩ := imm _ e2
           exact go _ _ hDF i1 i2 (.inr ⟨hne, h'⟩)
       · split at h'
         · rename_i v1 e2
           cases h' with
           | done h' =>
             obtain ⟨i1, i2⟩ := set _ e2
             exact go _ _ hDW i1 i2 (.inl ⟨v1, rfl, h'⟩)
         · rename_i vs2 hne e2
           cases h' with
           | done h' =>
             obtain ⟨i1, i2⟩ := set _ e2
             exact go _ _ hDW i1 i2 (.inr ⟨hne, h'⟩)
         · cases h'
     · cases h'
   cases e with
   | normal => exact key h'
   | ret => exact key h'
   | exit id => cases h'
   | goto l => cases h'
theorem ye5 {P : Program} {T : TT} {S : zn1} {lo lb : Nat -> St -> Option Ann} {n : Nat} {f : FuncId} {fn : Func} {c : Code} {xs : List AV} {r : AV} (hf : P.funcs[f]? = some fn) (hb : fn.body = some c) (hn : (fn.name == "runtime.NumGoroutine") = false)
   (hc : zc5 fn.ntmps c = true) (hx : (zbh xs.length fn.ntmps && zbh fn.ntmps 500000) = true) (hT : zbd P T) (hS : zdn P S) (hm : P.follows .mixedOrders = true) (h : Sat P (zi5 r) (runF T std S lo lb n fn xs)) : zbk P f xs r :=
 zn0 (O := []) rfl hf hb hn hc hx hT hS hm h
end Sy
end Go.Proofs.Ytogomcfgfnlclaa
namespace Go.Proofs.Ytogomcfgfnlclaa
namespace Sy
open Go Go.RowKit
section
variable (a b c : Int) (l m : List UInt8) (n : Nat)
theorem zfr : (ilt a b = true) = (a < b) := by simp [ilt]
theorem zl3 : (ilt a b = false) = (b <= a) := by simp [ilt]
theorem ysq : (ile a b = true) = (a <= b) := by simp [ile]
theorem ysr : (ile a b = false) = (b < a) := by simp [ile]
theorem ycf : (ieq a b = true) = (a = b) := by simp [ieq]
theorem ygz : (ieq a b = false) = (a ≠ b) := by simp [ieq]
theorem zsf : (ine a b = true) = (a ≠ b) := by simp [ine]
theorem zlw : (ine a b = false) = (a = b) := by simp [ine]
theorem zvq : (seq l m = true) = (l = m) := by simp [seq]
theorem zvr : (seq l m = false) = (l ≠ m) := by simp [seq]
theorem zoi : (inR a b = true) = (0 <= a /\ a < b) := by simp [inR]
theorem ypp : (inS a b c = true) = (0 <= a /\ a <= b /\ b <= c) := by simp [inS, and_assoc]
theorem ylj : (inC a b = true) = (0 <= a /\ a <= b) := by simp [inC]
theorem zu9 (eb : Nat) : (yl1 eb a b = true) = (0 <= a /\ a <= b /\ (eb : Int) * b <= 140737488355328 /\ b <= 9223372036854775807) := by simp [yl1, and_assoc]
theorem yfm (eb p q : Nat) : (zbx eb p q = true) = ((p + q) * eb <= 140737488355328 /\ p + q <= 9223372036854775807) := by simp [zbx]
theorem zor : (yme l m = true) = (l.length + m.length <= 9223372036854775807) := by simp [yme]
theorem zck (x y : Bool) : zi5 (.bool x) (.bool y) = (y = x) := by simp [zi5, zbo, zfq, zdm, zcm.add, zm1]
theorem zjr (k : IntKind) : zi5 (.int k a) (.int k b) = (b = a) := by simp [zi5, zbo, zfq, zdm, zcm.add, zm1]
theorem zi4 : zi5 (.str l) (.str m) = (m = l) := by simp [zi5, zbo, zfq, zdm, zcm.add, zm1]
theorem yhb (k : FloatKind) (a b : Nat) : zi5 (.flt k a) (.flt k b) = (b = a) := by simp [zi5, zbo, zfq, zdm, zcm.add, zm1]
theorem ycr (k : FloatKind) (a b : Nat) : zbo (.flt k a) (.flt k b) = (b = a) := by simp [zbo, zfq, zdm, zcm.add, zm1]
theorem yhc (k : FloatKind) (a b c d : Nat) : zi5 (.cpx k a b) (.cpx k c d) = (d = b /\ c = a) := by simp [zi5, zbo, zfq, zdm, zcm.add, zm1]
theorem ycs (k : FloatKind) (a b c d : Nat) : zbo (.cpx k a b) (.cpx k c d) = (d = b /\ c = a) := by simp [zbo, zfq, zdm, zcm.add, zm1]
theorem zxg (x y : Bool) : zbo (.bool x) (.bool y) = (y = x) := by simp [zbo, zfq, zdm, zcm.add, zm1]
theorem ycq (k : IntKind) : zbo (.int k a) (.int k b) = (b = a) := by simp [zbo, zfq, zdm, zcm.add, zm1]
theorem ycp : zbo (.str l) (.str m) = (m = l) := by simp [zbo, zfq, zdm, zcm.add, zm1]
theorem yh9 (x y : List AV) : zi5 (.tup x) (.tup y) = zsn x y := rfl
theorem zxf (x y : AV) (r q : List AV) : zsn (x :: r) (y :: q) = (zbo x y /\ zsn r q) := rfl
theorem ycn : zsn [] [] = True := rfl
theorem yju : slen l = l.length := rfl
theorem yk2 : yec l m = l ++ m := rfl
theorem yjo : yn9 l a b = (l.take b.toNat).drop a.toNat := rfl
theorem yjw : zng l a = (l.getD a.toNat 0).toNat := rfl
theorem yl7 : yqz l = l.length := rfl
theorem yhd (p q r : Nat) : yps p q r = (p + q <= r) := rfl
theorem ysc (p : Nat) : Nat.add 0 p = p := Nat.zero_add p
theorem yll : imin a b = min a b := rfl
theorem ylm : yr0 a b = max a b := rfl
theorem ykw : za7 n = n := rfl
end
theorem zgr (n : Int) : IntKind.i64.wrap n = (n + 9223372036854775808) % 18446744073709551616 - 9223372036854775808 := by simp [IntKind.wrap, IntKind.bits, IntKind.signed]; omega
theorem yrc (n : Int) : IntKind.i32.wrap n = (n + 2147483648) % 4294967296 - 2147483648 := by simp [IntKind.wrap, IntKind.bits, IntKind.signed]; omega
theorem zyg (n : Int) : IntKind.u64.wrap n = n % 18446744073709551616 := by simp [IntKind.wrap, IntKind.bits, IntKind.signed]
theorem yns (n : Int) : IntKind.u32.wrap n = n % 4294967296 := by simp [IntKind.wrap, IntKind.bits, IntKind.signed]
theorem yra (n : Int) : IntKind.u16.wrap n = n % 65536 := by simp [IntKind.wrap, IntKind.bits, IntKind.signed]
theorem w_u8 (n : Int) : IntKind.u8.wrap n = n % 256 := by simp [IntKind.wrap, IntKind.bits, IntKind.signed]
theorem zpp (ps q : List Prop) (ids : List (Nat × Option Nat)) (x y : Nat) : zcx ⟨ps ++ q, ids⟩ x y = (zcx ⟨ps, ids⟩ x y).map fun m => ⟨m.ps ++ q, m.ids⟩ := by
 unfold zcx
 dsimp only
 repeat' split
 all_goals rfl
theorem zmd (ps q : List Prop) (ids : List (Nat × Option Nat)) (x : Nat) : zh2 ⟨ps ++ q, ids⟩ x = (zh2 ⟨ps, ids⟩ x).map fun m => ⟨m.ps ++ q, m.ids⟩ := by
 unfold zh2
 dsimp only
 split <;> first | rfl | (cases za2 ids x <;> rfl)
theorem ygb (ps q : List Prop) (ids : List (Nat × Option Nat)) (x y : AV) : zdm ⟨ps ++ q, ids⟩ x y = (zdm ⟨ps, ids⟩ x y).map fun m => ⟨m.ps ++ q, m.ids⟩ := by
 cases x <;> cases y <;> first
   | rfl
   | (simp only [zdm, zcm.add, zpp, zmd]; done)
   | (simp only [zdm, zcm.add, zpp, zmd]
      (repeat' split) <;> (try simp_all) <;> (try (rename_i hh _; subst hh; simp)) <;> (try (rename_i hh _ _; subst hh; simp)))
theorem zud : ∀ (xs ys : List AV) (ps q : List Prop) (ids : List (Nat × Option Nat)), zht ⟨ps ++ q, ids⟩ xs ys = (zht ⟨ps, ids⟩ xs ys).map fun m => ⟨m.ps ++ q, m.ids⟩
 | [], [], ps, q, ids => rfl
 | [], _ :: _, ps, q, ids => rfl
 | _ :: _, [], ps, q, ids => rfl
 | x :: xs, y :: ys, ps, q, ids => by
   unfold zht
   rw [ygb]
   cases e : zdm ⟨ps, ids⟩ x y with
   | none => rfl
   | some m => exact zud xs ys m.ps q m.ids
theorem zvd : ∀ (p : List Prop) (q : Prop), zm1 (p ++ [q]) = (q /\ zm1 p)
 | [], q => by simp [zm1]
 | a :: p, q => by
   show (a /\ zm1 (p ++ [q])) = (q /\ a /\ zm1 p)
   rw [zvd p q]
   exact propext ⟨fun ⟨h1, h2, h3⟩ => ⟨h2, h1, h3⟩, fun ⟨h1, h2, h3⟩ => ⟨h2, h1, h3⟩⟩
theorem zcl {x y : AV} {q : Prop} (e : zdm ⟨[], []⟩ x y = some ⟨[q], []⟩) (xs ys : List AV) : zbo (.agg (x :: xs)) (.agg (y :: ys)) = (q /\ zbo (.agg xs) (.agg ys)) := by
 unfold zbo zfq
 simp only [zht, e]
 have := zud xs ys [] [q] []
 rw [List.nil_append] at this
 rw [this]
 cases zht ⟨[], []⟩ xs ys with
 | none => simp
 | some m =>
   obtain ⟨ps, ids⟩ := m
   cases ids with
   | nil => exact zvd ps q
   | cons a b => simp
theorem zxj : zbo (.agg []) (.agg []) = True := rfl
theorem zmt (k : IntKind) (a b : Int) (xs ys : List AV) : zbo (.agg (.int k a :: xs)) (.agg (.int k b :: ys)) = (b = a /\ zbo (.agg xs) (.agg ys)) := zcl (by simp [zdm, zcm.add]) _ _
theorem zms (a b : List UInt8) (xs ys : List AV) : zbo (.agg (.str a :: xs)) (.agg (.str b :: ys)) = (b = a /\ zbo (.agg xs) (.agg ys)) := zcl rfl _ _
theorem zmu (a b : Bool) (xs ys : List AV) : zbo (.agg (.bool a :: xs)) (.agg (.bool b :: ys)) = (b = a /\ zbo (.agg xs) (.agg ys)) := zcl rfl _ _
theorem zqp (sz n n' : Nat) (g g' : Nat -> Nat -> AV) : zbo (.lst sz n g) (.lst sz n' g') = (n' = n /\ ∀ i j, i < n -> j < sz -> g' i j = g i j) := by simp [zbo, zfq, zdm, zcm.add, za3, zm1]
theorem yha (sz n n' : Nat) (g g' : Nat -> Nat -> AV) : zi5 (.lst sz n g) (.lst sz n' g') = (n' = n /\ ∀ i j, i < n -> j < sz -> g' i j = g i j) := zqp sz n n' g g'
theorem zmr (sz n : Nat) (g : Nat -> Nat -> AV) : zbo (.lst sz n g) .nils = (0 = n) := by simp [zbo, zfq, zdm, zcm.add, zm1]
theorem yci (sz n : Nat) (g : Nat -> Nat -> AV) : zi5 (.lst sz n g) .nils = (0 = n) := zmr sz n g
theorem zxi (sz n n' : Nat) (g g' : Nat -> Nat -> AV) (xs ys : List AV) : zbo (.agg (.lst sz n g :: xs)) (.agg (.lst sz n' g' :: ys)) = ((n' = n /\ ∀ i j, i < n -> j < sz -> g' i j = g i j) /\ zbo (.agg xs) (.agg ys)) := zcl (by simp [zdm, zcm.add, za3]) _ _
theorem zxh (sz n : Nat) (g : Nat -> Nat -> AV) (xs ys : List AV) : zbo (.agg (.lst sz n g :: xs)) (.agg (.nils :: ys)) = (0 = n /\ zbo (.agg xs) (.agg ys)) := zcl rfl _ _
theorem zqq (n : Nat) (g g' : Nat -> AV) : zbo (.arr n g) (.arr n g') = (∀ j, j < n -> g' j = g j) := by simp [zbo, zfq, zdm, zcm.add, za3, zm1]
theorem zol (n : Nat) (g g' : Nat -> AV) : zi5 (.arr n g) (.arr n g') = (∀ j, j < n -> g' j = g j) := zqq n g g'
theorem ycm : zi5 (.agg []) (.agg []) = True := rfl
theorem yck (k : IntKind) (a b : Int) (xs ys : List AV) : zi5 (.agg (.int k a :: xs)) (.agg (.int k b :: ys)) = (b = a /\ zbo (.agg xs) (.agg ys)) := zmt _ _ _ _ _
theorem ycj (a b : List UInt8) (xs ys : List AV) : zi5 (.agg (.str a :: xs)) (.agg (.str b :: ys)) = (b = a /\ zbo (.agg xs) (.agg ys)) := zms _ _ _ _
theorem ycl (a b : Bool) (xs ys : List AV) : zi5 (.agg (.bool a :: xs)) (.agg (.bool b :: ys)) = (b = a /\ zbo (.agg xs) (.agg ys)) := zmu _ _ _ _
theorem zyu {h : Array Obj} {D : Nat -> Prop} {μ : Mu} {l : List UInt8} {v : Value} (r : R h D μ (.str l) v) : v = .string ⟨l.toArray⟩ := by
 obtain ⟨s, rfl, rfl⟩ := r.inv_str
 simp
theorem zvn (h : Array Obj) (D : Nat -> Prop) (μ : Mu) (l : List UInt8) : R h D μ (.str l) (.string ⟨l.toArray⟩) := .str l _ (by simp)
theorem zdf {P : Program} {f : FuncId} {fn : Func} {c : Code} {xs : List AV} {args : Array Value} {v : Value} {r : AV} (hf : P.funcs[f]? = some fn) (hb : fn.body = some c) (hn : (fn.name == "runtime.NumGoroutine") = false)
   (ha : ∀ h D vs, RL h D zar xs vs -> vs = args) (hv : ∀ h D, R h D zar r v) (h : ∀ w, Calls P f args w fun e w' => e = .returned v /\ Below w.heap.size w w') : zbk P f xs r := by
 intro D w vs hD hxs hg
 have := ha _ _ _ hxs
 subst this
 unfold zfp
 rw [zcz hf hn hb]
 refine (h w).mono ?_
 rintro e w' ⟨rfl, hw⟩
 exact ⟨v, D, rfl, hw, fun _ h => h, fun b hb => .inl hb, hv _ _⟩
theorem zow {P : Program} {f : FuncId} {args : Array Value} {v : Value} (h : ∀ w, Calls P f args w fun e w' => e = .returned v /\ w = w') : ∀ w, Calls P f args w fun e w' => e = .returned v /\ Below w.heap.size w w' :=
 fun w => (h w).mono fun e w' ⟨h1, h2⟩ => ⟨h1, by subst h2; exact Below.refl _ _⟩
def ye7 (x : AV) (v : Value) : Prop := ∀ h D u, R h D zar x u -> u = v
theorem zhh (k : IntKind) (n : Int) : ye7 (.int k n) (.int k n) := fun _ _ _ r => by cases r; rfl
theorem zhg (l : List UInt8) : ye7 (.str l) (.string ⟨l.toArray⟩) := fun _ _ _ r => zyu r
theorem yht {x : AV} {v : Value} (hx : ye7 x v) : ∀ h D vs, RL h D zar [x] vs -> vs = #[v] := by
 intro h D vs ⟨hl, hr⟩
 obtain ⟨a, ha⟩ : ∃ a, vs.toList = [a] := List.length_eq_one_iff.1 (by simpa using hl.symm)
 have : vs = #[a] := by rw [<- Array.toArray_toList (xs := vs), ha]
 subst this
 rw [hx _ _ a (hr 0 x a rfl rfl)]
theorem yqe {x y : AV} {v u : Value} (hx : ye7 x v) (hy : ye7 y u) : ∀ h D vs, RL h D zar [x, y] vs -> vs = #[v, u] := by
 intro h D vs ⟨hl, hr⟩
 obtain ⟨a, b, ha⟩ : ∃ a b, vs.toList = [a, b] := by
   have hl : vs.toList.length = 2 := by simpa using hl.symm
   match vs.toList, hl with
   | [a, b], _ => exact ⟨a, b, rfl⟩
 have : vs = #[a, b] := by rw [<- Array.toArray_toList (xs := vs), ha]
 subst this
 rw [hx _ _ a (hr 0 x a rfl rfl), hy _ _ b (hr 1 y b rfl rfl)]
abbrev zf3 := Nat × (List AV -> Option (Prop × AV))
abbrev zeb := Nat × yth
def yr1 (l : List zf3) : FuncId -> List AV -> Option (Prop × AV) := fun f xs => match za2 l f with | some g => g xs | none => none
def zdq (l : List zf3) : zn1 := ⟨yr1 l, fun _ => none⟩
def zaz (l : List zf3) (lm : List zeb) : zn1 := ⟨yr1 l, za2 lm⟩
def zgv (P : Program) (e : zf3) : Prop := ∀ xs p r, e.2 xs = some (p, r) -> p -> zbk P e.1 xs r
def yhy (P : Program) : List zf3 -> Prop
 | [] => True
 | e :: l => zgv P e /\ yhy P l
def zbt (P : Program) (e : zeb) : Prop := ∀ raw ob T, e.2 raw ob = some T -> T.p -> zat P e.1 T.xs T.O T.r T.O1
def ye9 (P : Program) : List zeb -> Prop
 | [] => True
 | e :: l => zbt P e /\ ye9 P l
theorem zsk {P : Program} : ∀ {l : List zf3}, yhy P l -> ∀ f xs p r, yr1 l f xs = some (p, r) -> p -> zbk P f xs r
 | [], _, f, xs, p, r, h => by cases h
 | (n, g) :: l, ⟨hg, hl⟩, f, xs, p, r, h => by
   unfold yr1 za2 at h
   by_cases e : n = f
   · subst e
     rw [za3] at h
     exact hg xs p r h
   · rw [zac e] at h
     exact zsk hl f xs p r h
theorem ybi {P : Program} : ∀ {l : List zeb}, ye9 P l -> ∀ f m, za2 l f = some m -> ∀ raw ob T, m raw ob = some T -> T.p -> zat P f T.xs T.O T.r T.O1
 | [], _, f, m, h => by cases h
 | (n, g) :: l, ⟨hg, hl⟩, f, m, h => by
   unfold za2 at h
   by_cases e : n = f
   · subst e
     rw [za3] at h
     cases h
     exact hg
   · rw [zac e] at h
     exact ybi hl f m h
theorem zav {P : Program} {l : List zf3} (h : yhy P l) : zdn P (zdq l) := ⟨zsk h, fun f m h => by cases h⟩
theorem za6 {P : Program} {l : List zf3} {lm : List zeb} (h : yhy P l) (hm : ye9 P lm) : zdn P (zaz l lm) := ⟨zsk h, ybi hm⟩
theorem law_of_ac {P : Program} {f : FuncId} {fn : Func} {c : Code} {xs : List AV} {vs : Array Value} (hf : P.funcs[f]? = some fn) (hb : fn.body = some c) (hn : (fn.name == "runtime.NumGoroutine") = false)
   (h : zbk P f xs (.bool true)) (D : Nat -> Prop) (w : World) (hD : ∀ b, D b -> b < w.heap.size) (hr : RL w.heap D zar xs vs) (hg : GOk w := by trivial) : Calls P f vs w fun e w' => e = .returned (.bool true) /\ Below w.heap.size w w' := by
 have h := h D w vs hD hr hg
 unfold zfp at h
 rw [zcz hf hn hb] at h
 refine h.mono ?_
 rintro e w' ⟨v, D', rfl, hw, _, _, r⟩
 cases r
 exact ⟨rfl, hw⟩
theorem rl_nil {h : Array Obj} {D : Nat -> Prop} : RL h D zar [] #[] := ⟨rfl, fun i x v h => by simp at h⟩
theorem rl_of {h : Array Obj} {D : Nat -> Prop} {xs : List AV} {vs : Array Value} {x : AV} {v : Value} (hx : R h D zar x v) (hr : RL h D zar xs ⟨vs.toList⟩) : RL h D zar (x :: xs) ⟨v :: vs.toList⟩ := by
 obtain ⟨h1, h2⟩ := hr
 refine ⟨by simpa using h1, ?_⟩
 intro i y u hy hu
 cases i with
 | zero => simp at hy hu; subst hy hu; exact hx
 | succ i => simp at hy hu; exact h2 i y u hy (by simpa using hu)
theorem yko (q : Nat) (k : IntKind) (v : Int) (f : Nat -> Int) (i j : Nat) (h : j < 1) : over std q 0 1 [.int k v] (fun i _ => .int k (f i)) i j = .int k (if i = q then v else f i) := by
 rw [zee, if_pos (by omega)]
 have h0 : j = 0 := by omega
 subst h0
 by_cases e : i = q
 · subst e; simp [zci, zbl, L3, std, za3]
 · simp [zac e, zci, zbl, L3, std, e]
theorem yta {p q : Nat} (h : p < q) : zb3 p q = true := by rw [zc7]; exact h
theorem ytb {p q : Nat} (h : ¬ p < q) : zb3 p q = false := by rw [Bool.eq_false_iff, ne_eq, zc7]; exact h
set_option linter.defProp false in
def sySet := And.intro @zfr (And.intro @zl3 (And.intro @ysq (And.intro @ysr (And.intro @ycf (And.intro @ygz (And.intro @zsf (And.intro @zlw (And.intro @zvq (And.intro @zvr (And.intro @zoi (And.intro @ypp (And.intro @ylj (And.intro @zu9 (And.intro @yfm (And.intro @zor (And.intro @zck (And.intro @zjr (And.intro @zi4 (And.intro @zxg (And.intro @ycq (And.intro @ycp (And.intro @yh9 (And.intro @zxf (And.intro @ycn (And.intro @yju (And.intro @yk2 (And.intro @yjo (And.intro @yjw (And.intro @ykw (And.intro @yll (And.intro @ylm (And.intro @Bool.not_eq_true' (And.intro @Bool.not_eq_false' (And.intro @Bool.and_eq_true (And.intro @Bool.and_eq_false_imp (And.intro @Bool.or_eq_true (And.intro @Bool.or_eq_false_iff (And.intro @Bool.not_true (And.intro @Bool.not_false (And.intro @zgr (And.intro @yrc (And.intro @zyg (And.intro @yns (And.intro @yra (And.intro @w_u8 (And.intro @Int.zero_add (And.intro @yl7 (And.intro @yhd (And.intro @ysc (And.intro @zxj (And.intro @zmt (And.intro @zms (And.intro @zmu (And.intro @ycm (And.intro @yck (And.intro @ycj (And.intro @ycl (And.intro @zqp (And.intro @yha (And.intro @zmr (And.intro @yci (And.intro @zxi (And.intro @zxh (And.intro @zqq (And.intro @zol (And.intro @yhb (And.intro @ycr (And.intro @yhc @ycs))))))))))))))))))))))))))))))))))))))))))))))))))))))))))))))))))))
set_option linter.defProp false in
def syB := And.intro @Decidable.not_not (And.intro @true_and (And.intro @and_true (And.intro @decide_eq_true_eq (And.intro @decide_eq_false_iff_not (And.intro @imp_false (And.intro not_false_eq_true (And.intro not_true_eq_false (And.intro @false_imp_iff (And.intro @true_imp_iff (And.intro @forall_const.{0} (And.intro @forall_const.{1} (And.intro @implies_true.{0} (And.intro @implies_true.{1} (And.intro @ne_eq.{1} (And.intro @Int.cast_ofNat_Int (And.intro @Int.toNat_natCast (And.intro @Nat.succ_eq_add_one (And.intro @Nat.le_eq (And.intro @Nat.sub_eq (And.intro @zco.eq_1 (And.intro @zp3.eq_1 (@zjz.eq_1))))))))))))))))))))))
set_option linter.defProp false in
def syS := And.intro sySet syB
end Sy
end Go.Proofs.Ytogomcfgfnlclaa
namespace Go.Proofs.Ytogomcfgfnlclaa
namespace Sy
open Go Go.RowKit
set_option linter.unusedSimpArgs false
set_option linter.unusedVariables false
set_option linter.unusedSectionVars false
def ys4 : List (Nat × Ob) -> List Nat
 | [] => []
 | (n, _) :: r => match zct n with | true => n :: ys4 r | false => ys4 r
def zj5 (O1 : List (Nat × Ob)) : List (Nat × Ob) -> Bool
 | [] => true
 | (n, .tab _ _ _ _ _) :: r => match za2 O1 n with
   | some (.tab _ _ _ _ _) => match zb3 n zbv, zct n with | true, false => zj5 O1 r | _, _ => false
   | _ => false
 | (n, _) :: r => match zct n with | true => zj5 O1 r | false => false
def zsi (L : za9) (ice : List Nat) : Nat -> List AV -> List (Nat × Ob) -> Option (List AV × List (Nat × Ob))
 | _, [], O => some ([], O)
 | d, .slc id sz off n cap :: r, O => match za2 O id, zbp ice id, za2 O d, zct d || zb4 d with
   | some (.row ty sz' _ get), false, none, false => match cond (zb3 0 sz) (za5 sz sz') false with
     | true => match zsi L ice (d + 1) r ((d, .row ty sz (L2 L Nat.add off n) get) :: (id, .gone) :: O) with
       | some (vs, O') => some (.sl d sz off n :: vs, O')
       | none => none
     | false => none
   | _, _, _, _ => none
 | d, v :: r, O => match zsi L ice d r O with
   | some (vs, O') => some (v :: vs, O')
   | none => none
section
variable (T : TT) (L : za9) (S : zn1) (lo lb : Nat -> St -> Option Ann)
def yq0 (rts : List AV) (O1 : List (Nat × Ob)) (rs : List ResultVar) (s : St) : zcb :=
 match ya9 T s rs with
 | some vs => match za5 (zdo vs) (zdo rts) with
   | true => match zsi L s.ice 600010 vs s.objs with
     | some (vs, O) => zwz ⟨zwt 0 vs, O, s.ice, []⟩ ⟨zwt 0 rts, O1, [], []⟩ (ys4 O1) .yes
     | none => .fail 265
   | false => .fail 263
 | none => .fail 264
def finM (rts : List AV) (O1 : List (Nat × Ob)) (rs : List ResultVar) : K := fun e s => match e with
 | .normal => yq0 T L rts O1 rs s
 | .ret => yq0 T L rts O1 rs s
 | _ => .fail 262
def yrt (n : Nat) (f : Func) (xs : List AV) (O : List (Nat × Ob)) (rts : List AV) (O1 : List (Nat × Ob)) : zcb :=
 match f.body with
 | some c => run T L S lo (zmb lb (pass T L S lo lb n)) noL c ⟨zwt 0 xs, O, [], []⟩ (finM T L rts O1 f.results.toList)
 | none => .fail 270
end
def yaa : List AV -> AV
 | [r] => r
 | rs => .tup rs
theorem zgp {O1 : List (Nat × Ob)} : ∀ {O : List (Nat × Ob)}, zj5 O1 O = true -> ∀ n o, za2 O n = some o -> (zct n = true /\ zau o = false) \/ (zau o = true /\ n < zbv /\ zct n = false /\ ∃ o1, za2 O1 n = some o1 /\ zau o1 = true)
 | [], _, n, o, h => by simp [za2] at h
 | (m, o') :: r, e, n, o, h => by
   unfold zj5 at e
   unfold za2 at h
   split at e
   · rename_i q; cases q
   · rename_i q; cases q
     split at e
     · rename_i h1
       split at e
       · rename_i h2 h3
         split at h
         · rename_i hb
           have := za1 hb; subst this
           cases h
           exact .inr ⟨rfl, zan h2, h3, _, h1, rfl⟩
         · exact zgp e n o h
       · cases e
     · cases e
   · rename_i hno q; cases q
     split at e
     · rename_i hp
       split at h
       · rename_i hb
         cases h
         refine .inl ⟨by rw [<- za1 hb]; exact hp, ?_⟩
         cases o' <;> first | exact (hno _ _ _ _ _ rfl).elim | rfl
       · exact zgp e n o h
     · cases e
theorem zr3 {O O1 : List (Nat × Ob)} (e : zj5 O1 O = true) : Plain (za2 O) := fun n o h => by
 rcases zgp e n o h with ⟨h1, h2⟩ | ⟨h1, h2, h3, _⟩
 · refine ⟨Nat.lt_of_lt_of_le (Nat.lt_of_not_le fun q => ?_) zov, fun q => by rw [h2] at q; cases q⟩
   rw [zi0 q] at h1; cases h1
 · exact ⟨h2, fun _ => h3⟩
section
variable {P : Program} {T : TT} {base : Nat} {M : Two} {W : World} {nt : Nat} {f : Nat -> Option AV} {g : Nat -> Option Ob} {c : Nat -> Bool} {a : Act} {w : World} {D : Nat -> Prop} {μ : Mu} {o : Oper}
theorem Sim.rename (h : Sim base M W nt f g c a w D μ) {d id b z m k ty sz : Nat} {get get' : Nat -> Nat -> AV} (hp : zct d = false) (hdb : d < zbv) (hd : g d = none) (hμ : μ id = some (some (b, z, m))) (hg : g id = some (.row ty sz m get)) (hc : c id = false)
   (hz : k * sz <= z) (hs : 0 < sz) (hget : ∀ i j, i < k -> j < sz -> (i < m /\ get' i j = get i j) \/ get' i j = .dead) :
   Sim base M W nt f (zb7 g [(d, .row ty sz k get'), (id, .gone)]) c a w D (fun i => if i = d then some (some (b, z, k)) else μ i) := by
 have hdid : d ≠ id := by rintro rfl; rw [hd] at hg; cases hg
 obtain ⟨_, C, tt, fr, hh, hcs, hf, hle, hrow⟩ := h.obs id _ _ hg hμ
 obtain ⟨hblt, hbb⟩ := h.own id b _ hμ
 have hnD := (h.kd id b _ _ hμ hg (by simp)).2 hc
 have hfree := h.goneFree hμ hg (by simp)
 have hgone := h.gone hg
 have hd2 : zb7 g [(id, .gone)] d = none := by simp [zb7, za2, zac (fun x => hdid x.symm : ¬ id = d), hd]
 have had := hgone.adopt (d := d) hp hd2 hdb (b := b) (z := z) (m := k) hblt hbb hnD hfree (ob := .row ty sz k get') (by simp) C (fun hD => by
   rw [setRow_self w b C tt fr hh]
   refine ⟨rfl, C, tt, fr, hh, hcs, hf, hz, fun i j hi hj => ?_⟩
   have hlt : i * sz + j < C.size := by
     have h3 : (i + 1) * sz <= k * sz := Nat.mul_le_mul_right _ hi
     rw [Nat.add_mul] at h3
     omega
   rcases hget i j hi hj with ⟨him, e⟩ | e
   · rw [e]; exact hrow i j him hj
   · rw [e]
     exact ⟨_, getD_some hlt, hf.2.2.1 _ _ (getD_some hlt), .dead _⟩)
 rw [setRow_self w b C tt fr hh] at had
 have e2 : zb7 (zb7 g [(id, .gone)]) [(d, .row ty sz k get')] = zb7 g [(d, .row ty sz k get'), (id, .gone)] := by
   funext q
   simp only [zb7, za2]
   by_cases k1 : d = q
   · subst k1; simp [za3]
   · by_cases k2 : id = q
     · subst k2; simp [za3, zac hdid]
     · simp [zac k1, zac k2]
 rw [e2] at had
 exact had
theorem Sim.renameNil (h : Sim base M W nt f g c a w D μ) {d id m ty sz : Nat} {get get' : Nat -> Nat -> AV} (hp : zct d = false) (hdb : d < zbv) (hd : g d = none) (hμ : μ id = some none) (hg : g id = some (.row ty sz m get)) :
   Sim base M W nt f (zb7 g [(d, .row ty sz 0 get'), (id, .gone)]) c a w D (fun i => if i = d then some none else μ i) := by
 have hdid : d ≠ id := by rintro rfl; rw [hd] at hg; cases hg
 have hgone := h.gone hg
 have hd2 : zb7 g [(id, .gone)] d = none := by simp [zb7, za2, zac (fun x => hdid x.symm : ¬ id = d), hd]
 have had := hgone.newNil (d := d) hp hd2 ty sz get' hdb
 have e2 : zb7 (zb7 g [(id, .gone)]) [(d, .row ty sz 0 get')] = zb7 g [(d, .row ty sz 0 get'), (id, .gone)] := by
   funext q
   simp only [zb7, za2]
   by_cases k1 : d = q
   · subst k1; simp [za3]
   · by_cases k2 : id = q
     · subst k2; simp [za3, zac hdid]
     · simp [zac k1, zac k2]
 rw [e2] at had
 exact had
theorem ycy {d : Nat} {y : Option (Nat × Nat × Nat)} (hd : μ d = none) : ∀ i x, μ i = some x -> (if i = d then some y else μ i) = some x := by
 intro i x hx
 have : i ≠ d := by rintro rfl; rw [hd] at hx; cases hx
 rw [if_neg this, hx]
theorem ytd (O : List (Nat × Ob)) (p : Nat × Ob) (q : Nat × Ob) : za2 (p :: q :: O) = zb7 (za2 O) [p, q] := by
 funext i
 obtain ⟨p, x⟩ := p
 obtain ⟨q, y⟩ := q
 simp only [zb7, za2]
 cases za5 p i with
 | true => rfl
 | false => cases za5 q i <;> rfl
theorem yst (h : Sim base M W nt f g c a w D μ) {d id ty sz m off n cap : Nat} {get : Nat -> Nat -> AV} {v : Value} (hp : zct d = false) (hdb : d < zbv) (hd : g d = none) (hg : g id = some (.row ty sz m get)) (hc : c id = false) (hs : 0 < sz) (r : R w.heap D μ (.slc id sz off n cap) v) :
   ∃ μ', Sim base M W nt f (zb7 g [(d, .row ty sz (off + n) get), (id, .gone)]) c a w D μ' /\ (∀ i y, μ i = some y -> μ' i = some y) /\ R w.heap D μ' (.sl d sz off n) v := by
 have hmd : μ d = none := (h.domx d).2 (by rw [zab (zaw.2 hdb)]; exact hd)
 cases r with
 | slcv _ _ ad hm =>
   exact ⟨_, h.renameNil hp hdb hd hm hg, ycy hmd, .slv _ _ _ (by simp)⟩
 | slc0 _ _ _ b z mm o hm ho =>
   have hmm := (h.obs id _ _ hg hm).1
   subst hmm
   obtain ⟨_, C, tt, fr, hh, hcs, hf, hle, hrow⟩ := h.obs id _ _ hg hm
   exact ⟨_, h.rename (k := off + 0) (get' := get) hp hdb hd hm hg hc (Nat.le_trans (Nat.mul_le_mul_right _ ho) hle) hs (fun i j hi hj => .inl ⟨by omega, rfl⟩), ycy hmd, .sl0 _ _ _ b z off o (by simp) (by omega)⟩
 | slc _ _ _ _ _ b z mm hm hn hz ho =>
   have hmm := (h.obs id _ _ hg hm).1
   subst hmm
   exact ⟨_, h.rename (k := off + n) (get' := get) hp hdb hd hm hg hc (Nat.le_trans (Nat.mul_le_mul_right _ (by omega)) hz) hs (fun i j hi hj => .inl ⟨by omega, rfl⟩), ycy hmd, .sl _ _ _ _ b z (off + n) cap (by simp) hn hz (by omega)⟩
theorem zok {ice : List Nat} : ∀ (vs : List AV) (d : Nat) (O : List (Nat × Ob)) (vs' : List AV) (O' : List (Nat × Ob)) (us : Nat -> Value) {μ : Mu}, zsi std ice d vs O = some (vs', O') -> Sim base M W nt f (za2 O) (zbp ice) a w D μ -> (∀ t v, vs[t]? = some v -> R w.heap D μ v (us t)) ->
   ∃ μ', Sim base M W nt f (za2 O') (zbp ice) a w D μ' /\ vs'.length = vs.length /\ (∀ i y, μ i = some y -> μ' i = some y) /\ ∀ t v, vs'[t]? = some v -> R w.heap D μ' v (us t)
 | [], d, O, vs', O', us, μ, e, h, hr => by cases e; exact ⟨μ, h, rfl, fun _ _ h => h, hr⟩
 | x :: r, d, O, vs', O', us, μ, e, h, hr => by
   have plain : ∀ vs1, zsi std ice d r O = some (vs1, O') -> vs' = x :: vs1 -> ∃ μ', Sim base M W nt f (za2 O') (zbp ice) a w D μ' /\ vs'.length = (x :: r).length /\ (∀ i y, μ i = some y -> μ' i = some y) /\ ∀ t v, vs'[t]? = some v -> R w.heap D μ' v (us t) := by
     rintro vs1 e1 rfl
     obtain ⟨μ2, k1, k2, k3, k4⟩ := zok r d O vs1 O' (fun t => us (t + 1)) e1 h (fun t v hv => hr (t + 1) v hv)
     refine ⟨μ2, k1, by simp [k2], k3, fun t v hv => ?_⟩
     cases t with
     | zero => cases hv; exact (hr 0 _ rfl).mono (fun _ _ => rfl) (fun _ h => h) k3
     | succ t => exact k4 t v hv
   by_cases hx : ∃ id sz off n cap, x = .slc id sz off n cap
   · obtain ⟨id, sz, off, n, cap, rfl⟩ := hx
     simp only [zsi] at e
     split at e
     · rename_i ty sz' m get hg hc hd hp
       split at e
       · rename_i hsz
         have hs : zb3 0 sz = true := by cases hq : zb3 0 sz <;> simp_all
         rw [hs] at hsz
         obtain rfl := za1 hsz
         split at e
         · rename_i vs1 O1 e1
           cases e
           rw [Bool.or_eq_false_iff] at hp
           obtain ⟨μ1, h1, h2, h3⟩ := yst h hp.1 (zaw.1 hp.2) hd hg hc (zan hs) (hr 0 _ rfl)
           rw [<- ytd] at h1
           obtain ⟨μ2, k1, k2, k3, k4⟩ := zok r (d + 1) _ vs1 _ (fun t => us (t + 1)) e1 h1 (fun t v hv => (hr (t + 1) v hv).mono (fun _ _ => rfl) (fun _ h => h) h2)
           refine ⟨μ2, k1, by simp [k2], fun i y hy => k3 i y (h2 i y hy), fun t v hv => ?_⟩
           cases t with
           | zero => cases hv; exact h3.mono (fun _ _ => rfl) (fun _ h => h) k3
           | succ t => exact k4 t v hv
         · cases e
       · cases e
     · cases e
   · have e' : (match zsi std ice d r O with | some (vs, O') => some (x :: vs, O') | none => none) = some (vs', O') := by
       cases x <;> first | exact e | exact absurd ⟨_, _, _, _, _, rfl⟩ hx
     split at e'
     · rename_i vs1 O1 e1
       cases e'
       exact plain vs1 e1 rfl
     · cases e'
end
theorem zx2 {P : Program} {T : TT} {Q : AV -> Prop} {fn : Func} {O O1 : List (Nat × Ob)} {rts : List AV} {D : Nat -> Prop} {w : World} {μ : Mu} (hT : zbd P T) (hD : ∀ b, D b -> b < w.heap.size) (hdom : ∀ n, μ n = none ↔ gx (za2 O) n = none) (hobs : ∀ n o x, gx (za2 O) n = some o -> μ n = some x -> zdg w.heap D μ o x)
   (hown : ∀ n b z, μ n = some (some (b, z)) -> b < w.heap.size /\ ¬ D b) (hrb : fn.results.size <= 500000) (hpin : zj5 O1 O = true) {nt : Nat} {s : St} {a : Act} {w' : World} {D1 : Nat -> Prop} {μ1 : Mu}
   (S1 : Sim w.heap.size ⟨fun b => ∃ n z, μ n = some (some (b, z)), D, fun n => (μ n).getD none, μ⟩ w nt (za2 s.slots) (za2 s.objs) (zbp s.ice) a w' D1 μ1)
   (h' : Sat P Q (yq0 T std rts O1 fn.results.toList s)) : a.defers = [] /\ ∃ v, (results fn a.tmps).run P w' = .ok v w' /\ ∃ v' D' μ', yn5 D w μ O O1 (yaa rts) (Ending.returned v) v' w' D' μ' := by
 unfold yq0 at h'
 split at h'
 · rename_i vs1 hvs
   split at h'
   · rename_i hlen
     have hlen := za1 hlen
     rw [zai, zai] at hlen
     obtain ⟨l1, us, h1, h2⟩ := zrt S1 hT hvs
     split at h'
     rotate_left
     · cases h'
     rename_i vs2 O2 hhide
     obtain ⟨μ3, S3, l3, _, h4⟩ := zok vs1 600010 s.objs vs2 O2 us hhide S1 h2
     have l1 : vs2.length = fn.results.toList.length := l3.trans l1
     have hlen : vs2.length = rts.length := l3.trans hlen
     clear h2
     have h2 := h4
     have hres := zkc (P := P) (w := w') (fn := fn) (tmps := a.tmps) h1
     have hk : vs2.length = fn.results.size := by rw [l1, Array.length_toList]
     have hut : ∀ t, t < fn.results.size -> (((List.range fn.results.size).map us).toArray).getD t undef = us t := by
       intro t ht
       rw [Array.getD_eq_getD_getElem?]
       simp [ht]
     have hs1 : zlk w.heap.size ⟨fun b => ∃ n z, μ n = some (some (b, z)), D, fun n => (μ n).getD none, μ⟩ w fn.results.size ⟨zwt 0 vs2, O2, s.ice, []⟩ ⟨((List.range fn.results.size).map us).toArray, []⟩ w' :=
       ⟨⟨D1, μ3, {
         os := S1.os, tape := S1.tape, output := S1.output, size := S1.size, bs := S1.bs, old := S1.old, defers := rfl
         tmps := by simp
         slots := fun t v hv => by
           have hv : za2 (zwt 0 vs2) t = some v := hv
           rw [zez, if_pos (by omega), Nat.sub_zero] at hv
           have ht := (List.getElem?_eq_some_iff.1 hv).1
           rw [hut t (by omega)]
           exact h2 t v hv
         dlt := S3.dlt, low := S3.low, domx := S3.domx, obsx := S3.obsx, injx := S3.injx, own := S3.own, kdx := S3.kdx, icyx := S3.icyx, tbs := S3.tbs, icm := S3.icm, mems := S3.mems, ntb := hrb, pin := S3.pin, gl := S3.gl }⟩, fun t b ht => by simp [za2] at ht⟩
     obtain ⟨⟨⟨D2, μ2, S2⟩, _⟩, _⟩ := ybq hs1 h' rfl
     have live : ∀ n o, gx (za2 O1) n = some o -> o ≠ .gone := fun n o ho => by
       by_cases hm : zb4 n = true
       · rw [zg4 _ hm] at ho
         rintro rfl
         unfold zdx at ho
         split at ho
         · split at ho <;> cases ho
         · cases ho
       · rw [zab (by simpa using hm)] at ho
         exact ybp hs1 h' n o ho
     refine ⟨S1.defers, _, hres, (if fn.results.size = 1 then us 0 else .tuple ((List.range fn.results.size).map us).toArray), fun b => D b \/ D2 b, μ2, ?_⟩
     exact {
       ret := rfl, os := S2.os, tape := S2.tape, output := S2.output, size := S2.size
       old := fun b h1 h2 => S2.old b h1 fun ⟨n, z, hn⟩ => h2 n z hn
       up := fun b hb => .inl hb
       dn := fun b hb => by
         rcases hb with hb | hb
         · exact .inl hb
         · by_cases hlt : b < w.heap.size
           · rcases S2.low b hb hlt with q | q
             · exact .inl q
             · exact .inr (.inr q)
           · exact .inr (.inl ⟨by omega, S2.dlt b hb⟩)
       dom := S2.domx
       obs := fun n o x ho hx => (S2.obsx n o x ho hx).mono (fun _ _ => rfl) (fun _ h => .inr h) (fun _ _ h => h) (fun _ _ _ _ => rfl)
       inj := fun n n' b z z' h1 h2 => by
         have g1 : gx (za2 O1) n ≠ none := fun e => by rw [(S2.domx n).2 e] at h1; cases h1
         have g2 : gx (za2 O1) n' ≠ none := fun e => by rw [(S2.domx n').2 e] at h2; cases h2
         obtain ⟨o1, q1⟩ := Option.ne_none_iff_exists'.1 g1
         obtain ⟨o2, q2⟩ := Option.ne_none_iff_exists'.1 g2
         exact S2.injx n n' b z z' o1 o2 h1 h2 q1 q2 (live n o1 q1) (live n' o2 q2)
       own := fun n b z h1 => by
         have g1 : gx (za2 O1) n ≠ none := fun e => by rw [(S2.domx n).2 e] at h1; cases h1
         obtain ⟨o1, q1⟩ := Option.ne_none_iff_exists'.1 g1
         have k := (S2.kdx n b z o1 h1 q1 (live n o1 q1)).2 rfl
         obtain ⟨p1, p2⟩ := S2.own n b z h1
         refine ⟨p1, ?_, ?_⟩
         · rintro (hb | hb)
           · rcases p2 with p2 | ⟨m, z2, p2⟩
             · have := hD b hb; omega
             · exact (hown m b z2 p2).2 hb
           · exact k hb
         · rcases p2 with p2 | ⟨m, z2, p2⟩
           · exact .inl p2
           · exact .inr ⟨m, z2, p2⟩
       keep := fun n hn hn1 => by
         obtain ⟨y, hy⟩ := Option.ne_none_iff_exists'.1 (fun e => hn1 ((S2.domx n).1 e) : μ2 n ≠ none)
         have h3 : μ n ≠ none := fun e => hn ((hdom n).1 e)
         obtain ⟨y0, hy0⟩ := Option.ne_none_iff_exists'.1 h3
         by_cases hm : zb4 n = true
         · have h4 := S2.mems n y0 hm hy0
           rw [hy0]; exact h4
         · have hO := zab (g := za2 O) (by simpa using hm : zb4 n = false)
           have hO1 := zab (g := za2 O1) (by simpa using hm : zb4 n = false)
           obtain ⟨o, ho⟩ := Option.ne_none_iff_exists'.1 (hO ▸ hn)
           rcases zgp hpin n o ho with ⟨hp, _⟩ | ⟨ht, _, _, o1, ho1, ht1⟩
           · have := S2.pin n y hp hy
             have h4 : y = (μ n).getD none := this
             rw [hy0] at h4
             rw [hy, hy0, h4]; rfl
           · have k1 := hobs n o y0 (hO.trans ho) hy0
             have k2 := S2.obsx n o1 y (hO1.trans ho1) hy
             rw [hy, hy0]
             cases o <;> first | cases ht | skip
             cases o1 <;> first | cases ht1 | skip
             cases y0 with
             | some _ => exact k1.elim
             | none => cases y with
               | some _ => exact k2.elim
               | none => rfl
       val := by
         have each : ∀ (i : Nat) r, rts[i]? = some r -> R w'.heap (fun b => D b \/ D2 b) μ2 r (us i) := by
           intro i r hr
           have hlt : i < fn.results.size := by
             have := (List.getElem?_eq_some_iff.1 hr).1
             omega
           have := S2.slots i r (by show za2 (zwt 0 rts) i = some r; rw [zez, if_pos (by omega), Nat.sub_zero]; exact hr)
           have h3 := hut i hlt
           have this : R w'.heap D2 μ2 r ((((List.range fn.results.size).map us).toArray).getD i undef) := this
           rw [h3] at this
           exact this.mono (fun _ _ => rfl) (fun _ h => .inr h) (fun _ _ h => h)
         unfold yaa
         split
         · rename_i r
           have hsz : fn.results.size = 1 := by rw [<- hk, hlen]; rfl
           rw [if_pos hsz]
           exact each 0 _ rfl
         · rename_i hne
           have hsz : ¬ fn.results.size = 1 := by
             rw [<- hk, hlen]
             intro h1
             obtain ⟨v, hv⟩ := List.length_eq_one_iff.1 h1
             exact hne v hv
           rw [if_neg hsz]
           refine .tup _ _ (by simp; omega) fun i v x hv hx => ?_
           have hlt : i < fn.results.size := by
             have := (List.getElem?_eq_some_iff.1 hv).1
             omega
           simp [hlt] at hx
           subst hx
           exact each i v hv }
   · cases h'
 · cases h'
theorem ybt {P : Program} {T : TT} {S : zn1} {lo lb : Nat -> St -> Option Ann} {n : Nat} {f : FuncId} {fn : Func} {c : Code} {xs : List AV} {O : List (Nat × Ob)} {rts : List AV} {O1 : List (Nat × Ob)} (hf : P.funcs[f]? = some fn) (hb : fn.body = some c) (hn : (fn.name == "runtime.NumGoroutine") = false)
   (hc : zc5 fn.ntmps c = true) (hx : (zbh xs.length fn.ntmps && zbh fn.ntmps 500000 && zbh fn.results.size 500000 && zj5 O1 O) = true) (hT : zbd P T) (hS : zdn P S) (hm : P.follows .mixedOrders = true) {Q : AV -> Prop} (h : Sat P Q (yrt T std S lo lb n fn xs O rts O1)) : zat P f xs O (yaa rts) O1 := by
 intro D w μ vs hD hxs hdom hobs hinj hown hg hgb
 rw [Bool.and_eq_true, Bool.and_eq_true, Bool.and_eq_true] at hx
 obtain ⟨⟨⟨hx, hnb⟩, hrb⟩, hpin⟩ := hx
 have hx := zb2 hx
 have hnb := zb2 hnb
 have hrb := zb2 hrb
 unfold zfp
 rw [zcz hf hn hb]
 simp only
 refine calls_of_wp hf hb ?_
 unfold yrt at h
 rw [hb] at h
 refine yd4 (base := w.heap.size) (M := ⟨fun b => ∃ n z, μ n = some (some (b, z)), D, fun n => (μ n).getD none, μ⟩) (W := w) hT hS hm hc ⟨⟨D, μ, ?_⟩, fun t b ht => by simp [za2] at ht⟩ h (fun e s a w' hs h' => ?_)
 · exact {
     os := rfl, tape := rfl, output := rfl, size := Nat.le_refl _, bs := Nat.le_refl _, old := fun _ _ _ => rfl, defers := rfl
     tmps := by
       rw [hxs.1] at hx
       simp; omega
     slots := fun t v hv => by
       have hv : za2 (zwt 0 xs) t = some v := hv
       rw [zez, if_pos (by omega), Nat.sub_zero] at hv
       have hlt : t < vs.size := by rw [<- hxs.1]; exact (List.getElem?_eq_some_iff.1 hv).1
       have h1 : vs[t]? = some vs[t] := by simp [hlt]
       have h2 : (vs ++ Array.replicate (fn.ntmps - vs.size) undef).getD t undef = vs[t] := by
         rw [Array.getD_eq_getD_getElem?, Array.getElem?_append_left hlt, h1]; rfl
       rw [h2]
       exact hxs.2 t v vs[t] hv h1
     dlt := hD, low := fun b hb _ => .inl hb, domx := hdom, obsx := hobs
     tbs := zr3 hpin, icm := fun _ _ => rfl, mems := fun _ _ _ h => h
     injx := fun id id' b z z' o o' h1 h2 _ _ _ _ => hinj id id' b z z' h1 h2
     own := fun id b z h1 => ⟨(hown id b z h1).1, .inr ⟨id, z, h1⟩⟩
     kdx := fun id b z o h1 _ _ => ⟨fun hx => by simp [zbp] at hx, fun _ => (hown id b z h1).2⟩
     icyx := fun id h => by simp [zbp] at h
     ntb := hnb
     pin := fun id y _ hy => by show y = (μ id).getD none; rw [hy]; rfl
     gl := ⟨hg, zvf hg, fun b ⟨n, z, hn⟩ => hgb n b z hn⟩ }
 · obtain ⟨⟨D1, μ1, S1⟩, _⟩ := hs
   have key : Sat P Q (yq0 T std rts O1 fn.results.toList s) -> a.defers = [] /\ ∃ v, (results fn a.tmps).run P w' = .ok v w' /\ ∃ v' D' μ', yn5 D w μ O O1 (yaa rts) (Ending.returned v) v' w' D' μ' := fun h' => zx2 hT hD hdom hobs hown hrb hpin S1 h'
   cases e with
   | normal => exact key h'
   | ret => exact key h'
   | exit id => cases h'
   | goto l => cases h'
end Sy
end Go.Proofs.Ytogomcfgfnlclaa
namespace Go.Proofs.Ytogomcfgfnlclaa
namespace Sy
open Go Go.RowKit
set_option maxRecDepth 100000
set_option linter.unusedSimpArgs false
section
variable {P : Program} {Q : AV -> Prop}
theorem yff {b : Bool} {k : zcb} : Sat P Q (.need b k) ↔ b = true /\ Sat P Q k := ⟨fun h => by cases h with | need h hk => exact ⟨h, hk⟩, fun h => .need h.1 h.2⟩
theorem yfg {p : Prop} {k : zcb} : Sat P Q (.must p k) ↔ p /\ Sat P Q k := ⟨fun h => by cases h with | must h hk => exact ⟨h, hk⟩, fun h => .must h.1 h.2⟩
theorem yk9 {b : Bool} {t e : zcb} : Sat P Q (.ite b t e) ↔ (b = true -> Sat P Q t) /\ (b = false -> Sat P Q e) := ⟨fun h => by cases h with | ite h hk => exact ⟨h, hk⟩, fun h => .ite h.1 h.2⟩
theorem yfi {r : AV} : Sat P Q (.done r) ↔ Q r := ⟨fun h => by cases h with | done h => exact h, fun h => .done h⟩
theorem yk7 : Sat P Q .yes ↔ True := ⟨fun _ => trivial, fun _ => .yes⟩
theorem yoe {X : Type} {f : X -> zcb} : Sat P Q (.ex X f) ↔ ∃ x, Sat P Q (f x) := ⟨fun h => by cases h with | ex x h => exact ⟨x, h⟩, fun ⟨x, h⟩ => .ex x h⟩
theorem ykb {X : Type} {f : X -> zcb} : Sat P Q (.all X f) ↔ ∀ x, Sat P Q (f x) := ⟨fun h => by cases h with | all h => exact h, fun h => .all h⟩
theorem yk8 {p : Prop} {k : zcb} : Sat P Q (.sup p k) ↔ (p -> Sat P Q k) := ⟨fun h => by cases h with | sup h => exact h, fun h => .sup h⟩
theorem yka {a b : zcb} : Sat P Q (.and a b) ↔ Sat P Q a /\ Sat P Q b := ⟨fun h => by cases h with | and h hk => exact ⟨h, hk⟩, fun h => .and h.1 h.2⟩
theorem yfh {n : Nat} : Sat P Q (.fail n) ↔ False := ⟨fun h => (by cases h), fun h => h.elim⟩
set_option linter.defProp false in
def syT := And.intro @yff (And.intro @yfg (And.intro @yk9 (And.intro @yfi (And.intro @yk7 (And.intro @yoe (And.intro @ykb (And.intro @yk8 (And.intro @yka (@yfh)))))))))
end
theorem zaj {P : Program} {T : TT} {S : za9 -> zn1} {lo lb : za9 -> Nat -> St -> Option Ann} (n : Nat) {f : FuncId} {fn : Func} {c : Code} {xs : List AV} {r : AV} (hf : P.funcs[f]? = some fn) (hb : fn.body = some c) (hn : (fn.name == "runtime.NumGoroutine") = false)
   (hc : zc5 fn.ntmps c = true) (hx : (zbh xs.length fn.ntmps && zbh fn.ntmps 500000) = true) (hT : zbd P T) (hS : zdn P (S std)) (hm : P.follows .mixedOrders = true)
   (h : ∀ (L : za9) (P' : Program) (Q' : AV -> Prop), @L = @std -> P' = P -> Q' = zi5 r -> Sat P' Q' (runF T L (S L) (lo L) (lb L) n fn xs)) : zbk P f xs r :=
 ye5 (lo := lo std) (lb := lb std) hf hb hn hc hx hT hS hm (h std _ _ rfl rfl rfl)
theorem ye6 {P : Program} {T : TT} {S : za9 -> zn1} {lo lb : za9 -> Nat -> St -> Option Ann} (n : Nat) {f : FuncId} {fn : Func} {c : Code} {xs : za9 -> List AV} {r : AV} (O : List (Nat × Ob)) (hO : zmx O = true) (hf : P.funcs[f]? = some fn) (hb : fn.body = some c) (hn : (fn.name == "runtime.NumGoroutine") = false)
   (hc : zc5 fn.ntmps c = true) (hx : (zbh (xs std).length fn.ntmps && zbh fn.ntmps 500000) = true) (hT : zbd P T) (hS : zdn P (S std)) (hm : P.follows .mixedOrders = true)
   (h : ∀ (L : za9) (P' : Program) (Q' : AV -> Prop), @L = @std -> P' = P -> Q' = zi5 r -> Sat P' Q' (yfk T L (S L) (lo L) (lb L) n fn (xs L) O)) : zbk P f (xs std) r :=
 zn0 (lo := lo std) (lb := lb std) hO hf hb hn hc hx hT hS hm (h std _ _ rfl rfl rfl)
theorem zad {P : Program} {T : TT} {S : za9 -> zn1} {lo lb : za9 -> Nat -> St -> Option Ann} (n : Nat) {f : FuncId} {fn : Func} {c : Code} {xs rts : za9 -> List AV} {O O1 : za9 -> List (Nat × Ob)} (hf : P.funcs[f]? = some fn) (hb : fn.body = some c) (hn : (fn.name == "runtime.NumGoroutine") = false)
   (hc : zc5 fn.ntmps c = true) (hx : (zbh (xs std).length fn.ntmps && zbh fn.ntmps 500000 && zbh fn.results.size 500000 && zj5 (O1 std) (O std)) = true) (hT : zbd P T) (hS : zdn P (S std)) (hm : P.follows .mixedOrders = true)
   (h : ∀ (L : za9) (P' : Program) (Q' : AV -> Prop), @L = @std -> P' = P -> Q' = (fun _ => True) -> Sat P' Q' (yrt T L (S L) (lo L) (lb L) n fn (xs L) (O L) (rts L) (O1 L))) : zat P f (xs std) (O std) (yaa (rts std)) (O1 std) :=
 ybt (lo := lo std) (lb := lb std) hf hb hn hc hx hT hS hm (h std _ _ rfl rfl rfl)
def noS : za9 -> zn1 := fun _ => ⟨fun _ _ => none, fun _ => none⟩
theorem zix (P : Program) : zdn P (noS std) := ⟨fun f xs p r h => by (cases h), fun f m h => by cases h⟩
def noA : za9 -> Nat -> St -> Option Ann := fun _ _ _ => none
def tt : TT :=
 (.node (.node (.node (.node (.node (.node (.node (.node .leaf 1 ⟨1, false, [.nilf], .func, false, none, false, false⟩
        .leaf) 2 ⟨1, false, [.int .i64 0], .int .i64, false, none, false, false⟩
       .leaf) 3 ⟨1, false, [.int .i64 0], .int .i64, false, none, false, false⟩
      (.node .leaf 4 ⟨1, false, [.bool false], .bool, false, none, false, false⟩
       .leaf)) 5 ⟨1, false, [.int .u8 0], .int .u8, false, none, false, false⟩
     (.node (.node (.node .leaf 6 ⟨1, false, [.int .u8 0], .int .u8, false, none, false, false⟩
        .leaf) 7 ⟨4, true, [.int .i64 0, .int .i64 0, .bool false, .int .u8 0], .struct [(0, 2), (1, 3), (2, 4), (3, 6)], true, none, false, false⟩
       .leaf) 8 ⟨4, true, [.int .i64 0, .int .i64 0, .bool false, .int .u8 0], .struct [(0, 2), (1, 3), (2, 4), (3, 6)], true, none, false, false⟩
      (.node .leaf 9 ⟨1, false, [.str []], .str, false, none, false, false⟩
       .leaf))) 10 ⟨1, false, [.str []], .str, false, none, false, false⟩
    (.node (.node (.node (.node .leaf 11 ⟨1, false, [.str []], .str, false, none, false, false⟩
        .leaf) 12 ⟨1, false, [.int .u64 0], .int .u64, false, none, false, false⟩
       .leaf) 13 ⟨2, true, [.str [], .int .u64 0], .struct [(0, 9), (1, 12)], false, none, false, false⟩
      (.node .leaf 14 ⟨2, true, [.str [], .int .u64 0], .struct [(0, 9), (1, 12)], false, none, false, false⟩
       .leaf)) 15 ⟨1, false, [.nilp], .ptr, false, some 156, false, false⟩
     (.node (.node (.node .leaf 16 ⟨1, false, [.nilp], .ptr, false, some 159, false, false⟩
        .leaf) 17 ⟨1, false, [.nilp], .ptr, false, some 166, false, false⟩
       .leaf) 18 ⟨1, true, [.nilp], .struct [(0, 17)], false, none, false, false⟩
      (.node .leaf 19 ⟨1, true, [.nilp], .struct [(0, 17)], false, none, false, false⟩
       .leaf)))) 20 ⟨1, false, [.nili], .iface, false, none, false, false⟩
   (.node (.node (.node (.node (.node .leaf 21 ⟨1, false, [.int .i32 0], .int .i32, false, none, false, false⟩
        .leaf) 22 ⟨1, false, [.nils], .slice 32 7 96, false, none, false, false⟩
       .leaf) 23 ⟨1, false, [.nils], .slice 4 1 1, false, none, false, false⟩
      (.node .leaf 24 ⟨1, false, [.nils], .slice 83 1 8, false, none, false, false⟩
       .leaf)) 25 ⟨1, false, [.nilf], .func, false, none, false, false⟩
     (.node (.node (.node .leaf 26 ⟨1, false, [.nilp], .ptr, false, some 63, false, false⟩
        .leaf) 27 ⟨1, false, [.int .i64 0], .int .i64, false, none, false, false⟩
       .leaf) 29 ⟨1, false, [.nilf], .func, false, none, false, false⟩
      (.node .leaf 30 ⟨1, false, [.int .u16 0], .int .u16, false, none, false, false⟩
       .leaf))) 31 ⟨7, true, [.int .u8 0, .str [], .str [], .int .u16 0, .int .u8 0, .nils, .nils], .struct [(0, 5), (1, 9), (2, 9), (3, 30), (4, 5), (5, 23), (6, 24)], false, none, false, false⟩
    (.node (.node (.node (.node .leaf 32 ⟨7, true, [.int .u8 0, .str [], .str [], .int .u16 0, .int .u8 0, .nils, .nils], .struct [(0, 5), (1, 9), (2, 9), (3, 30), (4, 5), (5, 23), (6, 24)], false, none, false, false⟩
        .leaf) 33 ⟨1, false, [.nilf], .func, false, none, false, false⟩
       .leaf) 34 ⟨1, false, [.nilf], .func, false, none, false, false⟩
      (.node .leaf 35 ⟨1, false, [.nilf], .func, false, none, false, false⟩
       .leaf)) 36 ⟨1, false, [.nils], .slice 9 1 16, false, none, false, false⟩
     (.node (.node .leaf 37 ⟨1, false, [.nilf], .func, false, none, false, false⟩
       .leaf) 38 ⟨1, false, [.nilf], .func, false, none, false, false⟩
      (.node .leaf 40 ⟨1, false, [.nilf], .func, false, none, false, false⟩
       .leaf))))) 41 ⟨1, false, [.nilf], .func, false, none, false, false⟩
  (.node (.node (.node (.node (.node (.node .leaf 42 ⟨1, false, [.nilf], .func, false, none, false, false⟩
        .leaf) 43 ⟨1, false, [.nilf], .func, false, none, false, false⟩
       .leaf) 44 ⟨1, false, [.nilf], .func, false, none, false, false⟩
      (.node .leaf 45 ⟨1, false, [.nilf], .func, false, none, false, false⟩
       .leaf)) 46 ⟨1, false, [.nilf], .func, false, none, false, false⟩
     (.node (.node (.node .leaf 47 ⟨1, false, [.nils], .slice 52 6 40, false, none, false, false⟩
        .leaf) 48 ⟨3, true, [.str [], .str [], .str []], .arr 3 9 1, true, none, false, false⟩
       .leaf) 49 ⟨3, true, [.bool false, .bool false, .bool false], .arr 3 4 1, true, none, false, false⟩
      (.node .leaf 50 ⟨1, false, [.int .i8 0], .int .i8, false, none, false, false⟩
       .leaf))) 51 ⟨6, true, [.str [], .str [], .int .u16 0, .int .u8 0, .bool false, .int .i8 0], .struct [(0, 9), (1, 9), (2, 30), (3, 5), (4, 4), (5, 50)], true, none, false, false⟩
    (.node (.node (.node (.node .leaf 52 ⟨6, true, [.str [], .str [], .int .u16 0, .int .u8 0, .bool false, .int .i8 0], .struct [(0, 9), (1, 9), (2, 30), (3, 5), (4, 4), (5, 50)], true, none, false, false⟩
        .leaf) 53 ⟨1, false, [.nilf], .func, false, none, false, false⟩
       .leaf) 54 ⟨1, false, [.nilf], .func, false, none, false, false⟩
      (.node .leaf 55 ⟨1, false, [.nilf], .func, false, none, false, false⟩
       .leaf)) 56 ⟨1, false, [.nils], .slice 23 1 24, false, none, false, false⟩
     (.node (.node .leaf 57 ⟨1, false, [.nils], .slice 24 1 24, false, none, false, false⟩
       .leaf) 58 ⟨1, false, [.nilf], .func, false, none, false, false⟩
      (.node .leaf 59 ⟨1, false, [.nilf], .func, false, none, false, false⟩
       .leaf)))) 60 ⟨1, false, [.nilm], .map 9 64, false, none, false, false⟩
   (.node (.node (.node (.node (.node .leaf 61 ⟨1, false, [.nils], .slice 71 4 48, false, none, false, false⟩
        .leaf) 62 ⟨7, true, [.int .i64 0, .nilm, .nilm, .nils, .int .i64 0, .int .i64 0, .bool false], .struct [(0, 3), (1, 60), (2, 60), (3, 61), (4, 3), (5, 3), (6, 4)], false, none, false, false⟩
       .leaf) 63 ⟨7, true, [.int .i64 0, .nilm, .nilm, .nils, .int .i64 0, .int .i64 0, .bool false], .struct [(0, 3), (1, 60), (2, 60), (3, 61), (4, 3), (5, 3), (6, 4)], false, none, false, false⟩
      (.node .leaf 64 ⟨1, false, [.nilp], .ptr, false, some 68, false, false⟩
       .leaf)) 65 ⟨1, false, [.nilf], .func, false, none, false, false⟩
     (.node (.node (.node .leaf 67 ⟨2, true, [.str [], .str []], .struct [(0, 9), (1, 9)], true, none, false, false⟩
        .leaf) 68 ⟨2, true, [.str [], .str []], .struct [(0, 9), (1, 9)], true, none, false, false⟩
       .leaf) 69 ⟨1, false, [.nilf], .func, false, none, false, false⟩
      (.node .leaf 70 ⟨4, true, [.int .i64 0, .str [], .str [], .nilp], .struct [(0, 3), (1, 9), (2, 9), (3, 64)], false, none, false, false⟩
       .leaf))) 71 ⟨4, true, [.int .i64 0, .str [], .str [], .nilp], .struct [(0, 3), (1, 9), (2, 9), (3, 64)], false, none, false, false⟩
    (.node (.node (.node (.node .leaf 72 ⟨1, false, [.nilf], .func, false, none, false, false⟩
        .leaf) 73 ⟨1, false, [.nils], .slice 5 1 1, false, none, false, false⟩
       .leaf) 74 ⟨1, false, [.nilf], .func, false, none, false, false⟩
      (.node .leaf 75 ⟨1, false, [.nilf], .func, false, none, false, false⟩
       .leaf)) 76 ⟨1, false, [.nilf], .func, false, none, false, false⟩
     (.node (.node .leaf 77 ⟨1, false, [.nilf], .func, false, none, false, false⟩
       .leaf) 79 ⟨1, false, [.nilf], .func, false, none, false, false⟩
      (.node .leaf 80 ⟨1, false, [.nilf], .func, false, none, false, false⟩
       .leaf)))))) 81 ⟨1, false, [.nilf], .func, false, none, false, false⟩
 (.node (.node (.node (.node (.node (.node (.node .leaf 82 ⟨1, false, [.nilm], .map 64 4, false, none, false, false⟩
        .leaf) 83 ⟨1, false, [.int .u64 0], .int .u64, false, none, false, false⟩
       .leaf) 84 ⟨1, false, [.nilf], .func, false, none, false, false⟩
      (.node .leaf 85 ⟨1, false, [.nilf], .func, false, none, false, false⟩
       .leaf)) 86 ⟨1, false, [.nilf], .func, false, none, false, false⟩
     (.node (.node (.node .leaf 87 ⟨1, false, [.int .u64 0], .int .u64, false, none, false, false⟩
        .leaf) 89 ⟨1, false, [.nilf], .func, false, none, false, false⟩
       .leaf) 91 ⟨1, false, [.nilf], .func, false, none, false, false⟩
      (.node .leaf 92 ⟨1, false, [.nilf], .func, false, none, false, false⟩
       .leaf))) 93 ⟨1, false, [.nilp], .ptr, false, some 5, false, false⟩
    (.node (.node (.node (.node .leaf 94 ⟨1, false, [.nilf], .func, false, none, false, false⟩
        .leaf) 95 ⟨1, false, [.nilf], .func, false, none, false, false⟩
       .leaf) 96 ⟨1, false, [.nilf], .func, false, none, false, false⟩
      (.node .leaf 97 ⟨32, true, [.int .u8 0, .int .u8 0, .int .u8 0, .int .u8 0, .int .u8 0, .int .u8 0, .int .u8 0, .int .u8 0, .int .u8 0, .int .u8 0, .int .u8 0, .int .u8 0, .int .u8 0, .int .u8 0, .int .u8 0, .int .u8 0, .int .u8 0, .int .u8 0, .int .u8 0, .int .u8 0, .int .u8 0, .int .u8 0, .int .u8 0, .int .u8 0, .int .u8 0, .int .u8 0, .int .u8 0, .int .u8 0, .int .u8 0, .int .u8 0, .int .u8 0, .int .u8 0], .arr 32 5 1, true, none, false, false⟩
       .leaf)) 98 ⟨32, true, [.int .u8 0, .int .u8 0, .int .u8 0, .int .u8 0, .int .u8 0, .int .u8 0, .int .u8 0, .int .u8 0, .int .u8 0, .int .u8 0, .int .u8 0, .int .u8 0, .int .u8 0, .int .u8 0, .int .u8 0, .int .u8 0, .int .u8 0, .int .u8 0, .int .u8 0, .int .u8 0, .int .u8 0, .int .u8 0, .int .u8 0, .int .u8 0, .int .u8 0, .int .u8 0, .int .u8 0, .int .u8 0, .int .u8 0, .int .u8 0, .int .u8 0, .int .u8 0], .arr 32 5 1, true, none, false, false⟩
     (.node (.node .leaf 99 ⟨1, false, [.nilf], .func, false, none, false, false⟩
       .leaf) 100 ⟨1, false, [.nilf], .func, false, none, false, false⟩
      (.node .leaf 101 ⟨1, false, [.nilf], .func, false, none, false, false⟩
       .leaf)))) 102 ⟨1, false, [.nilf], .func, false, none, false, false⟩
   (.node (.node (.node (.node (.node .leaf 103 ⟨1, false, [.int .i64 0], .int .i64, false, none, false, false⟩
        .leaf) 105 ⟨1, false, [.nilf], .func, false, none, false, false⟩
       .leaf) 106 ⟨1, false, [.nilf], .func, false, none, false, false⟩
      (.node .leaf 107 ⟨1, false, [.nilf], .func, false, none, false, false⟩
       .leaf)) 109 ⟨1, false, [.nilf], .func, false, none, false, false⟩
     (.node (.node (.node .leaf 110 ⟨1, false, [.nilf], .func, false, none, false, false⟩
        .leaf) 111 ⟨1, false, [.int .u32 0], .int .u32, false, none, false, false⟩
       .leaf) 112 ⟨1, false, [.nilf], .func, false, none, false, false⟩
      (.node .leaf 113 ⟨1, false, [.nilf], .func, false, none, false, false⟩
       .leaf))) 114 ⟨8, true, [.int .u32 0, .int .u32 0, .int .u32 0, .int .u32 0, .int .u32 0, .int .u32 0, .int .u32 0, .int .u32 0], .arr 8 111 1, true, none, false, false⟩
    (.node (.node (.node (.node .leaf 115 ⟨1, false, [.nilf], .func, false, none, false, false⟩
        .leaf) 116 ⟨64, true, [.int .u32 0, .int .u32 0, .int .u32 0, .int .u32 0, .int .u32 0, .int .u32 0, .int .u32 0, .int .u32 0, .int .u32 0, .int .u32 0, .int .u32 0, .int .u32 0, .int .u32 0, .int .u32 0, .int .u32 0, .int .u32 0, .int .u32 0, .int .u32 0, .int .u32 0, .int .u32 0, .int .u32 0, .int .u32 0, .int .u32 0, .int .u32 0, .int .u32 0, .int .u32 0, .int .u32 0, .int .u32 0, .int .u32 0, .int .u32 0, .int .u32 0, .int .u32 0, .int .u32 0, .int .u32 0, .int .u32 0, .int .u32 0, .int .u32 0, .int .u32 0, .int .u32 0, .int .u32 0, .int .u32 0, .int .u32 0, .int .u32 0, .int .u32 0, .int .u32 0, .int .u32 0, .int .u32 0, .int .u32 0, .int .u32 0, .int .u32 0, .int .u32 0, .int .u32 0, .int .u32 0, .int .u32 0, .int .u32 0, .int .u32 0, .int .u32 0, .int .u32 0, .int .u32 0, .int .u32 0, .int .u32 0, .int .u32 0, .int .u32 0, .int .u32 0], .arr 64 111 1, true, none, false, false⟩
       .leaf) 117 ⟨1, false, [.nilf], .func, false, none, false, false⟩
      (.node .leaf 118 ⟨1, false, [.nilf], .func, false, none, false, false⟩
       .leaf)) 119 ⟨1, false, [.nilp], .ptr, false, some 116, false, false⟩
     (.node (.node .leaf 120 ⟨1, false, [.int .u64 0], .int .u64, false, none, false, false⟩
       .leaf) 121 ⟨1, false, [.nilf], .func, false, none, false, false⟩
      (.node .leaf 122 ⟨1, false, [.nilf], .func, false, none, false, false⟩
       .leaf))))) 123 ⟨1, false, [.nilf], .func, false, none, false, false⟩
  (.node (.node (.node (.node (.node (.node .leaf 124 ⟨1, false, [.nilp], .ptr, false, some 3, false, false⟩
        .leaf) 125 ⟨1, false, [.nilf], .func, false, none, false, false⟩
       .leaf) 126 ⟨1, false, [.nilf], .func, false, none, false, false⟩
      (.node .leaf 127 ⟨1, false, [.nilp], .ptr, false, some 129, false, false⟩
       .leaf)) 128 ⟨2, true, [.nilp, .nils], .struct [(0, 127), (1, 73)], false, none, false, false⟩
     (.node (.node (.node .leaf 129 ⟨2, true, [.nilp, .nils], .struct [(0, 127), (1, 73)], false, none, false, true⟩
        .leaf) 130 ⟨1, false, [.nili], .iface, false, none, false, false⟩
       .leaf) 131 ⟨1, false, [.nili], .iface, false, none, false, false⟩
      (.node .leaf 133 ⟨1, false, [.nilf], .func, false, none, false, false⟩
       .leaf))) 134 ⟨8, true, [.int .u64 0, .int .u64 0, .int .u64 0, .int .u64 0, .int .u64 0, .int .u64 0, .int .u64 0, .int .u64 0], .arr 8 83 1, true, none, false, false⟩
    (.node (.node (.node (.node .leaf 135 ⟨1, false, [.nilf], .func, false, none, false, false⟩
        .leaf) 136 ⟨1, false, [.nilf], .func, false, none, false, false⟩
       .leaf) 138 ⟨1, false, [.nilf], .func, false, none, false, false⟩
      (.node .leaf 139 ⟨1, false, [.nilf], .func, false, none, false, false⟩
       .leaf)) 140 ⟨1, false, [.nils], .slice 111 1 4, false, none, false, false⟩
     (.node (.node .leaf 141 ⟨1, false, [.nilp], .ptr, false, some 120, false, false⟩
       .leaf) 143 ⟨1, false, [.nilf], .func, false, none, false, false⟩
      (.node .leaf 145 ⟨1, false, [.nilf], .func, false, none, false, false⟩
       .leaf)))) 146 ⟨1, false, [.nilf], .func, false, none, false, false⟩
   (.node (.node (.node (.node (.node .leaf 147 ⟨1, false, [.nilf], .func, false, none, false, false⟩
        .leaf) 149 ⟨1, false, [.nilf], .func, false, none, false, false⟩
       .leaf) 151 ⟨1, false, [.nilf], .func, false, none, false, false⟩
      (.node .leaf 152 ⟨1, false, [.nilp], .other, false, none, true, false⟩
       .leaf)) 153 ⟨1, false, [.nilf], .func, false, none, false, false⟩
     (.node (.node (.node .leaf 154 ⟨1, false, [.nilf], .func, false, none, false, false⟩
        .leaf) 155 ⟨4, true, [.nilp, .nilp, .nilp, .str []], .struct [(0, 17), (1, 17), (2, 17), (3, 9)], false, none, false, false⟩
       .leaf) 156 ⟨4, true, [.nilp, .nilp, .nilp, .str []], .struct [(0, 17), (1, 17), (2, 17), (3, 9)], false, none, false, false⟩
      (.node .leaf 157 ⟨0, true, [], .arr 0 16 1, false, none, false, false⟩
       .leaf))) 158 ⟨0, true, [], .struct [(0, 157)], false, none, false, false⟩
    (.node (.node (.node (.node .leaf 159 ⟨0, true, [], .struct [(0, 157)], false, none, false, false⟩
        .leaf) 160 ⟨1, false, [.int .u8 0], .int .u8, false, none, false, false⟩
       .leaf) 161 ⟨1, false, [.int .u8 0], .int .u8, false, none, false, false⟩
      (.node .leaf 162 ⟨1, false, [.nilf], .func, false, none, false, false⟩
       .leaf)) 163 ⟨1, false, [.int .i32 0], .int .i32, false, none, false, false⟩
     (.node (.node .leaf 164 ⟨1, false, [.int .i32 0], .int .i32, false, none, false, false⟩
       .leaf) 165 ⟨11, true, [.int .u64 0, .int .u64 0, .int .u32 0, .int .u8 0, .int .u8 0, .int .u8 0, .int .u8 0, .nilf, .nilp, .int .i32 0, .int .i32 0], .struct [(0, 12), (1, 12), (2, 111), (3, 160), (4, 5), (5, 5), (6, 161), (7, 162), (8, 93), (9, 163), (10, 164)], false, none, false, false⟩
      (.node .leaf 166 ⟨11, true, [.int .u64 0, .int .u64 0, .int .u32 0, .int .u8 0, .int .u8 0, .int .u8 0, .int .u8 0, .nilf, .nilp, .int .i32 0, .int .i32 0], .struct [(0, 12), (1, 12), (2, 111), (3, 160), (4, 5), (5, 5), (6, 161), (7, 162), (8, 93), (9, 163), (10, 164)], false, none, false, false⟩
       .leaf)))))))
theorem zap : zbd Try.prog tt := yjf (by kernel_rfl)
end Sy
end Go.Proofs.Ytogomcfgfnlclaa
