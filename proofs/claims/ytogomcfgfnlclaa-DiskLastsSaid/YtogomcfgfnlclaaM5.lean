/-Small facts on worlds, strings as lists of bytes, rows of bytes: used by every walk of this seat; no statement of the seat is proved here; and what stands between these and the texts behind.-/
import Derived.Test.YtogomcfgfnlclaaRows
import Derived.WalkKit
import Derived.WalkSpells
import Derived.WalkLawsBesides
import Derived.Deep.DeepCutAuto
import Derived.Deep.OwnRows
import Derived.Laws.IdiomStrings
import Derived.Lib.Hide
import Derived.Below
import Derived.ChangeSame
import Derived.ScopeJumps
import Derived.ProofKit
import Derived.OpenShut
import Derived.Carry
import Derived.Lib.SmallJoins
import Derived.RegionTactic
import Derived.BigRegion
import Derived.Test.YtogomcfgfnlclaaM4
import Derived.Tactics
import Derived.Tactics2
import Derived.StillTactics
import Derived.Laws.Cells
import Derived.Laws.Pointers
import Derived.Laws.Sem
import Derived.Laws.Small
import Derived.LoopTactic
import Derived.LoopN
import Derived.Laws.IdiomRangeMap
import Derived.Maps.RangeRun
import Derived.Shelf.SlIter.Nil
import Derived.Shelf.SortM.Plain
import Derived.Shelf.SortM.SortNone
import Derived.Shelf.SlMaps.Clone
import Derived.Ground.GgzProg
import Derived.Ground.SlgmProg
import Derived.Ground.SlmcProg
import Derived.Test.YtogomcfgfnlclaaProg
import Derived.Test.YtogomcfgfnlclaaShelf
import Derived.ChangeArms
import Derived.ChangeSlices
import Derived.WideShapes
import Derived.Lib.Builder
namespace Go.Proofs.Ytogomcfgfnlclaa
open Go.RowKit Go.WideShapes Go.ChangeShapes Go.ChangeAt
def yid (b : UInt8) : Value := .int .u8 (b.toNat : Int)
def str (l : List UInt8) : Value := .string ⟨l.toArray⟩
@[go_sem] theorem ba_get (l : List UInt8) (k : Nat) (h : k < (⟨l.toArray⟩ : ByteArray).size) : (⟨l.toArray⟩ : ByteArray)[k] = l[k]'h := rfl
@[go_sem] theorem ba_append (a b : List UInt8) : (⟨a.toArray⟩ : ByteArray) ++ ⟨b.toArray⟩ = ⟨(a ++ b).toArray⟩ := by
 apply ByteArray.ext; simp
theorem zh8 (l : List UInt8) (a b : Nat) : (⟨l.toArray⟩ : ByteArray).extract a b = ⟨((l.drop a).take (b - a)).toArray⟩ := by
 apply ByteArray.ext; simp [ByteArray.data_extract]
@[go_sem] theorem ba_extract_all (l : List UInt8) (a : Nat) : (⟨l.toArray⟩ : ByteArray).extract a l.length = ⟨(l.drop a).toArray⟩ := by
 rw [zh8, List.take_of_length_le (by simp)]
@[go_sem] theorem ba_extract_zero (l : List UInt8) (b : Nat) : (⟨l.toArray⟩ : ByteArray).extract 0 b = ⟨(l.take b).toArray⟩ := by
 rw [zh8, List.drop_zero, Nat.sub_zero]
@[go_sem] theorem wrap_byte_u64 (b : UInt8) : IntKind.u64.wrap (b.toNat : Int) = b.toNat := by
 have := b.toNat_lt; rw [IntKind.wrap_u64]; omega
@[go_sem] theorem wrap_byte_u32 (b : UInt8) : IntKind.u32.wrap (b.toNat : Int) = b.toNat := by
 have := b.toNat_lt; rw [IntKind.wrap_u32]; omega
@[go_sem] theorem wrap_byte_u16 (b : UInt8) : IntKind.u16.wrap (b.toNat : Int) = b.toNat := by
 have := b.toNat_lt; rw [IntKind.wrap_u16]; omega
@[go_sem] theorem wrap_byte_u8 (b : UInt8) : IntKind.u8.wrap (b.toNat : Int) = b.toNat := by
 have := b.toNat_lt; rw [IntKind.wrap_u8]; omega
@[go_sem] theorem wrap_byte_i64 (b : UInt8) : IntKind.i64.wrap (b.toNat : Int) = b.toNat := by
 have := b.toNat_lt; rw [IntKind.wrap_i64]; omega
def Row (w : World) (b : Nat) (t : TypeId) (n : Nat) (f : Nat -> Value) : Prop :=
 ∃ (c : Array Value) (lo hi : Nat), w.heap[b]? = some (.cells c t (lo, hi)) /\ n <= c.size /\ (hi = 0 \/ n <= lo) /\ ∀ i, i < n -> c[i]? = some (f i)
section
variable {w w' : World} {b : Nat} {t : TypeId} {n : Nat} {f g : Nat -> Value}
theorem Row.cell (h : Row w b t n f) {i : Nat} (hi : i < n) : w.cell? ⟨b, i, none⟩ = some (f i) := by
 obtain ⟨c, lo, hi', hb, _, _, hc⟩ := h
 simp [World.cell?, hb, hc i hi]
theorem Row.frozen (h : Row w b t n f) {i : Nat} (hi : i < n) : w.frozen? ⟨b, i, none⟩ = false := by
 obtain ⟨c, lo, hi', hb, _, hf, _⟩ := h
 simp only [World.frozen?, hb]
 rcases hf with hf | hf
 · subst hf; simp
 · simp; omega
theorem Row.lt (h : Row w b t n f) : b < w.heap.size := by
 obtain ⟨c, lo, hi, hb, _⟩ := h
 exact (Array.getElem?_eq_some_iff.1 hb).1
theorem Row.congr (h : Row w b t n f) (e : ∀ i, i < n -> f i = g i) : Row w b t n g := by
 obtain ⟨c, lo, hi, hb, hn, hf, hc⟩ := h
 exact ⟨c, lo, hi, hb, hn, hf, fun i hi => by rw [hc i hi, e i hi]⟩
theorem Row.of_block (h : Row w b t n f) (e : w'.heap[b]? = w.heap[b]?) : Row w' b t n f := by
 obtain ⟨c, lo, hi, hb, hn, hf, hc⟩ := h
 exact ⟨c, lo, hi, e.trans hb, hn, hf, hc⟩
theorem Row.set (h : Row w b t n f) (i : Nat) (v : Value) : Row (w.setCell ⟨b, i, none⟩ v) b t n (fun j => if j = i then v else f j) := by
 obtain ⟨c, lo, hi', hb, hn, hf, hc⟩ := h
 refine ⟨c.setIfInBounds i v, lo, hi', ?_, by simpa using hn, hf, fun j hj => ?_⟩
 · simp [World.setCell, Array.getElem?_modify, hb]
 · rw [Array.getElem?_setIfInBounds]
   by_cases e : i = j
   · subst e
     have : i < c.size := by omega
     simp [this]
   · rw [if_neg e, hc j hj]
     show _ = some (if j = i then v else f j)
     rw [if_neg (fun (h : j = i) => e h.symm)]
theorem Row.alloc (h : Row w b t n f) (o : Obj) : Row (w.alloc o) b t n f := h.of_block (Below.heap_alloc _ _ _ h.lt)
theorem Row.bytes (w : World) (t : TypeId) (l : List UInt8) (cap : Nat) : Row (w.alloc (.cells (bytesRow ⟨l.toArray⟩ cap) t ((bytesRow ⟨l.toArray⟩ cap).size, (bytesRow ⟨l.toArray⟩ cap).size + 1))) w.heap.size t l.length (fun j => yid (l.getD j 0)) := by
 refine ⟨bytesRow ⟨l.toArray⟩ cap, _, _, heap_alloc_new _ _, by simp [bytesRow], .inr (by simp [bytesRow]), fun i hi => ?_⟩
 rw [bytesRow_at _ _ _ (by simpa using hi)]
 simp [yid, hi]
end
def Blk (w : World) (g : Nat) (t : TypeId) (cs : Array Value) : Prop := w.heap[g]? = some (.cells cs t (0, 0))
section
variable {w w' : World} {g : Nat} {t : TypeId} {cs : Array Value}
theorem Blk.lt (h : Blk w g t cs) : g < w.heap.size := by
 rcases Nat.lt_or_ge g w.heap.size with hlt | hge
 · exact hlt
 · unfold Blk at h; rw [Array.getElem?_eq_none hge] at h; cases h
theorem Blk.cell (h : Blk w g t cs) (i : Nat) : w.cell? ⟨g, i, none⟩ = cs[i]? := cell_of_row w g i cs t (0, 0) h
theorem Blk.frozen (h : Blk w g t cs) (i : Nat) : w.frozen? ⟨g, i, none⟩ = false := by
 unfold Blk at h
 simp [World.frozen?, h]
theorem Blk.new (w : World) (t : TypeId) (cs : Array Value) : Blk (w.alloc (.cells cs t)) w.heap.size t cs := heap_alloc_new w _
theorem Blk.drew (h : Blk w g t cs) : Blk w.drew g t cs := h
theorem Blk.alloc (h : Blk w g t cs) (o : Obj) : Blk (w.alloc o) g t cs := (Below.heap_alloc w o g h.lt).trans h
end
section
variable {l : Nat} {J : Act -> World -> Prop} {Q : Exit -> Act -> World -> Prop} {a : Act} {w : World}
@[go_sem] theorem jump_normal : Exit.jump l J Q .normal a w = Q .normal a w := rfl
@[go_sem] theorem jump_exit (id : Nat) : Exit.jump l J Q (.exit id) a w = Q (.exit id) a w := rfl
@[go_sem] theorem jump_ret : Exit.jump l J Q .ret a w = Q .ret a w := rfl
@[go_sem] theorem jump_panic (ch : List PanicEntry) : Exit.jump l J Q (.panic ch) a w = Q (.panic ch) a w := rfl
end
section
variable {H : Type} {enc : TypeId × Value -> H} {P : Program}
theorem zli {f : Func} {s : ChangeSpec} {apart fresh handsOn again : Bool} {W W' : World} {args : Array Value} {v : Value} {ds gs : List (DataW H)} {before pa pv : List MemPlace}
   (hW : DataW.Whole enc P f.params.toList s.vars apart W args.toList ds gs before)
   (hres : ∀ (b : Nat) (sp : Nat -> Bool) (hd : Bool), DataW.TrodAll enc P W' b sp hd f.resultTypes.toList (v.resultList f.resultTypes.size) (s.fn H (ds ++ gs)).results [])
   (hargs : ∀ sp : Nat -> Bool, (∀ p ∈ before, sp p.block = true) -> DataW.TrodAll enc P W' 0 sp true f.params.toList args.toList (s.fn H (ds ++ gs)).args pa)
   (hvars : ∀ sp : Nat -> Bool, (∀ p ∈ before, sp p.block = true) -> DataW.TrodVars enc P W' sp s.vars (s.fn H (ds ++ gs)).vars pv)
   (hps : before = pa ++ pv) (hb : Below W.heap.size W W')
   (hok : ∀ (j : Nat) (t : TypeId) (r : Value), f.resultTypes[j]? = some t -> (v.resultList f.resultTypes.size)[j]? = some r -> Value.okWide P W' .any 0 t r) :
   s.post enc P f apart fresh handsOn again W args v W' := by
 have hlt : ∀ p ∈ before, p.block < W.heap.size := fun p hp => hW.lt p hp
 have hold : ∀ p ∈ before, (fun b => decide (b < W.heap.size)) p.block = true := fun p hp => by simpa using hlt p hp
 refine ⟨ds, gs, before, [], pa, pv, hW, hres _ _ _, hargs _ hold, hvars _ hold, World.keptBut_mono (fun p hp => ⟨hp, ?_⟩) (hb.frame (· ∈ before)), fun _ => ?_⟩
 · rw [hps, List.mem_append] at hp
   exact Or.inr hp
 · obtain ⟨_, _, _, _, _, hz, hn⟩ := hW
   refine ⟨hok, _, _, ([] ++ pa) ++ pv, ⟨[] ++ pa, pv, trodAll_append (hargs _ (fun _ _ => rfl)) (hres _ _ _), hvars _ (fun _ _ => rfl), rfl, ?_, ?_⟩, ?_⟩
   · intro b off hp
     have hin : MemPlace.cell b off ∈ before := by rw [hps]; simpa using hp
     rw [hb.frozen (hlt _ hin)]
     exact hz b off hin
   · intro ha
     have := hn ha
     rw [hps] at this
     simpa using this
   · intro p hp _
     rw [hps]
     simpa using hp
theorem zga (hl : laidOutB P = true) {W W' : World} (hb : Below W.heap.size W W') {sp : Nat -> Bool} :
   ∀ {ts : List TypeId} {vs : List Value} {ds : List (DataW H)} {ps : List MemPlace}, (∀ t ∈ ts, P.readableRec t = true /\ t < P.types.size) ->
   DataW.TrodAll enc P W 0 (fun _ => true) true ts vs ds ps -> (∀ x ∈ ps, x.block < W.heap.size) -> (∀ x ∈ ps, sp x.block = true) -> DataW.TrodAll enc P W' 0 sp true ts vs ds ps
 | [], [], [], _, _, h, _, _ => h
 | _ :: _, _ :: _, _ :: _, _, hr, ⟨p, q, h1, h2, e⟩, hlt, hs =>
   ⟨p, q, WideElems.Trod_stays hl (hr _ (List.mem_cons.2 (Or.inl rfl))).1 (hr _ (List.mem_cons.2 (Or.inl rfl))).2 h1
       (fun x hx => hb.same (hlt x (by rw [e]; exact List.mem_append_left _ hx))) (fun x hx => hs x (by rw [e]; exact List.mem_append_left _ hx)),
     zga hl hb (fun t ht => hr t (List.mem_cons.2 (Or.inr ht))) h2 (fun x hx => hlt x (by rw [e]; exact List.mem_append_right _ hx)) (fun x hx => hs x (by rw [e]; exact List.mem_append_right _ hx)), e⟩
theorem post_law {f : Func} {s : ChangeSpec} {apart fresh handsOn again : Bool} {W W' : World} {args : Array Value} {ds : List (DataW H)} {before : List MemPlace} {tb : TypeId}
   (hl : laidOutB P = true) (hr : (f.params.toList.all fun t => P.readableRec t && decide (t < P.types.size)) = true) (hbt : f.resultTypes = #[tb]) (hub : P.underlying tb = some .bool) (hsv : s.vars = [])
   (hW : DataW.Whole enc P f.params.toList s.vars apart W args.toList ds [] before)
   (hfn : s.fn H (ds ++ []) = { results := [.lit (.bool true)], args := ds }) (hb : Below W.heap.size W W') :
   s.post enc P f apart fresh handsOn again W args (.bool true) W' := by
 have hlt : ∀ p ∈ before, p.block < W.heap.size := fun p hp => hW.lt p hp
 obtain ⟨p, q, hA, hV, hpq, _, _⟩ := id hW
 rw [hsv] at hV
 have hq : q = [] := hV
 subst hq
 rw [List.append_nil] at hpq
 subst hpq
 refine zli (pa := before) (pv := []) hW ?_ ?_ ?_ (by simp) hb ?_
 · intro _ _ _
   rw [hfn, hbt]
   exact trodAll_mk1 (shut_bool hub true)
 · intro sp hsp
   rw [hfn]
   exact zga hl hb (fun t ht => by simpa using List.all_eq_true.1 hr t ht) hA hlt hsp
 · intro sp _
   rw [hfn, hsv]
   rfl
 · exact ok_one hbt rfl (okWide_bool_mk hub true)
end
end Go.Proofs.Ytogomcfgfnlclaa
namespace Go.Proofs.Ytogomcfgfnlclaa
open Go.RowKit
theorem i5 : (Try.prog.info? 5).map (fun i => (i.zero, i.size, i.bytes)) = some (some (.int .u8 0), 1, 1) := by kernel_rfl
def getL (l : List UInt8) : Nat := l.foldl (fun n b => n * 256 + b.toNat) 0
end Go.Proofs.Ytogomcfgfnlclaa
namespace Go.Proofs.Ytogomcfgfnlclaa
open Go.RowKit
def zu1 (w : World) (g : Nat) (ps : List (List UInt8)) : Prop := ∀ j (h : j < ps.length), w.cell? ⟨g, j, none⟩ = some (.string ⟨ps[j].toArray⟩)
def zu4 (ps : List (List UInt8)) : List UInt8 := ps.flatten
end Go.Proofs.Ytogomcfgfnlclaa
namespace Go.Proofs.Ytogomcfgfnlclaa
namespace Sy
open Go Go.RowKit
set_option maxRecDepth 100000
def getZ (l : List UInt8) : Int := getL l
def upto (n : Nat) (l : List UInt8) : Prop := l.length <= n
end Sy
end Go.Proofs.Ytogomcfgfnlclaa
namespace Go.Proofs.Ytogomcfgfnlclaa
namespace Sy
open Go Go.RowKit
set_option maxRecDepth 100000
set_option linter.unusedSimpArgs false
set_option linter.unusedVariables false
structure Nd where
 now : List UInt8
 sure : List UInt8
structure Tn where
 kd : Int
 fr : List UInt8
 tt2 : List UInt8
 c : Bool
 k : Nat
structure Dk where
 room : Int
 nd : List Nd
 names : List (List UInt8 × Nat)
 sure : List (List UInt8 × Nat)
 pend : List Tn
 steps : Int
 fuse : Int
 down : Bool
def ndC (L : zae) (x : Nd) : Nat -> AV
 | 0 => .str (L Nd.now x)
 | _ => .str (L Nd.sure x)
def tnC (L : zae) (x : Tn) : Nat -> AV
 | 0 => .int .i64 (L Tn.kd x)
 | 1 => .str (L Tn.fr x)
 | 2 => .str (L Tn.tt2 x)
 | _ => .aep (L Tn.c x) 600100 (L Tn.k x) 2 0 0
def ndD : Nd := ⟨[], []⟩
def tnD : Tn := ⟨0, [], [], false, 0⟩
def za4 (l : List Nd) (k : Nat) : Nd := l.getD k ndD
def zcu (l : List Tn) (k : Nat) : Tn := l.getD k tnD
def zg0 (l : List Tn) : Nat := l.length
def zbz (l : List Nd) : Nat := l.length
def ndO (L : zae) (l : List Nd) : Ob := .tab 68 2 (L zbz l) (fun _ => 1) (fun k _ => ndC L (L (L za4 l) k))
def dpX (L : zae) (d n s p : Nat) (x : Dk) : List (Nat × Ob) :=
 [(d, .box 63 [.int .i64 (L Dk.room x), .mp n, .mp s, .sl p 4 0 (L zg0 (L Dk.pend x)), .int .i64 (L Dk.steps x), .int .i64 (L Dk.fuse x), .bool (L Dk.down x)]),
  (n, .mapp 600100 2 (L Dk.names x)), (s, .mapp 600100 2 (L Dk.sure x)),
  (p, .rowp 600100 71 4 (L zg0 (L Dk.pend x)) (fun q => tnC L (L (L zcu (L Dk.pend x)) q))),
  (600100, ndO L (L Dk.nd x))]
def dpO (L : zae) (x : Dk) : List (Nat × Ob) := dpX L 500000 500001 500002 500003 x
def AV.toS : AV -> List UInt8
 | .str l => l
 | _ => []
def yix (g : Nat -> AV) : Nd := ⟨(g 0).toS, (g 1).toS⟩
def aepC : AV -> Bool
 | .aep c _ _ _ _ _ => c
 | _ => false
def aepK : AV -> Nat
 | .aep _ _ k _ _ _ => k
 | _ => 0
def yk0 (g : Nat -> AV) : Tn := ⟨(g 0).toI, (g 1).toS, (g 2).toS, aepC (g 3), aepK (g 3)⟩
structure Dq where
 room : Int
 ln : List (List UInt8 × Nat)
 ls : List (List UInt8 × Nat)
 np : Nat
 gp : Nat -> Nat -> AV
 nn : Nat
 gn : Nat -> Nat -> Nat -> AV
 steps : Int
 fuse : Int
 down : Bool
def zqj (q : Dq) : Dk := ⟨q.room, (List.range q.nn).map (fun k => yix (q.gn k 0)), q.ln, q.ls, (List.range q.np).map (fun i => yk0 (q.gp i)), q.steps, q.fuse, q.down⟩
theorem yh0 (l : List Nd) : (List.range (zbz l)).map (fun k => yix (ndC std (za4 l k))) = l := by
 apply List.ext_getElem
 · simp [zbz]
 · intro i h1 h2
   simp [yix, ndC, za4, std, AV.toS, h2]
theorem yjy (l : List Tn) : (List.range (zg0 l)).map (fun i => yk0 (tnC std (zcu l i))) = l := by
 apply List.ext_getElem
 · simp [zg0]
 · intro i h1 h2
   simp [yk0, tnC, zcu, std, AV.toS, AV.toI, aepC, aepK, h2]
theorem zlg (x : Dk) : zqj ⟨x.room, x.names, x.sure, zg0 x.pend, fun q => tnC std (zcu x.pend q), zbz x.nd, fun k _ => ndC std (za4 x.nd k), x.steps, x.fuse, x.down⟩ = x := by
 unfold zqj
 simp only [yh0, yjy]
def yh6 (ob : Nat -> Option Ob) : AV -> Option (Nat × (Nat -> Nat -> AV))
 | .sl p _ _ n => match ob p with
   | some (.rowp _ _ _ _ g) => some (n, g)
   | _ => none
 | .nils => some (0, fun _ _ => .dead)
 | _ => none
def zwe (ob : Nat -> Option Ob) : Option (Nat × (Nat -> Nat -> Nat -> AV)) := match ob 600100 with
 | some (.tab _ _ n _ g) => some (n, g)
 | _ => none
def zkn (ob : Nat -> Option Ob) (n : Nat) : Option (List (List UInt8 × Nat)) := match ob n with
 | some (.mapp _ _ l) => some l
 | _ => none
def rdS (L : zae) (ob : Nat -> Option Ob) (d : Nat) : Option Dk := match ob d with
 | some (.box _ [.int _ room, .mp n, .mp s, p, .int _ steps, .int _ fuse, .bool down]) => match zkn ob n, zkn ob s, yh6 ob p, zwe ob with
   | some ln, some ls, some (np, gp), some (nn, gn) => some (L zqj ⟨room, ln, ls, np, gp, nn, gn, steps, fuse, down⟩)
   | _, _, _, _ => none
 | _ => none
def onZ (x : Dk) : Int := if x.down = true then 15 else 0
def yh9 (L : zae) : ze1 := (28, fun raw ob => match raw with
 | [.ref id 0] => match rdS L ob id with
   | some x => some ⟨[.ref 500000 0], dpO L x, True, .int .i64 (L onZ x), dpO L x⟩
   | _ => none
 | _ => none)
theorem yk4 (x : Dk) : zaq Try.prog 28 [.ref 500000 0] (dpO std x) (.int .i64 (onZ x)) (dpO std x) := by
 refine zad (T := tt) (S := fun L => zay [] []) (lo := noA) (lb := noA) 8 (fn := Try.f28) (xs := fun L => [.ref 500000 0]) (rts := fun L => [.int .i64 (L onZ x)]) (O := fun L => dpO L x) (O1 := fun L => dpO L x)
   rfl rfl (by kernel_rfl) (by kernel_rfl) (by kernel_rfl) zbk (za6 trivial trivial) (by kernel_rfl) ?_
 intro L P' Q' hL hP hQ
 (cbv; try simp only [syT, true_and, and_true])
 refine ⟨(fun h => by cases h), fun _ => ⟨fun h => ⟨Nat.le_refl _, ⟨fun _ _ => trivial, fun _ _ _ _ _ _ => trivial⟩, fun _ _ _ _ => trivial, ?_⟩, fun h => ⟨Nat.le_refl _, ⟨fun _ _ => trivial, fun _ _ _ _ _ _ => trivial⟩, fun _ _ _ _ => trivial, ?_⟩⟩⟩
 · subst hL
   show 15 = onZ x
   unfold onZ; rw [if_pos (show x.down = true from h)]
 · subst hL
   show 0 = onZ x
   unfold onZ; rw [if_neg (by rw [show x.down = false from h]; decide)]
theorem zln : zbx Try.prog (yh9 std) := by
 intro raw ob T hT hp
 unfold yh9 at hT
 simp only at hT
 repeat' split at hT
 all_goals first | (cases hT; done) | (cases hT; exact yk4 _)
def zan (x : Dk) : Int := if x.fuse = 0 then 15 else 0
def zaj (x : Dk) : Dk := if x.fuse = 0 then { x with down := true } else { x with fuse := if 0 < x.fuse then zu7 .i64 x.fuse 1 else x.fuse, steps := ze3 .i64 x.steps 1 }
def zik (L : zae) : ze1 := (30, fun raw ob => match raw with
 | [.ref id 0] => match rdS L ob id with
   | some x => some ⟨[.ref 500000 0], dpO L x, True, .int .i64 (L zan x), dpO L (L zaj x)⟩
   | _ => none
 | _ => none)
theorem zbg (x : Dk) : (zaj x).nd = x.nd /\ (zaj x).names = x.names /\ (zaj x).sure = x.sure /\ (zaj x).pend = x.pend /\ (zaj x).room = x.room := by
 unfold zaj
 split <;> exact ⟨rfl, rfl, rfl, rfl, rfl⟩
theorem ycv (x : Dk) : zaq Try.prog 30 [.ref 500000 0] (dpO std x) (.int .i64 (zan x)) (dpO std (zaj x)) := by
 refine zad (T := tt) (S := fun L => zay [] []) (lo := noA) (lb := noA) 8 (fn := Try.f30) (xs := fun L => [.ref 500000 0]) (rts := fun L => [.int .i64 (L zan x)]) (O := fun L => dpO L x) (O1 := fun L => dpO L (L zaj x))
   rfl rfl (by kernel_rfl) (by kernel_rfl) (by kernel_rfl) zbk (za6 trivial trivial) (by kernel_rfl) ?_
 intro L P' Q' hL hP hQ
 (cbv; try simp only [syT, true_and, and_true])
 obtain ⟨e1, e2, e3, e4, e5⟩ := zbg x
 have e1 : L Dk.nd (L zaj x) = L Dk.nd x := by subst hL; exact e1
 have e2 : L Dk.names (L zaj x) = L Dk.names x := by subst hL; exact e2
 have e3 : L Dk.sure (L zaj x) = L Dk.sure x := by subst hL; exact e3
 have e4 : L Dk.pend (L zaj x) = L Dk.pend x := by subst hL; exact e4
 have e5 : L Dk.room (L zaj x) = L Dk.room x := by subst hL; exact e5
 simp only [e1, e2, e3, e4, e5, true_and]
 refine ⟨fun h => ⟨Nat.le_refl _, ⟨fun _ _ => trivial, fun _ _ _ _ _ _ => trivial⟩, fun _ _ _ _ => trivial, ?_⟩, fun h => ⟨fun h2 => ⟨Nat.le_refl _, ⟨fun _ _ => trivial, fun _ _ _ _ _ _ => trivial⟩, fun _ _ _ _ => trivial, ?_⟩, fun h2 => ⟨Nat.le_refl _, ⟨fun _ _ => trivial, fun _ _ _ _ _ _ => trivial⟩, fun _ _ _ _ => trivial, ?_⟩⟩⟩
 · (subst hL; subst hQ; simp only [L2, L3, std] at *; try simp only [syS, reduceCtorEq, Int.reduceToNat, Int.reduceAdd, Int.reduceSub] at *)
   unfold zaj zan
   rw [if_pos h, if_pos h]
   exact ⟨rfl, rfl, rfl, rfl⟩
 · subst hL
   have h : x.fuse ≠ 0 := by simpa [ieq, std] using h
   have h2 : 0 < x.fuse := of_decide_eq_true h2
   show x.down = (zaj x).down /\ zu7 .i64 x.fuse 1 = (zaj x).fuse /\ ze3 .i64 x.steps 1 = (zaj x).steps /\ 0 = zan x
   unfold zaj zan
   rw [if_neg h, if_neg h]
   exact ⟨rfl, (if_pos h2).symm, rfl, rfl⟩
 · subst hL
   have h : x.fuse ≠ 0 := by simpa [ieq, std] using h
   have h2 : ¬ 0 < x.fuse := of_decide_eq_false h2
   show x.down = (zaj x).down /\ x.fuse = (zaj x).fuse /\ ze3 .i64 x.steps 1 = (zaj x).steps /\ 0 = zan x
   unfold zaj zan
   rw [if_neg h, if_neg h]
   exact ⟨rfl, (if_neg h2).symm, rfl, rfl⟩
theorem ze4 : zbx Try.prog (zik std) := by
 intro raw ob T hT hp
 unfold zik at hT
 simp only at hT
 repeat' split at hT
 all_goals first | (cases hT; done) | (cases hT; exact ycv _)
def thE (x : Dk) (s : List UInt8) : Int := if x.down = true then 15 else if zc5 x.names s = true then 0 else 12
def thB (x : Dk) (s : List UInt8) : Bool := !x.down && zc5 x.names s
def thK (x : Dk) (s : List UInt8) : Nat := zdd x.names s
def zhb (L : zae) : ze1 := (35, fun raw ob => match raw with
 | [.ref id 0, .str s] => match rdS L ob id with
   | some x => some ⟨[.ref 500000 0, .str s], dpO L x, True, .tup [.aep (L2 L thB x s) 600100 (L2 L thK x s) 2 0 0, .int .i64 (L2 L thE x s)], dpO L x⟩
   | _ => none
 | _ => none)
theorem zzd (x : Dk) (s : List UInt8) : zaq Try.prog 35 [.ref 500000 0, .str s] (dpO std x) (.tup [.aep (thB x s) 600100 (thK x s) 2 0 0, .int .i64 (thE x s)]) (dpO std x) := by
 refine zad (T := tt) (S := fun L => zay [] [yh9 L]) (lo := noA) (lb := noA) 8 (fn := Try.f35) (xs := fun L => [.ref 500000 0, .str s]) (rts := fun L => [.aep (L2 L thB x s) 600100 (L2 L thK x s) 2 0 0, .int .i64 (L2 L thE x s)]) (O := fun L => dpO L x) (O1 := fun L => dpO L x)
   rfl rfl (by kernel_rfl) (by kernel_rfl) (by kernel_rfl) zbk (za6 trivial ⟨zln, trivial⟩) (by kernel_rfl) ?_
 intro L P' Q' hL hP hQ
 have hE : ∀ x : Dk, L zqj ⟨L Dk.room x, L Dk.names x, L Dk.sure x, L zg0 (L Dk.pend x), fun q => tnC L (L (L zcu (L Dk.pend x)) q), L zbz (L Dk.nd x), fun k _ => ndC L (L (L za4 (L Dk.nd x)) k), L Dk.steps x, L Dk.fuse x, L Dk.down x⟩ = x := by subst hL; exact zlg
 (cbv; try simp only [syT, true_and, and_true])
 simp only [hE, true_and]
 refine ⟨Nat.le_refl _, ⟨fun _ _ => trivial, fun _ _ _ _ _ _ => trivial⟩, fun _ _ _ _ => trivial, fun h => ⟨Nat.le_refl _, Nat.le_refl _, ⟨fun _ _ => trivial, fun _ _ _ _ _ _ => trivial⟩, fun _ _ _ _ => trivial, ?_⟩, fun h => ⟨fun h2 => ⟨Nat.le_refl _, Nat.le_refl _, ⟨fun _ _ => trivial, fun _ _ _ _ _ _ => trivial⟩, fun _ _ _ _ => trivial, ?_⟩, fun h2 => ⟨Nat.le_refl _, Nat.le_refl _, ⟨fun _ _ => trivial, fun _ _ _ _ _ _ => trivial⟩, fun _ _ _ _ => trivial, ?_⟩⟩⟩
 · subst hL
   have hd : x.down = true := by
     have h : ine (onZ x) 0 = true := h
     unfold onZ at h
     split at h
     · assumption
     · cases h
   show onZ x = thE x s /\ false = thB x s
   unfold onZ thE thB
   rw [if_pos hd, if_pos hd, hd]
   exact ⟨rfl, rfl⟩
 · subst hL
   have hd : x.down = false := by
     have h : ine (onZ x) 0 = false := h
     unfold onZ at h
     split at h
     · cases h
     · rename_i h3; simpa using h3
   have h2 : zc5 x.names s = true := h2
   show 0 = thE x s /\ zc5 x.names s = thB x s /\ zdd x.names s = thK x s
   unfold thE thB
   rw [if_neg (by rw [hd]; decide), if_pos h2, hd]
   exact ⟨rfl, rfl, rfl⟩
 · subst hL
   have hd : x.down = false := by
     have h : ine (onZ x) 0 = false := h
     unfold onZ at h
     split at h
     · cases h
     · rename_i h3; simpa using h3
   have h2 : zc5 x.names s = false := h2
   show 12 = thE x s /\ false = thB x s
   unfold thE thB
   rw [if_neg (by rw [hd]; decide), if_neg (by rw [h2]; decide), hd, h2]
   exact ⟨rfl, rfl⟩
theorem zeh : zbx Try.prog (zhb std) := by
 intro raw ob T hT hp
 unfold zhb at hT
 simp only at hT
 repeat' split at hT
 all_goals first | (cases hT; done) | (cases hT; exact zzd _ _)
def doL (l : List (List UInt8 × Nat)) (t : Tn) : List (List UInt8 × Nat) :=
 if t.kd = 1 then zfm l t.tt2 t.k else if zc5 l t.fr = true then (if t.kd = 2 then zfm (zhj l t.fr) t.tt2 (zdd l t.fr) else zhj l t.fr) else l
def yg1 (kd : Int) (c : Bool) : Prop := kd = 1 -> c = true
def ydn : AV -> Option (Bool × Nat)
 | .aep c _ k _ _ _ => some (c, k)
 | .aer _ k _ _ _ => some (true, k)
 | .nilp => some (false, 0)
 | _ => none
def doO (l : List (List UInt8 × Nat)) (tb : Ob) : List (Nat × Ob) := [(500001, .mapp 600100 2 l), (600100, tb)]
def yj7 (L : zae) : ze1 := (37, fun raw ob => match raw with
 | [.mp n, .agg [.int .i64 kd, .str fr, .str tt, v]] => match ydn v, zkn ob n, ob 600100 with
   | some (c, k), some l, some (.tab _ _ nn len get) => some ⟨[.mp 500001, .agg [.int .i64 kd, .str fr, .str tt, .aep c 600100 k 2 0 0]], doO l (.tab 68 2 nn len get), L2 L yg1 kd c, .tup [], doO (L2 L doL l ⟨kd, fr, tt, c, k⟩) (.tab 68 2 nn len get)⟩
   | _, _, _ => none
 | _ => none)
theorem yks (l : List (List UInt8 × Nat)) (kd : Int) (fr tt' : List UInt8) (c : Bool) (k : Nat) (nn : Nat) (len : Nat -> Nat) (get : Nat -> Nat -> Nat -> AV) (hp : yg1 kd c) :
   zaq Try.prog 37 [.mp 500001, .agg [.int .i64 kd, .str fr, .str tt', .aep c 600100 k 2 0 0]] (doO l (.tab 68 2 nn len get)) (.tup []) (doO (doL l ⟨kd, fr, tt', c, k⟩) (.tab 68 2 nn len get)) := by
 refine zad (T := tt) (S := fun L => zay [] []) (lo := noA) (lb := noA) 8 (fn := Try.f37) (xs := fun L => [.mp 500001, .agg [.int .i64 kd, .str fr, .str tt', .aep c 600100 k 2 0 0]]) (rts := fun _ => []) (O := fun L => doO l (.tab 68 2 nn len get)) (O1 := fun L => doO (L2 L doL l ⟨kd, fr, tt', c, k⟩) (.tab 68 2 nn len get))
   rfl rfl (by kernel_rfl) (by kernel_rfl) (by kernel_rfl) zbk (za6 trivial trivial) (by kernel_rfl) ?_
 intro L P' Q' hL hP hQ
 (cbv; try simp only [syT, true_and, and_true])
 have tr : ∀ {p : Prop}, p -> nn.le nn /\ ((∀ (k : Nat), k < nn -> True) /\ ∀ (k i j : Nat), k < nn -> i < len k -> j < 2 -> True) /\ p := fun h => ⟨Nat.le_refl _, ⟨fun _ _ => trivial, fun _ _ _ _ _ _ => trivial⟩, h⟩
 refine ⟨fun h => ⟨?_, tr ?_⟩, fun h => ⟨fun h2 => tr ?_, fun h2 => ⟨fun h3 => ⟨?_, tr ?_⟩, fun h3 => tr ?_⟩⟩⟩
 · subst hL
   exact hp (of_decide_eq_true h)
 · subst hL
   have h : kd = 1 := of_decide_eq_true h
   show zfm l tt' k = doL l ⟨kd, fr, tt', c, k⟩
   unfold doL
   rw [if_pos h]
 · subst hL
   have h : ¬ kd = 1 := of_decide_eq_false h
   have h2 : zc5 l fr = false := by
     have h2 : (!zc5 l fr) = true := h2
     simpa using h2
   show l = doL l ⟨kd, fr, tt', c, k⟩
   unfold doL
   rw [if_neg h, if_neg (by rw [h2]; decide)]
 · subst hL
   have h2 : (!zc5 l fr) = false := h2
   show zc5 l fr = true
   simpa using h2
 · subst hL
   have h : ¬ kd = 1 := of_decide_eq_false h
   have h3 : kd = 2 := of_decide_eq_true h3
   have h2 : zc5 l fr = true := by
     have h2 : (!zc5 l fr) = false := h2
     simpa using h2
   show zfm (zhj l fr) tt' (zdd l fr) = doL l ⟨kd, fr, tt', c, k⟩
   unfold doL
   rw [if_neg h, if_pos h2, if_pos h3]
 · subst hL
   have h : ¬ kd = 1 := of_decide_eq_false h
   have h3 : ¬ kd = 2 := of_decide_eq_false h3
   have h2 : zc5 l fr = true := by
     have h2 : (!zc5 l fr) = false := h2
     simpa using h2
   show zhj l fr = doL l ⟨kd, fr, tt', c, k⟩
   unfold doL
   rw [if_neg h, if_pos h2, if_neg h3]
theorem zrm : zbx Try.prog (yj7 std) := by
 intro raw ob T hT hp
 unfold yj7 at hT
 simp only at hT
 repeat' split at hT
 all_goals first | (cases hT; done) | (cases hT; exact yks _ _ _ _ _ _ _ _ _ hp)
def zf2 (x : Dk) (t : Tn) : Dk := { x with names := doL x.names t, pend := x.pend ++ [t] }
theorem zl8 (x : Dk) (t : Tn) : zg0 (zf2 x t).pend = Nat.add (zg0 x.pend) 1 := by
 show (x.pend ++ [t]).length = x.pend.length + 1
 simp
theorem zuj (x : Dk) (t : Tn) (i j : Nat) (hi : i < zg0 (zf2 x t).pend) (hj : j < 4) : zcd std (L2 std zaz i (zg0 x.pend)) (tnC std (zcu x.pend i) j) (zbf .dead [.int .i64 t.kd, .str t.fr, .str t.tt2, .aep t.c 600100 t.k 2 0 0] j) = tnC std (zcu (zf2 x t).pend i) j := by
 have e : zbf .dead [AV.int .i64 t.kd, .str t.fr, .str t.tt2, .aep t.c 600100 t.k 2 0 0] j = tnC std t j := by
   match j, hj with
   | 0, _ => rfl
   | 1, _ => rfl
   | 2, _ => rfl
   | 3, _ => rfl
 have s : ∀ (c : Bool) (a b : Tn), zcd std c (tnC std a j) (tnC std b j) = tnC std (cond c a b) j := by
   intro c a b
   cases c <;> (match j, hj with
     | 0, _ => rfl
     | 1, _ => rfl
     | 2, _ => rfl
     | 3, _ => rfl)
 rw [e, s]
 rw [zl8] at hi
 have hi : i < x.pend.length + 1 := hi
 congr 1
 show cond (zaz i x.pend.length) (zcu x.pend i) t = zcu (x.pend ++ [t]) i
 unfold zcu zaz
 rw [List.getD_eq_getElem?_getD, List.getD_eq_getElem?_getD]
 by_cases h : i < x.pend.length
 · rw [decide_eq_true h, List.getElem?_append_left h]; rfl
 · rw [decide_eq_false h, List.getElem?_append_right (by omega), show i - x.pend.length = 0 by omega]; rfl
def zg9 (L : zae) : ze1 := (31, fun raw ob => match raw with
 | [.ref id 0, .agg [.int .i64 kd, .str fr, .str tt, v]] => match rdS L ob id, ydn v with
   | some x, some (c, k) => some ⟨[.ref 500000 0, .agg [.int .i64 kd, .str fr, .str tt, .aep c 600100 k 2 0 0]], dpO L x, L2 L yg1 kd c /\ L (fun x : Dk => x.pend.length <= 1000000) x, .tup [], dpX L 500000 500001 500002 13 (L2 L zf2 x ⟨kd, fr, tt, c, k⟩)⟩
   | _, _ => none
 | _ => none)
theorem zui (x : Dk) (kd : Int) (fr tt' : List UInt8) (c : Bool) (k : Nat) (hp : yg1 kd c) (hl : x.pend.length <= 1000000) :
   zaq Try.prog 31 [.ref 500000 0, .agg [.int .i64 kd, .str fr, .str tt', .aep c 600100 k 2 0 0]] (dpO std x) (.tup []) (dpX std 500000 500001 500002 13 (zf2 x ⟨kd, fr, tt', c, k⟩)) := by
 refine zad (T := tt) (S := fun L => zay [] [yj7 L]) (lo := noA) (lb := noA) 8 (fn := Try.f31) (xs := fun L => [.ref 500000 0, .agg [.int .i64 kd, .str fr, .str tt', .aep c 600100 k 2 0 0]]) (rts := fun _ => []) (O := fun L => dpO L x) (O1 := fun L => dpX L 500000 500001 500002 13 (L2 L zf2 x ⟨kd, fr, tt', c, k⟩))
   rfl rfl (by kernel_rfl) (by kernel_rfl) (by kernel_rfl) zbk (za6 trivial ⟨zrm, trivial⟩) (by kernel_rfl) ?_
 intro L P' Q' hL hP hQ
 (cbv; try simp only [syT, true_and, and_true])
 subst hL
 refine ⟨Nat.le_refl _, ⟨fun _ _ => trivial, fun _ _ _ _ _ _ => trivial⟩, hp, ?_, Nat.le_refl _, Nat.le_refl _, ⟨rfl, fun _ _ => trivial, fun _ _ _ _ _ _ => rfl⟩, ⟨(zl8 x _).symm, fun i j hi hj => zuj x ⟨kd, fr, tt', c, k⟩ i j hi hj⟩, rfl, rfl, rfl, rfl, rfl, (zl8 x _).symm, rfl⟩
 show zbq 48 (zg0 x.pend) 1 = true
 unfold zbq zg0
 simp only [Bool.and_eq_true, decide_eq_true_eq]
 omega
theorem zf1 : zbx Try.prog (zg9 std) := by
 intro raw ob T hT hp
 unfold zg9 at hT
 simp only at hT
 repeat' split at hT
 all_goals first | (cases hT; done) | (cases hT; exact zui _ _ _ _ _ _ hp.1 hp.2)
inductive DkS where
 | a (k : Int)
 | b (k : Int) (x s : List UInt8)
 | c (k : Int) (x s : List UInt8)
 | d (k : Int) (x s y t : List UInt8)
def nmA : List UInt8 := [97]
def nmB : List UInt8 := [98]
def zcp (x s : List UInt8) : Ob := .box 68 [.str x, .str s]
def ya3 (key : List UInt8) : Ob := .row 71 4 1 (fun _ j => zbf .dead [.int .i64 1, .str [], .str key, .dead] j)
def zrn (n s : Nat) (pend : AV) (k : Int) : Ob := .box 63 [.int .i64 100, .mp n, .mp s, pend, .int .i64 k, .int .i64 (-1), .bool false]
def zps (pend : AV) (k : Int) : Ob := zrn 500001 500002 pend k
def dkO (p : Nat) : DkS -> List (Nat × Ob)
 | .a k => [(500000, zps .nils k), (500001, .mapl .s []), (500002, .mapl .s [])]
 | .b k x s => [(500000, zps (.sl p 4 0 1) k), (500001, .mapl .s [(.s nmA, .ref 500003 0)]), (500002, .mapl .s []), (500003, zcp x s), (p, ya3 nmA)]
 | .c k x s => [(500000, zps .nils k), (500001, .mapl .s [(.s nmA, .ref 500003 0)]), (500002, .mapl .s [(.s nmA, .ref 500003 0)]), (500003, zcp x s)]
 | .d k x s y t => [(500000, zps (.sl p 4 0 1) k), (500001, .mapl .s [(.s nmA, .ref 500003 0), (.s nmB, .ref 500004 0)]), (500002, .mapl .s [(.s nmA, .ref 500003 0)]), (500003, zcp x s), (500004, zcp y t), (p, ya3 nmB)]
def zbd : Option Ob -> List UInt8 × List UInt8
 | some (.box _ [.str x, .str s]) => (x, s)
 | _ => ([], [])
def zy0 (ob : Nat -> Option Ob) (id : Nat) : Option DkS := match ob id with
 | some (.box _ [_, .mp n, _, .nils, .int _ k, _, _]) => match ob n with
   | some (.mapl _ []) => some (.a k)
   | some (.mapl _ [(_, .ref i _)]) => some (.c k (zbd (ob i)).1 (zbd (ob i)).2)
   | _ => none
 | some (.box _ [_, .mp n, _, .sl _ _ _ _, .int _ k, _, _]) => match ob n with
   | some (.mapl _ [(_, .ref i _)]) => some (.b k (zbd (ob i)).1 (zbd (ob i)).2)
   | some (.mapl _ [(_, .ref i _), (_, .ref j _)]) => some (.d k (zbd (ob i)).1 (zbd (ob i)).2 (zbd (ob j)).1 (zbd (ob j)).2)
   | _ => none
 | _ => none
def inc (k : Int) : Int := k + 1
def DkS.up (L : zae) : DkS -> DkS
 | .a k => .a (L inc k)
 | .b k x s => .b (L inc k) x s
 | .c k x s => .c (L inc k) x s
 | .d k x s y t => .d (L inc k) x s y t
def DkS.k : DkS -> Int
 | .a k => k
 | .b k _ _ => k
 | .c k _ _ => k
 | .d k _ _ _ _ => k
def zcc (k : Int) : Prop := 0 <= k /\ k <= 1000
theorem zz7 {k : Int} (h : zcc k) : ze3 .i64 k 1 = inc k := by
 obtain ⟨h0, h1⟩ := h
 unfold ze3 inc
 rw [zhx]
 omega
def ydq : ze1 := (28, fun raw ob => match raw with
 | [.ref id 0] => match zy0 ob id with
   | some sh => some ⟨[.ref 500000 0], dkO 500005 sh, True, .int .i64 0, dkO 500005 sh⟩
   | _ => none
 | _ => none)
theorem yk5 (sh : DkS) : zaq Try.prog 28 [.ref 500000 0] (dkO 500005 sh) (.int .i64 0) (dkO 500005 sh) := by
 cases sh <;>
 · refine zad (T := tt) (S := fun L => zay [] []) (lo := noA) (lb := noA) 8 (fn := Try.f28) (xs := fun L => [.ref 500000 0]) (rts := fun _ => [.int .i64 0]) (O := fun L => dkO 500005 _) (O1 := fun L => dkO 500005 _)
     rfl rfl (by kernel_rfl) (by kernel_rfl) (by kernel_rfl) zbk (za6 trivial trivial) (by kernel_rfl) ?_
   intro L P' Q' hL hP hQ
   (cbv; try simp only [syT, true_and, and_true])
   subst hL
   simp [std]
theorem ziy : zbx Try.prog ydq := by
 intro raw ob T hT hp
 unfold ydq at hT
 simp only at hT
 repeat' split at hT
 all_goals first | (cases hT; done) | (cases hT; exact yk5 _)
def zho (L : zae) : ze1 := (30, fun raw ob => match raw with
 | [.ref id 0] => match zy0 ob id with
   | some sh => some ⟨[.ref 500000 0], dkO 500005 sh, L zcc sh.k, .int .i64 0, dkO 500005 (sh.up L)⟩
   | _ => none
 | _ => none)
theorem ycx (sh : DkS) (hk : zcc sh.k) : zaq Try.prog 30 [.ref 500000 0] (dkO 500005 sh) (.int .i64 0) (dkO 500005 (sh.up std)) := by
 cases sh <;>
 · refine zad (T := tt) (S := fun L => zay [] []) (lo := noA) (lb := noA) 8 (fn := Try.f30) (xs := fun L => [.ref 500000 0]) (rts := fun _ => [.int .i64 0]) (O := fun L => dkO 500005 _) (O1 := fun L => dkO 500005 (DkS.up L _))
     rfl rfl (by kernel_rfl) (by kernel_rfl) (by kernel_rfl) zbk (za6 trivial trivial) (by kernel_rfl) ?_
   intro L P' Q' hL hP hQ
   (cbv; try simp only [syT, true_and, and_true])
   subst hL
   simp only [DkS.k] at hk
   have e0 : ieq (-1) 0 = false := by decide
   have e1 : ilt 0 (-1) = false := by decide
   simp [std, e0, e1, zz7 hk]
theorem zft : zbx Try.prog (zho std) := by
 intro raw ob T hT hp
 unfold zho at hT
 simp only at hT
 repeat' split at hT
 all_goals first | (cases hT; done) | (cases hT; exact ycx _ hp)
def ykr (L : zae) : List (Nat × Ob) := [(14, zrn 11 12 .nils 0), (11, .mapl .s []), (12, .mapl .s [])]
def ydt (L : zae) : ze1 := (8, fun raw ob => match raw with
 | [.int .i64 n] => some ⟨[.int .i64 100], [], True, .tup [.ref 14 0, .int .i64 0], ykr L⟩
 | _ => none)
theorem yhi : zaq Try.prog 8 [.int .i64 100] [] (.tup [.ref 14 0, .int .i64 0]) (ykr std) := by
 refine zad (T := tt) (S := fun L => zay [] []) (lo := noA) (lb := noA) 8 (fn := Try.f8) (xs := fun L => [.int .i64 100]) (rts := fun _ => [.ref 14 0, .int .i64 0]) (O := fun L => []) (O1 := fun L => ykr L)
     rfl rfl (by kernel_rfl) (by kernel_rfl) (by kernel_rfl) zbk (za6 trivial trivial) (by kernel_rfl) ?_
 intro L P' Q' hL hP hQ
 (cbv; try simp only [syT, true_and, and_true])
 subst hL
 have e0 : ilt 100 0 = false := by decide
 have e1 : ilt 65536 100 = false := by decide
 simp [std, e0, e1]
theorem yaa : zbx Try.prog (ydt std) := by
 intro raw ob T hT hp
 unfold ydt at hT
 simp only at hT
 repeat' split at hT
 all_goals first | (cases hT; done) | (cases hT; exact yhi)
def zl9 : ze1 := (35, fun raw ob => match raw with
 | [.ref id 0, .str key] => match zy0 ob id with
   | some (.a _) => none
   | some sh => some ⟨[.ref 500000 0, .str nmA], dkO 500005 sh, True, .tup [.ref 500003 0, .int .i64 0], dkO 500005 sh⟩
   | _ => none
 | _ => none)
def DkS.some : DkS -> Prop
 | .a _ => False
 | _ => True
theorem zze (sh : DkS) (hs : sh.some) : zaq Try.prog 35 [.ref 500000 0, .str nmA] (dkO 500005 sh) (.tup [.ref 500003 0, .int .i64 0]) (dkO 500005 sh) := by
 cases sh
 case a => exact hs.elim
 all_goals
   refine zad (T := tt) (S := fun L => zay [] [ydq]) (lo := noA) (lb := noA) 8 (fn := Try.f35) (xs := fun L => [.ref 500000 0, .str nmA]) (rts := fun _ => [.ref 500003 0, .int .i64 0]) (O := fun L => dkO 500005 _) (O1 := fun L => dkO 500005 _)
     rfl rfl (by kernel_rfl) (by kernel_rfl) (by kernel_rfl) zbk (za6 trivial ⟨ziy, trivial⟩) (by kernel_rfl) ?_
   intro L P' Q' hL hP hQ
   (cbv; try simp only [syT, true_and, and_true])
   subst hL
   have e0 : ine 0 0 = false := by decide
   simp [std, e0]
theorem zke : zbx Try.prog zl9 := by
 intro raw ob T hT hp
 unfold zl9 at hT
 simp only at hT
 repeat' split at hT
 all_goals first | (cases hT; done) | skip
 rename_i sh h1 h2
 cases hT
 refine zze sh ?_
 cases sh
 · exact absurd rfl (h1 _)
 all_goals trivial
def zry : AV := .agg [.int .i64 1, .str [], .str nmA, .ref 500003 0]
def zrx : AV := .agg [.int .i64 1, .str [], .str nmB, .ref 500004 0]
def do0 (x s : List UInt8) : List (Nat × Ob) := [(500001, .mapl .s []), (500003, zcp x s)]
def do1 (x s : List UInt8) : List (Nat × Ob) := [(500001, .mapl .s [(.s nmA, .ref 500003 0)]), (500003, zcp x s)]
def do2 (x s y t : List UInt8) : List (Nat × Ob) := [(500001, .mapl .s [(.s nmA, .ref 500003 0)]), (500003, zcp x s), (500004, zcp y t)]
def do3 (x s y t : List UInt8) : List (Nat × Ob) := [(500001, .mapl .s [(.s nmA, .ref 500003 0), (.s nmB, .ref 500004 0)]), (500003, zcp x s), (500004, zcp y t)]
def yi7 : ze1 := (37, fun raw ob => match raw with
 | [.mp n, .agg [_, _, _, .ref i _]] => match ob n with
   | some (.mapl _ []) => some ⟨[.mp 500001, zry], do0 (zbd (ob i)).1 (zbd (ob i)).2, True, .tup [], do1 (zbd (ob i)).1 (zbd (ob i)).2⟩
   | some (.mapl _ [(_, .ref j _)]) => some ⟨[.mp 500001, zrx], do2 (zbd (ob j)).1 (zbd (ob j)).2 (zbd (ob i)).1 (zbd (ob i)).2, True, .tup [], do3 (zbd (ob j)).1 (zbd (ob j)).2 (zbd (ob i)).1 (zbd (ob i)).2⟩
   | _ => none
 | _ => none)
theorem do_a (x s : List UInt8) : zaq Try.prog 37 [.mp 500001, zry] (do0 x s) (.tup []) (do1 x s) := by
 refine zad (T := tt) (S := fun L => zay [] []) (lo := noA) (lb := noA) 8 (fn := Try.f37) (xs := fun L => [.mp 500001, zry]) (rts := fun _ => []) (O := fun L => do0 x s) (O1 := fun L => do1 x s)
   rfl rfl (by kernel_rfl) (by kernel_rfl) (by kernel_rfl) zbk (za6 trivial trivial) (by kernel_rfl) ?_
 intro L P' Q' hL hP hQ
 (cbv; try simp only [syT, true_and, and_true])
 subst hL
 have e0 : ieq 1 1 = true := by decide
 simp [std, e0]
theorem do_b (x s y t : List UInt8) : zaq Try.prog 37 [.mp 500001, zrx] (do2 x s y t) (.tup []) (do3 x s y t) := by
 refine zad (T := tt) (S := fun L => zay [] []) (lo := noA) (lb := noA) 8 (fn := Try.f37) (xs := fun L => [.mp 500001, zrx]) (rts := fun _ => []) (O := fun L => do2 x s y t) (O1 := fun L => do3 x s y t)
   rfl rfl (by kernel_rfl) (by kernel_rfl) (by kernel_rfl) zbk (za6 trivial trivial) (by kernel_rfl) ?_
 intro L P' Q' hL hP hQ
 (cbv; try simp only [syT, true_and, and_true])
 subst hL
 have e0 : ieq 1 1 = true := by decide
 simp [std, e0]
theorem zpp : zbx Try.prog yi7 := by
 intro raw ob T hT hp
 unfold yi7 at hT
 simp only at hT
 repeat' split at hT
 all_goals first | (cases hT; done) | (cases hT; exact do_a _ _) | (cases hT; exact do_b _ _ _ _)
def zi2 : ze1 := (31, fun raw ob => match raw with
 | [.ref id 0, .agg [_, _, _, .ref i _]] => match zy0 ob id with
   | some (.a k) => some ⟨[.ref 500000 0, zry], zb6 (dkO 500005 (.a k)) [(500003, zcp (zbd (ob i)).1 (zbd (ob i)).2)], True, .tup [], dkO 17 (.b k (zbd (ob i)).1 (zbd (ob i)).2)⟩
   | some (.c k x s) => some ⟨[.ref 500000 0, zrx], zb6 (dkO 500005 (.c k x s)) [(500004, zcp (zbd (ob i)).1 (zbd (ob i)).2)], True, .tup [], dkO 17 (.d k x s (zbd (ob i)).1 (zbd (ob i)).2)⟩
   | _ => none
 | _ => none)
theorem zza (k : Int) (x s : List UInt8) : zaq Try.prog 31 [.ref 500000 0, zry] (zb6 (dkO 500005 (.a k)) [(500003, zcp x s)]) (.tup []) (dkO 17 (.b k x s)) := by
 refine zad (T := tt) (S := fun L => zay [] [yi7]) (lo := noA) (lb := noA) 8 (fn := Try.f31) (xs := fun L => [.ref 500000 0, zry]) (rts := fun _ => []) (O := fun L => zb6 (dkO 500005 (.a k)) [(500003, zcp x s)]) (O1 := fun L => dkO 17 (.b k x s))
   rfl rfl (by kernel_rfl) (by kernel_rfl) (by kernel_rfl) zbk (za6 trivial ⟨zpp, trivial⟩) (by kernel_rfl) ?_
 intro L P' Q' hL hP hQ
 (cbv; try simp only [syT, true_and, and_true])
 subst hL
 simp [std]
 exact ⟨by decide, fun i j hi hj => by subst hi; simp [L2, std]⟩
theorem zz9 (k : Int) (x s y t : List UInt8) : zaq Try.prog 31 [.ref 500000 0, zrx] (zb6 (dkO 500005 (.c k x s)) [(500004, zcp y t)]) (.tup []) (dkO 17 (.d k x s y t)) := by
 refine zad (T := tt) (S := fun L => zay [] [yi7]) (lo := noA) (lb := noA) 8 (fn := Try.f31) (xs := fun L => [.ref 500000 0, zrx]) (rts := fun _ => []) (O := fun L => zb6 (dkO 500005 (.c k x s)) [(500004, zcp y t)]) (O1 := fun L => dkO 17 (.d k x s y t))
   rfl rfl (by kernel_rfl) (by kernel_rfl) (by kernel_rfl) zbk (za6 trivial ⟨zpp, trivial⟩) (by kernel_rfl) ?_
 intro L P' Q' hL hP hQ
 (cbv; try simp only [syT, true_and, and_true])
 subst hL
 simp [std]
 exact ⟨by decide, fun i j hi hj => by subst hi; simp [L2, std]⟩
theorem zii : zbx Try.prog zi2 := by
 intro raw ob T hT hp
 unfold zi2 at hT
 simp only at hT
 repeat' split at hT
 all_goals first | (cases hT; done) | (cases hT; exact zza _ _ _) | (cases hT; exact zz9 _ _ _ _ _)
end Sy
end Go.Proofs.Ytogomcfgfnlclaa
namespace Go.Proofs.Ytogomcfgfnlclaa
open Go Go.RowKit
open Go.ChangeMaps (setBlock)
theorem ztf (seen : Array Nat) : leftOf #[] seen = #[] := by simp [leftOf]
set_option maxRecDepth 1000000 in
theorem yjk (w : World) (b bm : Nat) (clock : Nat) (hc : w.cell? ⟨b, 1, none⟩ = some (.map (some bm))) (hm : w.heap[bm]? = some (.map #[] clock)) :
   Calls Try.prog 17 #[.pointer (some ⟨b, 0, none⟩)] w fun e w' => e = .returned (.int .i64 0) /\ Below w.heap.size w w' := by
 have hrg := run_range_map (P := Try.prog) w 60 9 64 bm #[] clock Try.underlying60 hm
 have hnx : ∀ ty, (Instr.next (.pointer (some ⟨w.heap.size, 0, none⟩)) false ty).run Try.prog (w.alloc (.mapIter (some bm) clock #[] clock)) = .ok (.tuple #[.bool false]) (w.alloc (.mapIter (some bm) clock #[] clock)) := fun ty => by
   rcases run_next_map (P := Try.prog) w ty bm clock clock #[] #[] clock hm (by simp) (Nat.le_refl _) with ⟨_, h⟩ | ⟨e, he, _⟩
   · exact h
   · rw [ztf] at he; simp at he
 go_enter Try.func17, Try.ntmps17
 go_wp2
 refine wp_loop_rounds 1 ?_
 rw [rounds_succ]
 go_wp2
 go_ret
 exact ⟨rfl, (Below.refl _ w).alloc (Nat.le_refl _) _⟩
set_option maxRecDepth 1000000 in
theorem yjj (w : World) (b bm bn : Nat) (clock : Nat) (x : MapEntry) (s : ByteArray) (hc : w.cell? ⟨b, 1, none⟩ = some (.map (some bm))) (hm : w.heap[bm]? = some (.map #[x] clock)) (hst : MapKept.Stamped #[x] clock)
   (hx : x.val = .pointer (some ⟨bn, 0, none⟩)) (hn : w.cell? ⟨bn, 0, none⟩ = some (.string s)) :
   Calls Try.prog 17 #[.pointer (some ⟨b, 0, none⟩)] w fun e w' => e = .returned (.int .i64 (wrap64 s.size)) /\ Below w.heap.size w w' := by
 have hrg := run_range_map (P := Try.prog) w 60 9 64 bm #[x] clock Try.underlying60 hm
 have hbn : bn < w.heap.size := by
   rcases Nat.lt_or_ge bn w.heap.size with h | h
   · exact h
   · simp [World.cell?, Array.getElem?_eq_none h] at hn
 have hbm : bm < w.heap.size := by
   rcases Nat.lt_or_ge bm w.heap.size with h | h
   · exact h
   · simp [Array.getElem?_eq_none h] at hm
 obtain ⟨W2, hr2, hk2, hB2, hnx⟩ : ∃ W2 : World, W2.heap[w.heap.size]? = some (.mapIter (some bm) clock #[x.born] clock) /\ (∀ k, k < w.heap.size -> W2.heap[k]? = w.heap[k]?) /\ Below w.heap.size w W2 /\
     ∀ ty, (Instr.next (.pointer (some ⟨w.heap.size, 0, none⟩)) false ty).run Try.prog (w.alloc (.mapIter (some bm) clock #[] clock)) = .ok (.tuple #[.bool true, x.key, .pointer (some ⟨bn, 0, none⟩)]) W2 := by
   rcases run_next_at (P := Try.prog) (w.alloc (.mapIter (some bm) clock #[] clock)) 0 w.heap.size bm clock clock #[] #[x] clock (heap_alloc_new _ _) ((heap_alloc_old w _ hbm).trans hm) hst.1 (Nat.le_refl _) with ⟨h0, _⟩ | ⟨e, he, w1, hal, h⟩
   · simp [leftOf] at h0
   · simp [leftOf] at he
     subst he
     rw [hx] at h
     have hB : Below w.heap.size w (w.alloc (.mapIter (some bm) clock #[] clock)) := (Below.refl _ w).alloc (Nat.le_refl _) _
     have hw : w1.heap = (w.alloc (.mapIter (some bm) clock #[] clock)).heap /\ w1.os = w.os /\ w1.tape = w.tape /\ w1.output = w.output := by
       rcases hal with rfl | rfl
       · exact ⟨rfl, rfl, rfl, rfl⟩
       · exact ⟨rfl, rfl, rfl, rfl⟩
     obtain ⟨h1, h2, h3, h4⟩ := hw
     have hl : w.heap.size < (w.alloc (.mapIter (some bm) clock #[] clock)).heap.size := by
       show w.heap.size < (w.heap.push _).size
       rw [Array.size_push]
       omega
     have hne : ∀ k, k < w.heap.size -> (w1.heap.setIfInBounds w.heap.size (.mapIter (some bm) clock #[e.born] clock))[k]? = w.heap[k]? := fun k hk => by
       rw [Array.getElem?_setIfInBounds_ne (by omega), h1]
       exact heap_alloc_old w _ hk
     refine ⟨setBlock w1 w.heap.size (.mapIter (some bm) clock #[e.born] clock), ?_, hne, ⟨h2, h3, h4, ?_, hne⟩, fun ty => h⟩
     · show (w1.heap.setIfInBounds w.heap.size _)[w.heap.size]? = _
       rw [h1, Array.getElem?_setIfInBounds, if_pos rfl, if_pos hl]
     · show w.heap.size <= (w1.heap.setIfInBounds w.heap.size _).size
       rw [h1, Array.size_setIfInBounds]
       exact Nat.le_of_lt hl
 have hm2 : W2.heap[bm]? = some (.map #[x] clock) := (hk2 bm hbm).trans hm
 have hen : (Instr.entry (.pointer (some ⟨w.heap.size, 0, none⟩))).run Try.prog W2 = .ok (.tuple #[x.key, .pointer (some ⟨bn, 0, none⟩)]) W2 := by
   have hen := run_entry_at (P := Try.prog) W2 w.heap.size bm clock #[] #[x] clock x hr2 hm2 (by simp) hst.2.1
   rw [hx] at hen
   exact hen
 have hn1 : W2.cell? ⟨bn, 0, none⟩ = some (.string s) := by
   simp only [World.cell?, hk2 bn hbn]
   exact hn
 have hnx2 : ∀ ty, (Instr.next (.pointer (some ⟨w.heap.size, 0, none⟩)) false ty).run Try.prog W2 = .ok (.tuple #[.bool false]) W2 := fun ty => by
   rcases run_next_at (P := Try.prog) W2 ty w.heap.size bm clock clock #[x.born] #[x] clock hr2 hm2 hst.1 (Nat.le_refl _) with ⟨_, h⟩ | ⟨e, he, _⟩
   · exact h
   · simp [leftOf] at he
 go_enter Try.func17, Try.ntmps17
 go_wp2
 refine wp_loop_rounds 2 ?_
 rw [rounds_succ]
 go_wp2
 rw [rounds_succ]
 go_wp2
 go_ret
 exact ⟨rfl, hB2⟩
end Go.Proofs.Ytogomcfgfnlclaa
namespace Go.Proofs
open Go.Shelf
def Try.keys34_ren : Go.Shelf.Ren := ⟨fun | 7 => 34 | 10 => 48 | n => n, fun | 23 => 60 | 26 => 9 | 3 => 64 | 28 => 76 | 0 => 0 | 27 => 75 | 33 => 65 | 4 => 4 | n => n, fun | n => n⟩
theorem Try.keys34 : Go.Proofs.SlLaysZ.n7 Try.prog Try.keys34_ren := {
 mixed := by kernel_rfl
 f7 := ⟨Try.f34.name, by decide, Try.func34.trans (congrArg some (by kernel_rfl))⟩
 f10 := ⟨Try.f48.name, by decide, Try.func48.trans (congrArg some (by kernel_rfl))⟩
 t0 := Try.underlying0
 a0 := Try.isAgg0
 z0 := Try.sizeOf0
 v0 := Try.zeroValue0
 t4 := Try.underlying4
 a4 := Try.isAgg4
 z4 := Try.sizeOf4
 v4 := Try.zeroValue4
 t23 := Try.underlying60
 a23 := Try.isAgg60
 z23 := Try.sizeOf60
 v23 := Try.zeroValue60
 t26 := Try.underlying9
 a26 := Try.isAgg9
 z26 := Try.sizeOf9
 v26 := Try.zeroValue9
 t27 := Try.underlying75
 a27 := Try.isAgg75
 z27 := Try.sizeOf75
 v27 := Try.zeroValue75
 t28 := Try.underlying76
 a28 := Try.isAgg76
 z28 := Try.sizeOf76
 v28 := Try.zeroValue76
 t33 := Try.underlying65
 a33 := Try.isAgg65
 z33 := Try.sizeOf65
 v33 := Try.zeroValue65 }
def Try.sorted33_ren : Go.Shelf.Ren := ⟨fun | 6 => 33 | 8 => 46 | 9 => 47 | 11 => 56 | 13 => 58 | 12 => 57 | 23 => 72 | 24 => 73 | 14 => 63 | 15 => 64 | 16 => 65 | 17 => 66 | 18 => 67 | 19 => 68 | 20 => 69 | 21 => 70 | 22 => 71 | 25 => 80 | 26 => 81 | 27 => 82 | 28 => 83 | 29 => 84 | 30 => 85 | 31 => 94 | n => n, fun | 26 => 9 | 28 => 76 | 24 => 36 | 0 => 0 | 3 => 3 | 37 => 87 | 48 => 111 | 50 => 83 | 4 => 4 | 40 => 104 | 39 => 103 | 45 => 108 | 5 => 5 | 9 => 9 | 51 => 120 | 55 => 124 | 57 => 141 | 58 => 142 | 33 => 65 | n => n, fun | n => n⟩
theorem Try.sorted33 : Go.Proofs.SlLaysZ.n6 Try.prog Try.sorted33_ren := {
 mixed := by kernel_rfl
 f6 := ⟨Try.f33.name, by decide, Try.func33.trans (congrArg some (by kernel_rfl))⟩
 f8 := ⟨Try.f46.name, by decide, Try.func46.trans (congrArg some (by kernel_rfl))⟩
 f11 := ⟨Try.f56.name, by decide, Try.func56.trans (congrArg some (by kernel_rfl))⟩
 t0 := Try.underlying0
 a0 := Try.isAgg0
 z0 := Try.sizeOf0
 v0 := Try.zeroValue0
 t24 := Try.underlying36
 a24 := Try.isAgg36
 z24 := Try.sizeOf36
 v24 := Try.zeroValue36
 t26 := Try.underlying9
 a26 := Try.isAgg9
 z26 := Try.sizeOf9
 v26 := Try.zeroValue9
 t28 := Try.underlying76
 a28 := Try.isAgg76
 z28 := Try.sizeOf76
 v28 := Try.zeroValue76
 i26 := by kernel_rfl }
def Try.sort47_ren : Go.Shelf.Ren := ⟨fun | 6 => 47 | 8 => 58 | 9 => 57 | 19 => 72 | 20 => 73 | 21 => 63 | 22 => 64 | 23 => 65 | 24 => 66 | 25 => 67 | 26 => 68 | 27 => 69 | 28 => 70 | 29 => 71 | 36 => 80 | 31 => 81 | 32 => 82 | 37 => 83 | 38 => 84 | 39 => 85 | 41 => 94 | n => n, fun | 27 => 36 | 29 => 9 | 3 => 3 | 32 => 87 | 26 => 36 | 0 => 0 | 44 => 111 | 46 => 83 | 4 => 4 | 36 => 104 | 35 => 103 | 41 => 108 | 5 => 5 | 9 => 9 | 53 => 120 | 57 => 124 | 63 => 141 | 64 => 142 | n => n, fun | n => n⟩
theorem Try.sort47 : Go.Proofs.SlLaysM.n6 Try.prog Try.sort47_ren := {
 mixed := by kernel_rfl
 f6 := ⟨Try.f47.name, by decide, Try.func47.trans (congrArg some (by kernel_rfl))⟩
 f8 := Try.func58.trans (congrArg some (by kernel_rfl))
 f9 := ⟨Try.f57.name, by decide, Try.func57.trans (congrArg some (by kernel_rfl))⟩
 f19 := Try.func72.trans (congrArg some (by kernel_rfl))
 f20 := Try.func73.trans (congrArg some (by kernel_rfl))
 f21 := ⟨Try.f63.name, by decide, Try.func63.trans (congrArg some (by kernel_rfl))⟩
 f22 := ⟨Try.f64.name, by decide, Try.func64.trans (congrArg some (by kernel_rfl))⟩
 f23 := ⟨Try.f65.name, by decide, Try.func65.trans (congrArg some (by kernel_rfl))⟩
 f24 := ⟨Try.f66.name, by decide, Try.func66.trans (congrArg some (by kernel_rfl))⟩
 f25 := ⟨Try.f67.name, by decide, Try.func67.trans (congrArg some (by kernel_rfl))⟩
 f26 := ⟨Try.f68.name, by decide, Try.func68.trans (congrArg some (by kernel_rfl))⟩
 f27 := ⟨Try.f69.name, by decide, Try.func69.trans (congrArg some (by kernel_rfl))⟩
 f28 := ⟨Try.f70.name, by decide, Try.func70.trans (congrArg some (by kernel_rfl))⟩
 f29 := ⟨Try.f71.name, by decide, Try.func71.trans (congrArg some (by kernel_rfl))⟩
 f31 := Try.func81.trans (congrArg some (by kernel_rfl))
 f32 := Try.func82.trans (congrArg some (by kernel_rfl))
 f36 := ⟨Try.f80.name, by decide, Try.func80.trans (congrArg some (by kernel_rfl))⟩
 f37 := ⟨Try.f83.name, by decide, Try.func83.trans (congrArg some (by kernel_rfl))⟩
 f38 := ⟨Try.f84.name, by decide, Try.func84.trans (congrArg some (by kernel_rfl))⟩
 f39 := ⟨Try.f85.name, by decide, Try.func85.trans (congrArg some (by kernel_rfl))⟩
 f41 := ⟨Try.f94.name, by decide, Try.func94.trans (congrArg some (by kernel_rfl))⟩
 t0 := Try.underlying0
 a0 := Try.isAgg0
 z0 := Try.sizeOf0
 v0 := Try.zeroValue0
 t3 := Try.underlying3
 a3 := Try.isAgg3
 z3 := Try.sizeOf3
 v3 := Try.zeroValue3
 t4 := Try.underlying4
 a4 := Try.isAgg4
 z4 := Try.sizeOf4
 v4 := Try.zeroValue4
 t5 := Try.underlying5
 a5 := Try.isAgg5
 z5 := Try.sizeOf5
 v5 := Try.zeroValue5
 t9 := Try.underlying9
 a9 := Try.isAgg9
 z9 := Try.sizeOf9
 v9 := Try.zeroValue9
 t26 := Try.underlying36
 a26 := Try.isAgg36
 z26 := Try.sizeOf36
 v26 := Try.zeroValue36
 t27 := Try.underlying36
 a27 := Try.isAgg36
 z27 := Try.sizeOf36
 v27 := Try.zeroValue36
 t29 := Try.underlying9
 a29 := Try.isAgg9
 z29 := Try.sizeOf9
 v29 := Try.zeroValue9
 t32 := Try.underlying87
 a32 := Try.isAgg87
 z32 := Try.sizeOf87
 v32 := Try.zeroValue87
 t35 := Try.underlying103
 a35 := Try.isAgg103
 z35 := Try.sizeOf103
 v35 := Try.zeroValue103
 t36 := Try.underlying104
 a36 := Try.isAgg104
 z36 := Try.sizeOf104
 v36 := Try.zeroValue104
 t41 := Try.underlying108
 a41 := Try.isAgg108
 z41 := Try.sizeOf108
 v41 := Try.zeroValue108
 t44 := Try.underlying111
 a44 := Try.isAgg111
 z44 := Try.sizeOf111
 v44 := Try.zeroValue111
 t46 := Try.underlying83
 a46 := Try.isAgg83
 z46 := Try.sizeOf83
 v46 := Try.zeroValue83
 t53 := Try.underlying120
 a53 := Try.isAgg120
 z53 := Try.sizeOf120
 v53 := Try.zeroValue120
 t57 := Try.underlying124
 a57 := Try.isAgg124
 z57 := Try.sizeOf124
 v57 := Try.zeroValue124
 t63 := Try.underlying141
 a63 := Try.isAgg141
 z63 := Try.sizeOf141
 v63 := Try.zeroValue141
 t64 := Try.underlying142
 a64 := Try.isAgg142
 z64 := Try.sizeOf142
 v64 := Try.zeroValue142 }
def Try.clone36_ren : Go.Shelf.Ren := ⟨fun | 5 => 36 | 7 => 49 | n => n, fun | 23 => 60 | 25 => 9 | 3 => 64 | 4 => 4 | 20 => 20 | n => n, fun | n => n⟩
theorem Try.clone36 : Go.Proofs.SlLaysW.n5 Try.prog Try.clone36_ren := {
 mixed := by kernel_rfl
 f5 := ⟨Try.f36.name, by decide, Try.func36.trans (congrArg some (by kernel_rfl))⟩
 f7 := Try.func49.trans (congrArg some (by kernel_rfl))
 t4 := Try.underlying4
 a4 := Try.isAgg4
 z4 := Try.sizeOf4
 v4 := Try.zeroValue4
 t20 := Try.underlying20
 a20 := Try.isAgg20
 z20 := Try.sizeOf20
 v20 := Try.zeroValue20
 t23 := Try.underlying60
 a23 := Try.isAgg60
 z23 := Try.sizeOf60
 v23 := Try.zeroValue60 }
end Go.Proofs
namespace Go.Proofs.Ytogomcfgfnlclaa
open Go Go.RowKit
open Go.WideElems (Fit rd rg rg_of)
open Go.Maps
theorem zqd (m : Nat) : AnyZ.SortsIn Try.prog Try.sorted33_ren Fence.wide m :=
 ⟨fun blk off cap ss W hH hblk hsz => callsIn_wide.2 (AnyM.slices_Sort_string Try.sort47 blk off cap ss W hH hblk hsz),
  fun p cap W => callsIn_wide.2 (AnyM.slices_Sort_string_none Try.sort47 p cap W)⟩
def zw9 (_ : Value) : Option (DataW Unit × List MemPlace) := some (.lit (.bool true), [])
set_option maxHeartbeats 1000000 in
theorem yd2 (w : World) (Bm b clock : Nat) (x : MapEntry) (s : ByteArray) (hB : Bm < w.heap.size) (hc : w.cell? ⟨Bm, 0, none⟩ = some (.map (some b))) (hb : w.heap[b]? = some (.map #[x] clock)) (hst : MapKept.Stamped #[x] clock)
   (hk : x.key = .string s) (hs : s.size <= 1000) :
   Calls Try.prog 33 #[.func (.func 48) #[] #[.pointer (some ⟨Bm, 0, none⟩)]] w fun e w' => ∃ v, e = .returned v /\ w'.ownsRow w.heap.size 9 1 v 1 [.string s] /\ Below w.heap.size w w' := by
 have hrd : rd Try.prog 9 zw9 x = some (.string s.data.toList, .lit (.bool true)) := by
   have hl : s.size <= maxLen := Nat.le_trans hs (by decide)
   simp [rd, zw9, Go.keyOf, hk, mapKey, Try.underlying9, hl]
 have hown : w.ownsMap Try.prog 9 zw9 b 1 (.map [(.string s.data.toList, .lit (.bool true))]) := by
   refine ⟨#[x], clock, hb, ⟨(show 1 <= maxLen by decide), hst, fun y hy => ?_⟩, by simp, ?_⟩
   · simp at hy; subst hy; exact ⟨_, hrd⟩
   · simp [rg_of hrd, DataW.insert]
 have hseq := AnyZ.keys_gives (ρ := Try.keys34_ren) (F := Fence.wide) (n := 2) { Try.keys34 with } trivial rfl (by omega) Bm b 1 _ w hB hc hown
 refine (callsIn_wide.1 (AnyZ.sorted_in Try.sorted33 Fence.wide 5 trivial trivial trivial trivial rfl (by omega) (zqd _) (enters_of Try.func47 (by kernel_rfl) rfl) 48 _ trivial (enters_of Try.func48 (by kernel_rfl) rfl) _ 1 (by decide) (by omega) w hseq)).mono ?_
 rintro e w' ⟨v, ss, rfl, hS, hrow, -, hB⟩
 have : ss = [s.data.toList] := by simpa [strKeys, strOf] using hS
 subst this
 have hrow := hrow
 simp [encStr] at hrow
 exact ⟨v, rfl, hrow, hB⟩
namespace Sy
theorem zdr {P : Program} {f : FuncId} {fn : Func} {c : Code} {vs : Array Value} {w : World} {Q : Ending -> World -> Prop} (hf : P.funcs[f]? = some fn) (hb : fn.body = some c) (hn : (fn.name == "runtime.NumGoroutine") = false) (h : Calls P f vs w Q) : zfk P f vs w Q := by
 unfold zfk
 rw [zd7 hf hn hb]
 exact h
theorem ze7 {D D' : Nat -> Prop} {w w' : World} {μ : Mu} {O : List (Nat × Ob)} {r : AV} {v : Value} (hD : ∀ b, D b -> b < w.heap.size)
   (hdom : ∀ n, μ n = none ↔ gx (za2 O) n = none) (hobs : ∀ n o x, gx (za2 O) n = some o -> μ n = some x -> zd1 w.heap D μ o x)
   (hinj : ∀ n n' b z z', μ n = some (some (b, z)) -> μ n' = some (some (b, z')) -> n = n') (hown : ∀ n b z, μ n = some (some (b, z)) -> b < w.heap.size /\ ¬ D b)
   (B : Below w.heap.size w w') (up : ∀ b, D b -> D' b) (dn : ∀ b, D' b -> D b \/ (w.heap.size <= b /\ b < w'.heap.size)) (rv : R w'.heap D' μ r v) : yfo D w μ O O r (.returned v) v w' D' μ :=
 { ret := rfl, os := B.os, tape := B.tape, output := B.output, size := B.size, old := fun b hb _ => B.block b hb, up := up,
   dn := fun b hb => (dn b hb).elim .inl (fun h => .inr (.inl h)), dom := hdom,
   obs := fun n o x ho hx => (hobs n o x ho hx).mono (fun b hb => B.block b (hD b hb)) up (fun _ _ h => h) (fun b z e _ => by subst e; exact B.block b (hown n b z hx).1),
   inj := hinj,
   own := fun n b z h => ⟨Nat.lt_of_lt_of_le (hown n b z h).1 B.size, fun hb => (dn b hb).elim (hown n b z h).2 (fun h2 => absurd (hown n b z h).1 (by omega)), .inr ⟨n, z, h⟩⟩,
   keep := fun _ _ _ => rfl, val := rv }
theorem zqx {D : Nat -> Prop} {w w' : World} {μ : Mu} {O : List (Nat × Ob)} {r : AV} {v : Value} (id : Nat) (o : Ob) (z : Nat × Nat) (hD : ∀ b, D b -> b < w.heap.size) (hid : za2 O id = none)
   (hdom : ∀ n, μ n = none ↔ gx (za2 O) n = none) (hobs : ∀ n o x, gx (za2 O) n = some o -> μ n = some x -> zd1 w.heap D μ o x)
   (hinj : ∀ n n' b z z', μ n = some (some (b, z)) -> μ n' = some (some (b, z')) -> n = n') (hown : ∀ n b z, μ n = some (some (b, z)) -> b < w.heap.size /\ ¬ D b)
   (B : Below w.heap.size w w') (hlt : w.heap.size < w'.heap.size)
   (hbig : id < zbo) (hnt : zam o = false) (ok : zd1 w'.heap D (fun n => if n = id then some (some (w.heap.size, z)) else μ n) o (some (w.heap.size, z)))
   (rv : R w'.heap D (fun n => if n = id then some (some (w.heap.size, z)) else μ n) r v) :
   yfo D w μ O (zb6 O [(id, o)]) r (.returned v) v w' D (fun n => if n = id then some (some (w.heap.size, z)) else μ n) := by
 have hgid : gx (za2 O) id = none := by rw [za7 (zar.2 hbig), hid]
 have hμ : μ id = none := (hdom id).2 hgid
 have hm : ∀ n x, μ n = some x -> (if n = id then some (some (w.heap.size, z)) else μ n) = some x := fun n x h => by
   rw [if_neg (by rintro rfl; rw [hμ] at h; cases h)]; exact h
 have ha : ∀ n, gx (za2 (zb6 O [(id, o)])) n = if n = id then some o else gx (za2 O) n := fun n => by
   have hf : za2 (zb6 O [(id, o)]) = zb0 (za2 O) [(id, o)] := by
     funext n
     rw [zds, zhm]
     by_cases e : n = id
     · subst e; rw [hid, if_pos rfl]; simp [za2, za3]
     · rw [if_neg e]
       cases za2 O n with
       | some _ => rfl
       | none => simp [za2, za9 (fun h => e h.symm)]
   rw [hf]
   exact zh2 hbig hnt (fun x hx => by rw [hid] at hx; cases hx) n
 refine { ret := rfl, os := B.os, tape := B.tape, output := B.output, size := B.size, old := fun b hb _ => B.block b hb, up := fun _ h => h, dn := fun b hb => .inl hb, dom := fun n => ?_, obs := fun n o' x ho hx => ?_, inj := fun n n' b z1 z2 h1 h2 => ?_, own := fun n b z1 h => ?_, keep := fun n h _ => ?_, val := rv }
 · rw [ha]
   by_cases e : n = id
   · simp [e]
   · simp only [if_neg e]; exact hdom n
 · rw [ha] at ho
   by_cases e : n = id
   · simp only [if_pos e] at ho hx
     cases ho; cases hx
     exact ok
   · simp only [if_neg e] at ho hx
     exact (hobs n o' x ho hx).mono (fun b hb => B.block b (hD b hb)) (fun _ h => h) hm (fun b z e _ => by subst e; exact B.block b (hown n b z hx).1)
 · by_cases e : n = id <;> by_cases e' : n' = id
   · rw [e, e']
   · simp only [if_pos e, if_neg e'] at h1 h2
     cases h1
     exact absurd (hown n' _ _ h2).1 (by omega)
   · simp only [if_neg e, if_pos e'] at h1 h2
     cases h2
     exact absurd (hown n _ _ h1).1 (by omega)
   · simp only [if_neg e, if_neg e'] at h1 h2
     exact hinj n n' b z1 z2 h1 h2
 · by_cases e : n = id
   · simp only [if_pos e] at h
     cases h
     exact ⟨hlt, fun hb => absurd (hD _ hb) (by omega), .inl (Nat.le_refl _)⟩
   · simp only [if_neg e] at h
     exact ⟨Nat.lt_of_lt_of_le (hown n b z1 h).1 B.size, (hown n b z1 h).2, .inr ⟨n, z1, h⟩⟩
 · exact if_neg (fun e => h (by rw [e]; exact hgid))
end Sy
end Go.Proofs.Ytogomcfgfnlclaa
namespace Go.Proofs.Ytogomcfgfnlclaa
namespace Sy
open Go Go.RowKit
set_option maxRecDepth 100000
set_option linter.unusedSimpArgs false
set_option linter.unusedVariables false
def ybt (x s : List UInt8) : List (Nat × Ob) := [(500001, .mapl .s [(.s nmA, .ref 500003 0)]), (500003, zcp x s)]
theorem zf6 {h : Array Obj} {D : Nat -> Prop} {μ : Mu} {x : AV} {vs : Array Value} (hr : RL h D μ [x] vs) : ∃ v, vs = #[v] /\ R h D μ x v := by
 obtain ⟨hl, hr⟩ := hr
 obtain ⟨a, ha⟩ : ∃ a, vs.toList = [a] := List.length_eq_one_iff.1 (by simpa using hl.symm)
 have : vs = #[a] := by rw [<- Array.toArray_toList (xs := vs), ha]
 subst this
 exact ⟨a, rfl, hr 0 x a rfl rfl⟩
theorem zn8 {h : Array Obj} {D : Nat -> Prop} {μ : Mu} {b z m : Nat} {v : AV} (k : zd1 h D μ (.mapl .s [(.s nmA, v)]) (some (b, z, m))) :
   ∃ x clock s, h[b]? = some (.map #[x] clock) /\ MapKept.Stamped #[x] clock /\ x.key = .string s /\ s.data.toList = nmA /\ R h D μ v x.val := by
 obtain ⟨es, clock, kf, hb, hn, hks, hnd, hr⟩ := k
 have hn : es.size = 1 := hn
 obtain ⟨x, rfl⟩ : ∃ x, es = #[x] := ⟨es[0], by
   apply Array.ext
   · simpa using hn
   · intro i h1 h2
     have : i = 0 := by simp at h2; exact h2
     subst this; rfl⟩
 obtain ⟨y, hy, ry⟩ := hr 0 x rfl
 obtain ⟨k1, k2⟩ := hks.key 0 x rfl
 obtain ⟨s, k3, k4⟩ := k1
 have hkf : kf 0 = .s nmA /\ y = v := by
   simp only [zb9] at hy
   split at hy
   · rename_i h; exact ⟨(zjb h).symm, by cases hy; rfl⟩
   · cases hy
 obtain ⟨h1, rfl⟩ := hkf
 rw [h1] at k4
 exact ⟨x, clock, s, hb, hks.st, k3, (Ky.s.inj k4).symm, ry⟩
def zid : ze1 := (36, fun raw ob => match raw with
 | [.mp n] => match ob n with
   | some (.mapl _ [(_, .ref i _)]) => some ⟨[.mp 500001], ybt (zbd (ob i)).1 (zbd (ob i)).2, True, .mp 600000, zb6 (ybt (zbd (ob i)).1 (zbd (ob i)).2) [(600000, .mapl .s [(.s nmA, .ref 500003 0)])]⟩
   | _ => none
 | _ => none)
theorem zjs : zbx Try.prog zid := by
 intro raw ob T hT hp
 unfold zid at hT
 simp only at hT
 repeat' split at hT
 all_goals first | (cases hT; done) | skip
 cases hT
 intro D w μ vs hD hxs hdom hobs hinj hown hg hgb
 obtain ⟨v, rfl, r1⟩ := zf6 hxs
 cases r1 with
 | mp _ b z m hμ =>
   obtain ⟨es, clock, kf, hb, hn, hks, hnd, hr⟩ := hobs 500001 _ _ rfl hμ
   refine zdr (fn := Try.f36) rfl rfl (by kernel_rfl) ((AnyW.maps_Clone Try.clone36 b es clock w hb).mono ?_)
   rintro e w' ⟨rfl, rfl⟩
   have B : Below w.heap.size w (w.alloc (.map es clock)) := (Below.refl _ w).alloc (Nat.le_refl _) _
   have hm : ∀ n x, μ n = some x -> (if n = 600000 then some (some (w.heap.size, (0, 0))) else μ n) = some x := fun n x h => by
     rw [if_neg (by rintro rfl; rw [(hdom 600000).2 rfl] at h; cases h)]; exact h
   refine ⟨_, D, _, zqx 600000 _ (0, 0) hD rfl hdom hobs hinj hown B (by show w.heap.size < (w.heap.push _).size; simp) (by unfold zbo; omega) rfl ⟨es, clock, kf, heap_alloc_new _ _, hn, hks, hnd, fun i x hx => ?_⟩ (.mp _ w.heap.size 0 0 (if_pos rfl))⟩
   obtain ⟨y, h1, h2⟩ := hr i x hx
   exact ⟨y, h1, h2.mono (fun b hb => B.block b (hD b hb)) (fun _ h => h) hm⟩
def seqO (x s : List UInt8) : List (Nat × Ob) := [(500010, .box 60 [.mp 500001]), (500001, .mapl .s [(.s nmA, .ref 500003 0)]), (500003, zcp x s)]
def zi5 : ze1 := (33, fun raw ob => match raw with
 | [.fn _ [] [.ref c _]] => match ob c with
   | some (.box _ [.mp n]) => match ob n with
     | some (.mapl _ [(_, .ref i _)]) => some ⟨[.fn 48 [] [.ref 500010 0]], seqO (zbd (ob i)).1 (zbd (ob i)).2, True, .lst 1 1 (fun _ _ => .str nmA), seqO (zbd (ob i)).1 (zbd (ob i)).2⟩
     | _ => none
   | _ => none
 | _ => none)
theorem zim : zbx Try.prog zi5 := by
 intro raw ob T hT hp
 unfold zi5 at hT
 simp only at hT
 repeat' split at hT
 all_goals first | (cases hT; done) | skip
 cases hT
 intro D w μ vs hD hxs hdom hobs hinj hown hg hgb
 obtain ⟨v, rfl, r1⟩ := zf6 hxs
 cases r1 with
 | fn _ _ _ us1 us2 e1 e2 h1 h2 =>
   obtain ⟨u, hu⟩ : ∃ u, us2.toList = [u] := List.length_eq_one_iff.1 (by simpa using e2.symm)
   have : us2 = #[u] := by rw [<- Array.toArray_toList (xs := us2), hu]
   subst this
   have : us1 = #[] := by
     apply Array.eq_empty_of_size_eq_zero
     simpa using e1.symm
   subst this
   have r2 : R w.heap D μ (.ref 500010 0) u := h2 0 _ u rfl rfl
   cases r2 with
   | ref _ _ b z m hμ =>
     obtain ⟨C, t, fr, hb, hz, hf, ho, hC⟩ := hobs 500010 _ _ rfl hμ
     obtain ⟨v0, rfl, r3⟩ := zf6 hC
     cases r3 with
     | mp _ bm zm mm hμm =>
       obtain ⟨x, clock, s, hbm, hst, hk, hs, rx⟩ := zn8 (hobs 500001 _ _ rfl hμm)
       have hss : s.size = 1 := by
         have := congrArg List.length hs
         simpa [nmA] using this
       refine zdr (fn := Try.f33) rfl rfl (by kernel_rfl) ((yd2 w b bm clock x s (hown _ _ _ hμ).1 (by rw [zec]; simp [zak hb]) hbm hst hk (by omega)).mono ?_)
       rintro e w' ⟨v, rfl, ⟨-, hrow⟩, B⟩
       rcases hrow with ⟨-, h0⟩ | ⟨g, cap, cur, rfl, hg0, hgb, hc1, hc2, hc3, hc4⟩
       · cases h0
       have hcur : cur[0]? = some (.string s) := by
         have := congrArg (fun l => l[0]?) hc4
         simpa using this
       have hlt : g < w'.heap.size := (Array.getElem?_eq_some_iff.1 hgb).1
       refine ⟨_, fun b => D b \/ b = g, μ, ze7 hD hdom hobs hinj hown B (fun b h => .inl h) (fun b h => h.elim .inl (fun e => .inr (by subst e; exact ⟨hg0, hlt⟩))) (.lst 1 1 _ g 0 cap (fun _ _ => .string s) (.inr rfl) hc1 (fun i j hi hj => ?_) (fun i j hi hj => rfl) (fun i j hi hj => .str _ s hs))⟩
       have : i = 0 := by omega
       subst this
       have : j = 0 := by omega
       subst this
       rw [zak hgb]
       exact hcur
def zbt (a : List UInt8) : Prop := a.length <= 1000
def zv1 (L : zae) : zom := (45, fun xs => match xs with | [.str a] => some (L zbt a, .str a) | _ => none)
def zzj (L : zae) : zom := (32, fun xs => match xs with | [.str a] => some (L zbt a, .str a) | _ => none)
theorem zv2 : ybj Try.prog (zv1 std) := by
 intro xs p r h hp
 dsimp only [zv1] at h |-
 split at h <;> cases h
 try simp only [L2, L3, std] at hp |-
 rename_i a
 have h1 : a.length <= 1000 := hp
 exact zjw (fn := Try.f45) rfl rfl (by kernel_rfl) (yih (zmn _)) (fun h D => ygh h D zap _) (fun w => Try.stringslite_Clone ⟨a.toArray⟩ w (by show a.toArray.size <= _; rw [List.size_toArray]; omega))
theorem zqf : ybj Try.prog (zzj std) := by
 intro xs p r h hp
 dsimp only [zzj] at h |-
 split at h <;> cases h
 try simp only [L2, L3, std] at hp |-
 rename_i a
 have h1 : zbt a := hp
 refine zfw (T := tt) (S := fun L => ycu [zv1 L]) (lo := noA) (lb := noA) 5 (fn := Try.f32) rfl rfl (by kernel_rfl) (by kernel_rfl) rfl zbk (zqb ⟨zv2, trivial⟩) (by kernel_rfl) ?_
 (intro L P1 Q1 hL hP hQ; cbv; subst hL; simp only [L2, L3, std, syT]; subst hQ)
 (simp only [syS, reduceCtorEq, Int.reduceToNat, Int.reduceAdd, Int.reduceSub])
 exact h1
def zgn (a : List UInt8) : Bool := !decide (a = []) && decide (a.length <= 32)
def zkm (L : zae) : zom := (29, fun xs => match xs with | [.str a] => some (L zbt a, .bool (L zgn a)) | _ => none)
theorem zgm : ybj Try.prog (zkm std) := by
 intro xs p r h hp
 dsimp only [zkm] at h |-
 split at h <;> cases h
 try simp only [L2, L3, std] at hp |-
 rename_i a
 have h1 : a.length <= 1000 := hp
 refine zfw (T := tt) (S := noS) (lo := noA) (lb := noA) 5 (fn := Try.f29) rfl rfl (by kernel_rfl) (by kernel_rfl) rfl zbk (zwf _) (by kernel_rfl) ?_
 (intro L P1 Q1 hL hP hQ; cbv; subst hL; simp only [L2, L3, std, syT]; subst hQ)
 (simp only [syS, reduceCtorEq, Int.reduceToNat, Int.reduceAdd, Int.reduceSub])
 refine ⟨fun h => ?_, fun h => ?_⟩
 · unfold zgn
   rw [decide_eq_false h]
   unfold ile
   simp
   omega
 · subst h; rfl
def zgx (s : List UInt8) (i q : Nat) : Int := if q < i then zoi s q else 0
def ykd (L : zae) (s : List UInt8) : Nat -> St -> Option Ann := fun id st => match id with
 | 0 => some ⟨Nat, fun i => [(27, .int .i64 (L zab i))], fun i => [(24, .row 5 1 (L yj0 s) (fun q _ => .int .u8 (L3 L zgx s i q)))], [0, 1, 6, 26], [500003],
     fun i => L2 L (fun (s : List UInt8) i => i <= s.length) s i, fun i => L2 L (fun (s : List UInt8) (i : Nat) => s.length - i) s i⟩
 | _ => none
theorem zo8 (s : List UInt8) : zb2 s.length (fun k => zoi s k) = s := by
 apply List.ext_getElem
 · simp [zb2]
 · intro i h1 h2
   simp [zb2, zoi, h2]
theorem shr0 (k : IntKind) (b : Int) : ycf k 0 b = 0 := by unfold ycf; simp
theorem ygl {i : Nat} (h : i <= 1000) : ile 0 (Int.tmod (zz1 .i64 (zab i) 64) 63) = true := by
 have e1 : (zab i).tdiv 64 = ((i / 64 : Nat) : Int) := by
   unfold zab
   exact (Int.ofNat_tdiv i 64).symm
 unfold zz1
 rw [zhx, e1]
 have e2 : ((i / 64 : Nat) : Int) + 9223372036854775808 < 18446744073709551616 := by omega
 rw [Int.emod_eq_of_lt (by omega) e2]
 unfold ile
 rw [decide_eq_true_eq]
 exact Int.tmod_nonneg _ (by omega)
def zxa (L : zae) : ze1 := (38, fun raw ob => match raw with
 | [.ref i 0, .int .u64 _] => some ⟨[.ref 500003 0, .int .u64 0], [(500003, zcp (zbd (ob i)).1 (zbd (ob i)).2)], L zbt (zbd (ob i)).2, .str (zbd (ob i)).2, [(500003, zcp (zbd (ob i)).1 (zbd (ob i)).2)]⟩
 | _ => none)
theorem ye9 (x s : List UInt8) (hs : zbt s) : zaq Try.prog 38 [.ref 500003 0, .int .u64 0] [(500003, zcp x s)] (.str s) [(500003, zcp x s)] := by
 have hs : s.length <= 1000 := hs
 refine zad (T := tt) (S := fun L => zay [] []) (lo := fun L => ykd L s) (lb := noA) 8 (fn := Try.f38) (xs := fun L => [.ref 500003 0, .int .u64 0]) (rts := fun _ => [.str s]) (O := fun L => [(500003, zcp x s)]) (O1 := fun L => [(500003, zcp x s)])
   rfl rfl (by kernel_rfl) (by kernel_rfl) (by kernel_rfl) zbk (za6 trivial trivial) (by kernel_rfl) ?_
 intro L P' Q' hL hP hQ
 (cbv; try simp only [syT, true_and, and_true])
 refine ⟨?_, fun h1 => ?_, fun h1 => ⟨?_, ⟨0, ?_⟩, fun i hi => ?_⟩⟩
 · subst hL; decide
 · exfalso
   subst hL
   revert h1
   simp only [std, L2]
   decide
 · subst hL
   show ydz 1 (slen s) (slen s) = true
   rw [zqw]
   unfold slen
   omega
 · (cbv; try simp only [syT, true_and, and_true])
   subst hL
   refine ⟨⟨rfl, fun a b ha hb => ?_⟩, rfl, Nat.zero_le _⟩
   have : b = 0 := by omega
   subst this
   simp [zbf, L3, std, zgx]
 · (cbv; try simp only [syT, true_and, and_true])
   refine ⟨fun h2 => ⟨?_, ?_, ?_, fun h3 => ?_, fun h3 => ⟨fun h4 => ⟨?_, ?_, ⟨i + 1, ?_⟩⟩, fun h4 => ?_⟩⟩, fun h2 => ?_⟩
   · subst hL; decide
   · subst hL; decide
   · subst hL
     have hi : i <= s.length := hi
     exact ygl (by omega)
   · exfalso
     subst hL
     revert h3
     simp only [std, shr0]
     decide
   · subst hL
     have h4 : ilt (zab i) (slen s) = true := h4
     rw [zfb] at h4
     show inR (zab i) (slen s) = true
     rw [znq]
     exact ⟨Int.natCast_nonneg _, h4⟩
   · subst hL
     have h4 : ilt (zab i) (slen s) = true := h4
     rw [zfb] at h4
     show inR (zab i) (zab (Int.toNat (slen s))) = true
     rw [znq]
     exact ⟨Int.natCast_nonneg _, h4⟩
   · (cbv; try simp only [syT, true_and, and_true])
     subst hL
     have hi : i <= s.length := hi
     have h4 : ilt (zab i) (slen s) = true := h4
     rw [zfb] at h4
     have h4 : (i : Int) < (s.length : Int) := h4
     refine ⟨fun a b ha hb => ?_, ?_, ?_, ?_⟩
     · refine (ydo _ .u8 _ (zgx s i) a b hb).trans (congrArg (AV.int .u8) ?_)
       show (if a = 0 + (zab i).toNat then zoi s (zab i) else zgx s i a) = zgx s (i + 1) a
       have e1 : 0 + (zab i).toNat = i := by unfold zab; omega
       rw [e1]
       unfold zgx
       by_cases e : a = i
       · subst e
         rw [if_pos rfl, if_pos (by omega)]; rfl
       · rw [if_neg e]
         by_cases e2 : a < i
         · rw [if_pos e2, if_pos (by omega)]
         · rw [if_neg e2, if_neg (by omega)]
     · show ze3 .i64 (zab i) 1 = zab (i + 1)
       unfold ze3 zab
       rw [zhx]
       omega
     · show i + 1 <= s.length
       omega
     · show s.length - (i + 1) < s.length - i
       omega
   · exfalso
     subst hL
     have h2 : ilt (zab i) (zab (Int.toNat (slen s))) = true := h2
     have h4 : ilt (zab i) (slen s) = false := h4
     have e : zab (Int.toNat (slen s)) = slen s := by unfold zab slen; omega
     rw [e, h4] at h2
     cases h2
   · subst hL
     have hi : i <= s.length := hi
     have h2 : ilt (zab i) (zab (Int.toNat (slen s))) = false := h2
     rw [zk6] at h2
     have e : i = s.length := by unfold zab slen at h2; omega
     subst e
     refine ⟨⟨?_, fun k _ => ⟨_, rfl⟩⟩, ?_⟩
     · show 0 + s.length <= s.length
       omega
     · show zb2 s.length (fun k => zgx s s.length (0 + k)) = s
       refine Eq.trans ?_ (zo8 s)
       unfold zb2
       refine List.map_congr_left fun k hk => ?_
       have hk : k < s.length := by simpa using hk
       show UInt8.ofNat (zgx s s.length (0 + k)).toNat = UInt8.ofNat (zoi s k).toNat
       unfold zgx
       rw [if_pos (by omega), Nat.zero_add]
theorem zxc : zbx Try.prog (zxa std) := by
 intro raw ob T hT hp
 unfold zxa at hT
 simp only at hT
 repeat' split at hT
 all_goals first | (cases hT; done) | (cases hT; exact ye9 _ _ hp)
theorem zgl (l : List Nd) (k q : Nat) (v : Nd) : za4 (l.set k v) q = if q = k /\ k < l.length then v else za4 l q := by
 unfold za4
 rw [List.getD_eq_getElem?_getD, List.getD_eq_getElem?_getD, List.getElem?_set]
 by_cases h : k = q
 · subst h
   by_cases h2 : k < l.length
   · simp [h2]
   · simp [h2]
 · rw [if_neg h, if_neg (fun e => h e.1.symm)]
theorem ybs (l : List Nd) (k : Nat) (a : List UInt8) {q j : Nat} (hq : q < l.length) (hj : j < 2) : zp4 std k 0 0 1 [AV.str a] (fun q _ => ndC std (za4 l q)) q 0 j = ndC std (za4 (l.set k ⟨a, (za4 l k).sure⟩) q) j := by
 rw [zgl]
 match j, hj with
 | 0, _ =>
   show zcd std (za5 q k && za5 0 0) (.str a) (.str (za4 l q).now) = _
   by_cases h : q = k
   · subst h; rw [if_pos ⟨rfl, hq⟩, za3, za3]; rfl
   · rw [if_neg (fun e => h e.1), za9 h]; rfl
 | 1, _ =>
   show AV.str (za4 l q).sure = _
   by_cases h : q = k
   · subst h; rw [if_pos ⟨rfl, hq⟩]; rfl
   · rw [if_neg (fun e => h e.1)]; rfl
theorem ydp (l : List Nd) (k : Nat) (a : List UInt8) {q j : Nat} (hq : q < l.length) (hj : j < 2) : zp4 std k 0 1 1 [AV.str a] (fun q _ => ndC std (za4 l q)) q 0 j = ndC std (za4 (l.set k ⟨(za4 l k).now, a⟩) q) j := by
 rw [zgl]
 match j, hj with
 | 0, _ =>
   show AV.str (za4 l q).now = _
   by_cases h : q = k
   · subst h; rw [if_pos ⟨rfl, hq⟩]; rfl
   · rw [if_neg (fun e => h e.1)]; rfl
 | 1, _ =>
   show zcd std (za5 q k && za5 0 0) (.str a) (.str (za4 l q).sure) = _
   by_cases h : q = k
   · subst h; rw [if_pos ⟨rfl, hq⟩, za3, za3]; rfl
   · rw [if_neg (fun e => h e.1), za9 h]; rfl
theorem ygb {x : Dk} {s : List UInt8} (h : thE x s = 0) : thB x s = true /\ x.down = false /\ zc5 x.names s = true := by
 unfold thE at h
 unfold thB
 split at h
 · cases h
 · rename_i h1
   split at h
   · rename_i h2
     have h1 : x.down = false := by simpa using h1
     rw [h1, h2]; exact ⟨rfl, rfl, rfl⟩
   · cases h
def zto (x : Dk) (n : Int) : Dk := { x with fuse := max n (-1) }
def zxj (L : zae) : ze1 := (21, fun raw ob => match raw with
 | [.ref id 0, .int .i64 n] => match rdS L ob id with
   | some x => some ⟨[.ref 500000 0, .int .i64 n], dpO L x, True, .tup [], dpO L (L2 L zto x n)⟩
   | _ => none
 | _ => none)
theorem yep (x : Dk) (n : Int) : zaq Try.prog 21 [.ref 500000 0, .int .i64 n] (dpO std x) (.tup []) (dpO std (zto x n)) := by
 refine zad (T := tt) (S := fun L => zay [] []) (lo := noA) (lb := noA) 8 (fn := Try.f21) (xs := fun L => [.ref 500000 0, .int .i64 n]) (rts := fun L => []) (O := fun L => dpO L x) (O1 := fun L => dpO L (L2 L zto x n))
   rfl rfl (by kernel_rfl) (by kernel_rfl) (by kernel_rfl) zbk (za6 trivial trivial) (by kernel_rfl) ?_
 intro L P' Q' hL hP hQ
 (cbv; try simp only [syT, true_and, and_true])
 subst hL
 simp only [std]
 refine ⟨fun _ => ?_, fun h => by cases h⟩
 repeat' (first | exact Nat.le_refl _ | exact trivial | exact rfl | refine And.intro ?_ ?_ | intro _)
theorem ztn : zbx Try.prog (zxj std) := by
 intro raw ob T hT hp
 unfold zxj at hT
 simp only at hT
 repeat' split at hT
 all_goals first | (cases hT; done) | (cases hT; exact yep _ _)
def ziw (L : zae) : ze1 := (16, fun raw ob => match raw with
 | [.ref id 0] => match rdS L ob id with
   | some x => some ⟨[.ref 500000 0], dpO L x, True, .int .i64 (L zab (L zg0 (L Dk.pend x))), dpO L x⟩
   | _ => none
 | _ => none)
theorem zsz (x : Dk) : zaq Try.prog 16 [.ref 500000 0] (dpO std x) ((fun L : zae => .int .i64 (L zab (L zg0 (L Dk.pend x)))) std) (dpO std x) := by
 refine zad (T := tt) (S := fun L => zay [] []) (lo := noA) (lb := noA) 8 (fn := Try.f16) (xs := fun L => [.ref 500000 0]) (rts := fun L => [.int .i64 (L zab (L zg0 (L Dk.pend x)))]) (O := fun L => dpO L x) (O1 := fun L => dpO L x)
   rfl rfl (by kernel_rfl) (by kernel_rfl) (by kernel_rfl) zbk (za6 trivial trivial) (by kernel_rfl) ?_
 intro L P' Q' hL hP hQ
 (cbv; try simp only [syT, true_and, and_true])
 subst hL
 simp only [std]
 refine ⟨fun h => ?_, fun h => ?_⟩
 · try cases h
   repeat' (first | exact Nat.le_refl _ | exact trivial | exact rfl | refine And.intro ?_ ?_ | intro _)
 · try cases h
   repeat' (first | exact Nat.le_refl _ | exact trivial | exact rfl | refine And.intro ?_ ?_ | intro _)
theorem zlk : zbx Try.prog (ziw std) := by
 intro raw ob T hT hp
 unfold ziw at hT
 simp only at hT
 repeat' split at hT
 all_goals first | (cases hT; done) | (cases hT; exact zsz _)
def zn1 (x : Dk) (s : List UInt8) : List UInt8 := if thE x s = 0 then (za4 x.nd (thK x s)).now else []
def zw2 (L : zae) : ze1 := (14, fun raw ob => match raw with
 | [.ref id 0, .str s] => match rdS L ob id with
   | some x => some ⟨[.ref 500000 0, .str s], dpO L x, True, .tup [.str (L2 L zn1 x s), .int .i64 (L2 L thE x s)], dpO L x⟩
   | _ => none
 | _ => none)
theorem ydm (x : Dk) (s : List UInt8) : zaq Try.prog 14 [.ref 500000 0, .str s] (dpO std x) (.tup [.str (zn1 x s), .int .i64 (thE x s)]) (dpO std x) := by
 refine zad (T := tt) (S := fun L => zay [] [zhb L]) (lo := noA) (lb := noA) 8 (fn := Try.f14) (xs := fun L => [.ref 500000 0, .str s]) (rts := fun L => [.str (L2 L zn1 x s), .int .i64 (L2 L thE x s)]) (O := fun L => dpO L x) (O1 := fun L => dpO L x)
   rfl rfl (by kernel_rfl) (by kernel_rfl) (by kernel_rfl) zbk (za6 trivial ⟨zeh, trivial⟩) (by kernel_rfl) ?_
 intro L P' Q' hL hP hQ
 have hE : ∀ x : Dk, L zqj ⟨L Dk.room x, L Dk.names x, L Dk.sure x, L zg0 (L Dk.pend x), fun q => tnC L (L (L zcu (L Dk.pend x)) q), L zbz (L Dk.nd x), fun k _ => ndC L (L (L za4 (L Dk.nd x)) k), L Dk.steps x, L Dk.fuse x, L Dk.down x⟩ = x := by subst hL; exact zlg
 (cbv; try simp only [syT, true_and, and_true])
 simp only [hE, true_and]
 subst hL
 simp only [std]
 refine ⟨Nat.le_refl _, ⟨fun _ _ => trivial, fun _ _ _ _ _ _ => trivial⟩, fun _ _ _ _ => trivial, fun h => ?_, fun h => ?_⟩
 · have h : ¬ thE x s = 0 := by simpa [ine] using h
   have hx : zn1 x s = [] := if_neg h
   rw [hx]
   repeat' (first | exact Nat.le_refl _ | exact trivial | exact rfl | refine And.intro ?_ ?_ | intro _)
 · have h : thE x s = 0 := by simpa [ine] using h
   have hx : zn1 x s = (za4 x.nd (thK x s)).now := if_pos h
   rw [hx, (ygb h).1, h]
   repeat' (first | exact Nat.le_refl _ | exact trivial | exact rfl | refine And.intro ?_ ?_ | intro _)
theorem zsy : zbx Try.prog (zw2 std) := by
 intro raw ob T hT hp
 unfold zw2 at hT
 simp only at hT
 repeat' split at hT
 all_goals first | (cases hT; done) | (cases hT; exact ydm _ _)
def zdl (x : Dk) (s : List UInt8) : Dk := if thE x s = 0 then (if zan x = 0 then { zaj x with nd := x.nd.set (thK x s) ⟨(za4 x.nd (thK x s)).now, (za4 x.nd (thK x s)).now⟩ } else zaj x) else x
def zgb (x : Dk) (s : List UInt8) : Int := if thE x s = 0 then zan x else thE x s
def zun (L : zae) : ze1 := (13, fun raw ob => match raw with
 | [.ref id 0, .str s] => match rdS L ob id with
   | some x => some ⟨[.ref 500000 0, .str s], dpO L x, True, .int .i64 (L2 L zgb x s), dpO L (L2 L zdl x s)⟩
   | _ => none
 | _ => none)
theorem ycs (x : Dk) (s : List UInt8) : zaq Try.prog 13 [.ref 500000 0, .str s] (dpO std x) (.int .i64 (zgb x s)) (dpO std (zdl x s)) := by
 refine zad (T := tt) (S := fun L => zay [] [zhb L, zik L]) (lo := noA) (lb := noA) 8 (fn := Try.f13) (xs := fun L => [.ref 500000 0, .str s]) (rts := fun L => [.int .i64 (L2 L zgb x s)]) (O := fun L => dpO L x) (O1 := fun L => dpO L (L2 L zdl x s))
   rfl rfl (by kernel_rfl) (by kernel_rfl) (by kernel_rfl) zbk (za6 trivial ⟨zeh, ze4, trivial⟩) (by kernel_rfl) ?_
 intro L P' Q' hL hP hQ
 have hE : ∀ x : Dk, L zqj ⟨L Dk.room x, L Dk.names x, L Dk.sure x, L zg0 (L Dk.pend x), fun q => tnC L (L (L zcu (L Dk.pend x)) q), L zbz (L Dk.nd x), fun k _ => ndC L (L (L za4 (L Dk.nd x)) k), L Dk.steps x, L Dk.fuse x, L Dk.down x⟩ = x := by subst hL; exact zlg
 (cbv; try simp only [syT, true_and, and_true])
 simp only [hE, true_and]
 subst hL
 simp only [std]
 obtain ⟨e1, e2, e3, e4, e5⟩ := zbg x
 refine ⟨Nat.le_refl _, ⟨fun _ _ => trivial, fun _ _ _ _ _ _ => trivial⟩, fun _ _ _ _ => trivial, fun h => ⟨?_, ⟨fun _ _ => trivial, fun _ _ _ _ _ _ => trivial⟩, fun _ _ _ _ => trivial, fun h2 => ?_, fun h2 => ?_⟩, fun h => ?_⟩
 · rw [e1]; exact Nat.le_refl _
 · have h : thE x s = 0 := of_decide_eq_true h
   have h2 : zan x = 0 := of_decide_eq_true h2
   have hx : zdl x s = { zaj x with nd := x.nd.set (thK x s) ⟨(za4 x.nd (thK x s)).now, (za4 x.nd (thK x s)).now⟩ } := by
     unfold zdl; rw [if_pos h, if_pos h2]
   have hz : zgb x s = zan x := if_pos h
   have hl : zbz (x.nd.set (thK x s) ⟨(za4 x.nd (thK x s)).now, (za4 x.nd (thK x s)).now⟩) = zbz x.nd := List.length_set
   rw [hx, hz, (ygb h).1]
   simp only [e1, hl]
   refine ⟨trivial, trivial, Nat.le_refl _, Nat.le_refl _, Nat.le_refl _, Nat.le_refl _, ⟨trivial, fun _ _ => trivial, fun q i j hq hi hj => ?_⟩, ⟨trivial, fun _ _ _ _ => trivial⟩, trivial, trivial, trivial, trivial, trivial, trivial, trivial, trivial⟩
   obtain rfl : i = 0 := by omega
   exact ydp x.nd (thK x s) _ hq hj
 · have h : thE x s = 0 := of_decide_eq_true h
   have h2 : ¬ zan x = 0 := of_decide_eq_false h2
   have hx : zdl x s = zaj x := by
     unfold zdl; rw [if_pos h, if_neg h2]
   have hz : zgb x s = zan x := if_pos h
   rw [hx, hz]
   simp only [e1]
   repeat' (first | exact Nat.le_refl _ | exact trivial | exact rfl | refine And.intro ?_ ?_ | intro _)
 · have h : ¬ thE x s = 0 := of_decide_eq_false h
   have hx : zdl x s = x := if_neg h
   have hz : zgb x s = thE x s := if_neg h
   rw [hx, hz]
   repeat' (first | exact Nat.le_refl _ | exact trivial | exact rfl | refine And.intro ?_ ?_ | intro _)
theorem zrz : zbx Try.prog (zun std) := by
 intro raw ob T hT hp
 unfold zun at hT
 simp only at hT
 repeat' split at hT
 all_goals first | (cases hT; done) | (cases hT; exact ycs _ _)
end Sy
end Go.Proofs.Ytogomcfgfnlclaa
namespace Go.Proofs.Ytogomcfgfnlclaa
open Go Go.RowKit
open Go.ChangeMaps (setBlock)
def ya7 (f : MapEntry -> Int) (e : MapEntry) : MapEntry := { e with val := .int .i64 (f e) }
theorem ya6 (f : MapEntry -> Int) (l : List MapEntry) : ((l.map (ya7 f)).map fun e => valOf e.val) = l.map f := by
 rw [List.map_map]; rfl
theorem zwa (f : MapEntry -> Int) (l : List MapEntry) : (l.map (ya7 f)).map (·.born) = l.map (·.born) := by
 rw [List.map_map]; rfl
theorem ycj (x : Int) (n : Nat) : wrap64 (wrap64 x + (n : Int)) = wrap64 (x + n) := by
 unfold wrap64
 omega
set_option maxRecDepth 1000000 in
theorem yji (w : World) (b bm : Nat) (clock : Nat) (es : Array MapEntry) (f : MapEntry -> Int) (hc : w.cell? ⟨b, 1, none⟩ = some (.map (some bm))) (hm : w.heap[bm]? = some (.map es clock)) (hst : MapKept.Stamped es clock)
   (hv : ∀ x ∈ es.toList, ∃ (bn : Nat) (s : ByteArray), x.val = .pointer (some ⟨bn, 0, none⟩) /\ w.cell? ⟨bn, 0, none⟩ = some (.string s) /\ f x = s.size) :
   Calls Try.prog 17 #[.pointer (some ⟨b, 0, none⟩)] w fun e w' => e = .returned (.int .i64 (wrap64 ((es.toList.map f).sum))) /\ Below w.heap.size w w' := by
 have hrg := run_range_map (P := Try.prog) w 60 9 64 bm es clock Try.underlying60 hm
 have hbm : bm < w.heap.size := by
   rcases Nat.lt_or_ge bm w.heap.size with h | h
   · exact h
   · simp [Array.getElem?_eq_none h] at hm
 go_enter Try.func17, Try.ntmps17
 go_wp2
 go_loopw [3] (fun s w' => ∃ seen : Array Nat, w'.heap[w.heap.size]? = some (.mapIter (some bm) clock seen clock) /\ (∀ k, k < w.heap.size -> w'.heap[k]? = w.heap[k]?) /\ Below w.heap.size w w' /\ s = .int .i64 (wrap64 (seenSum (es.toList.map (ya7 f)) seen))) (fun _ w' => (leftOf es (w'.iterSeen w.heap.size)).size)
 case atStart =>
   exact ⟨#[], heap_alloc_new _ _, fun k hk => heap_alloc_old _ _ hk, (Below.refl _ w).alloc (Nat.le_refl _) _, by rw [seenSum_none]; unfold wrap64; rfl⟩
 case round =>
   obtain ⟨seen, hr, hk, hB, rfl⟩ := hrel
   have hmr : wr.heap[bm]? = some (.map es clock) := (hk bm hbm).trans hm
   rcases run_next_at (P := Try.prog) wr 0 w.heap.size bm clock clock seen es clock hr hmr hst.1 (Nat.le_refl _) with ⟨h0, hrun⟩ | ⟨e, he, w1, hal, hrun⟩
   · have hnx : ∀ ty, (Instr.next (.pointer (some ⟨w.heap.size, 0, none⟩)) false ty).run Try.prog wr = _ := fun _ => hrun
     go_wp2
     go_ret
     rw [seenSum_full seen _ (fun x hx => by
       obtain ⟨y, hy, rfl⟩ := List.mem_map.1 hx
       exact all_seen es seen h0 y hy), ya6]
     exact ⟨rfl, hB⟩
   · obtain ⟨bn, s, hx, hn, hf⟩ := hv e (mem_left he).1
     rw [hx] at hrun
     have hbn : bn < w.heap.size := by
       rcases Nat.lt_or_ge bn w.heap.size with h | h
       · exact h
       · simp [World.cell?, Array.getElem?_eq_none h] at hn
     obtain ⟨W2, hr2, hk2, hB2, hrun2⟩ : ∃ W2 : World, W2.heap[w.heap.size]? = some (.mapIter (some bm) clock (seen.push e.born) clock) /\ (∀ k, k < w.heap.size -> W2.heap[k]? = w.heap[k]?) /\ Below w.heap.size w W2 /\ (Instr.next (.pointer (some ⟨w.heap.size, 0, none⟩)) false 0).run Try.prog wr = .ok (.tuple #[.bool true, e.key, .pointer (some ⟨bn, 0, none⟩)]) W2 := by
       have hw : w1.heap = wr.heap /\ w1.os = wr.os /\ w1.tape = wr.tape /\ w1.output = wr.output := by
         rcases hal with rfl | rfl
         · exact ⟨rfl, rfl, rfl, rfl⟩
         · exact ⟨rfl, rfl, rfl, rfl⟩
       obtain ⟨h1, h2, h3, h4⟩ := hw
       have hl : w.heap.size < wr.heap.size := (Array.getElem?_eq_some_iff.1 hr).1
       have hne : ∀ k, k < w.heap.size -> (w1.heap.setIfInBounds w.heap.size (.mapIter (some bm) clock (seen.push e.born) clock))[k]? = w.heap[k]? := fun k hk' => by
         rw [Array.getElem?_setIfInBounds_ne (by omega), h1]
         exact hk k hk'
       refine ⟨setBlock w1 w.heap.size (.mapIter (some bm) clock (seen.push e.born) clock), ?_, hne, ⟨h2.trans hB.os, h3.trans hB.tape, h4.trans hB.output, ?_, hne⟩, hrun⟩
       · show (w1.heap.setIfInBounds w.heap.size _)[w.heap.size]? = _
         rw [h1, Array.getElem?_setIfInBounds, if_pos rfl, if_pos hl]
       · show w.heap.size <= (w1.heap.setIfInBounds w.heap.size _).size
         rw [h1, Array.size_setIfInBounds]
         exact Nat.le_of_lt hl
     clear hrun hal
     have hnx : ∀ ty, (Instr.next (.pointer (some ⟨w.heap.size, 0, none⟩)) false ty).run Try.prog wr = _ := fun _ => hrun2
     have hm2 : W2.heap[bm]? = some (.map es clock) := (hk2 bm hbm).trans hm
     have hen := run_entry_at (P := Try.prog) W2 w.heap.size bm clock seen es clock e hr2 hm2 (mem_left he).1 hst.2.1
     rw [hx] at hen
     have hn1 : W2.cell? ⟨bn, 0, none⟩ = some (.string s) := by
       simp only [World.cell?, hk2 bn hbn]
       exact hn
     go_wp2
     go_roundw
     case rel =>
       refine ⟨seen.push e.born, hr2, hk2, hB2, ?_⟩
       have hmem : ya7 f e ∈ es.toList.map (ya7 f) := List.mem_map.2 ⟨e, (mem_left he).1, rfl⟩
       have hs := seenSum_push seen (ya7 f e) (mem_left he).2 (es.toList.map (ya7 f)) (by rw [zwa]; exact hst.2.1) hmem
       have hs : seenSum (es.toList.map (ya7 f)) (seen.push e.born) = seenSum (es.toList.map (ya7 f)) seen + f e := hs
       rw [hs, hf, ycj]
     case measure =>
       have e1 : W2.iterSeen w.heap.size = seen.push e.born := by unfold World.iterSeen; rw [hr2]
       have e2 : wr.iterSeen w.heap.size = seen := by unfold World.iterSeen; rw [hr]
       rw [e1, e2]
       exact left_shrinks es seen e he
end Go.Proofs.Ytogomcfgfnlclaa
namespace Go.Proofs.Ytogomcfgfnlclaa
open Go Go.RowKit
open Go.WideElems (Fit rd rg rg_of)
open Go.Maps
theorem zjn {H : Type} : ∀ l : List (Lit × DataW H), (l.foldr DataW.insert []).Perm l
 | [] => .refl _
 | x :: l => by
   have ins : ∀ r : List (Lit × DataW H), (DataW.insert x r).Perm (x :: r) := by
     intro r
     induction r with
     | nil => exact .refl _
     | cons y r ih =>
       unfold DataW.insert
       split
       · exact .refl _
       · exact (ih.cons y).trans (.swap x y r)
   exact (ins _).trans ((zjn l).cons x)
theorem yd1 (w : World) (Bm b clock : Nat) (es : Array MapEntry) (ks : List (List UInt8)) (hB : Bm < w.heap.size) (hc : w.cell? ⟨Bm, 0, none⟩ = some (.map (some b))) (hb : w.heap[b]? = some (.map es clock)) (hst : MapKept.Stamped es clock)
   (hk : ∀ x ∈ es.toList, ∃ s : ByteArray, x.key = .string s /\ s.data.toList ∈ ks) (hks : ∀ k ∈ ks, ∃ x ∈ es.toList, ∃ s : ByteArray, x.key = .string s /\ s.data.toList = k) (hri : ks.Pairwise (fun a b => Op.bytesLess a b = true)) (hl : ks.length <= 1000000) (hs : ∀ k ∈ ks, k.length <= maxLen) :
   Calls Try.prog 33 #[.func (.func 48) #[] #[.pointer (some ⟨Bm, 0, none⟩)]] w fun e w' => ∃ v, e = .returned v /\ w'.ownsRow w.heap.size 9 1 v ks.length (ks.map encStr) /\ Below w.heap.size w w' := by
 have hrd : ∀ x ∈ es.toList, ∃ s : ByteArray, x.key = .string s /\ s.data.toList ∈ ks /\ rd Try.prog 9 zw9 x = some (.string s.data.toList, .lit (.bool true)) := fun x hx => by
   obtain ⟨s, h1, h2⟩ := hk x hx
   have hl : s.size <= maxLen := by have := hs _ h2; simpa using this
   exact ⟨s, h1, h2, by simp [rd, zw9, Go.keyOf, h1, mapKey, Try.underlying9, hl]⟩
 let g : MapEntry -> List UInt8 := fun x => match x.key with | .string s => s.data.toList | _ => []
 have hnd : (es.toList.map g).Nodup := by
   have h := hst.2.2
   rw [List.Nodup, List.pairwise_map] at h |-
   refine h.imp_of_mem fun {x y} hx hy hne he => ?_
   obtain ⟨s, h1, _⟩ := hk x hx
   obtain ⟨t, h2, _⟩ := hk y hy
   apply hne
   have he : s.data.toList = t.data.toList := by
     have e1 : g x = s.data.toList := by simp only [g, h1]
     have e2 : g y = t.data.toList := by simp only [g, h2]
     rw [<- e1, <- e2]; exact he
   rw [h1, h2]
   congr 1
   exact ByteArray.ext (Array.ext' he)
 have hlt : ∀ a b : List UInt8, Op.bytesLess a b = true -> a < b := fun a b h => by rw [bytesLess_eq] at h; exact of_decide_eq_true h
 have hknd : ks.Nodup := hri.imp fun {a b} h he => by
   subst he
   exact absurd (hlt _ _ h) (List.lt_irrefl a)
 have hperm : (es.toList.map g).Perm ks := by
   refine (List.perm_ext_iff_of_nodup hnd hknd).2 fun k => ⟨fun hm => ?_, fun hm => ?_⟩
   · obtain ⟨x, hx, rfl⟩ := List.mem_map.1 hm
     obtain ⟨s, h1, h2⟩ := hk x hx
     simp only [g, h1]; exact h2
   · obtain ⟨x, hx, s, h1, h2⟩ := hks k hm
     exact List.mem_map.2 ⟨x, hx, by simp only [g, h1]; exact h2⟩
 have hesl : es.size = ks.length := by have := hperm.length_eq; simpa using this
 have hmx : (1000000 : Nat) <= maxLen := by decide
 have hown : w.ownsMap Try.prog 9 zw9 b es.size (.map ((es.toList.map (rg Try.prog 9 zw9)).foldr DataW.insert [])) :=
   ⟨es, clock, hb, ⟨by omega, hst, fun y hy => by obtain ⟨s, _, _, h⟩ := hrd y hy; exact ⟨_, h⟩⟩, Nat.le_refl _, rfl⟩
 have hsk : (strKeys (.map ((es.toList.map (rg Try.prog 9 zw9)).foldr DataW.insert []) : DataW Unit)).Perm ks := by
   refine List.Perm.trans ?_ hperm
   refine ((zjn _).map _).trans (List.Perm.of_eq ?_)
   rw [List.map_map]
   refine List.map_congr_left fun x hx => ?_
   obtain ⟨s, h1, _, h3⟩ := hrd x hx
   simp only [Function.comp, rg_of h3, strOf, g, h1]
 have hsize : Maps.size (.map ((es.toList.map (rg Try.prog 9 zw9)).foldr DataW.insert []) : DataW Unit) <= 1000000 := by
   have := (zjn (es.toList.map (rg Try.prog 9 zw9))).length_eq
   show (List.foldr DataW.insert [] (es.toList.map (rg Try.prog 9 zw9))).length <= 1000000
   rw [this, List.length_map, Array.length_toList]
   omega
 have hseq := AnyZ.keys_gives (ρ := Try.keys34_ren) (F := Fence.wide) (n := 2) { Try.keys34 with } trivial rfl (by omega) Bm b es.size _ w hB hc hown
 refine (callsIn_wide.1 (AnyZ.sorted_in Try.sorted33 Fence.wide 5 trivial trivial trivial trivial rfl (by omega) (zqd _) (enters_of Try.func47 (by kernel_rfl) rfl) 48 _ trivial (enters_of Try.func48 (by kernel_rfl) rfl) _ _ (by omega) (by omega) w hseq)).mono ?_
 rintro e w' ⟨v, ss, rfl, hS, hrow, -, hB⟩
 have hS : ss.Perm ks := hS.trans hsk
 have hsort : ss.mergeSort (fun x y => decide (x <= y)) = ks := by
   have hp := List.pairwise_mergeSort (le := fun x y : List UInt8 => decide (x <= y)) (fun a b c h1 h2 => decide_eq_true (List.le_trans (of_decide_eq_true h1) (of_decide_eq_true h2))) (fun a b => by
     rcases List.le_total a b with h | h
     · rw [decide_eq_true h]; rfl
     · rw [decide_eq_true h, Bool.or_true]) ss
   exact List.Perm.eq_of_pairwise (le := fun a b : List UInt8 => decide (a <= b) = true) (fun a b _ _ h1 h2 => List.le_antisymm (of_decide_eq_true h1) (of_decide_eq_true h2)) hp (hri.imp fun {a b} h => decide_eq_true (List.le_of_lt (hlt _ _ h))) ((List.mergeSort_perm _ _).trans hS)
 have hl2 : ss.length = ks.length := hS.length_eq
 rw [hsort, hl2] at hrow
 exact ⟨v, rfl, hrow, hB⟩
end Go.Proofs.Ytogomcfgfnlclaa
namespace Go.Proofs.Ytogomcfgfnlclaa
namespace Sy
open Go Go.RowKit
set_option maxRecDepth 100000
set_option linter.unusedSimpArgs false
set_option linter.unusedVariables false
def zie : ze1 := (36, fun raw ob => match raw with
 | [.mp n] => match zkn ob n, ob 600100 with
   | some l, some (.tab _ _ nn len get) => some ⟨[.mp 500001], doO l (.tab 68 2 nn len get), True, .mp 21, zb6 (doO l (.tab 68 2 nn len get)) [(21, .mapp 600100 2 l)]⟩
   | _, _ => none
 | _ => none)
theorem zht : zbx Try.prog zie := by
 intro raw ob T hT hp
 unfold zie at hT
 simp only at hT
 repeat' split at hT
 all_goals first | (cases hT; done) | skip
 cases hT
 rename_i l _ _ nn len get _ _
 intro D w μ vs hD hxs hdom hobs hinj hown hg hgb
 obtain ⟨v, rfl, r1⟩ := zf6 hxs
 cases r1 with
 | mp _ b z m hμ =>
   obtain ⟨hq, es, clock, kf, hb, hn, hks, hri, hr⟩ := hobs 500001 _ _ (by rw [za7 (zar.2 (by unfold zbo; omega))]; rfl) hμ
   refine zdr (fn := Try.f36) rfl rfl (by kernel_rfl) ((AnyW.maps_Clone Try.clone36 b es clock w hb).mono ?_)
   rintro e w' ⟨rfl, rfl⟩
   have B : Below w.heap.size w (w.alloc (.map es clock)) := (Below.refl _ w).alloc (Nat.le_refl _) _
   have h21 : gx (za2 (doO l (.tab 68 2 nn len get))) 21 = none := by rw [za7 (zar.2 (by unfold zbo; omega))]; rfl
   have hm : ∀ n x, μ n = some x -> (if n = 21 then some (some (w.heap.size, (0, 0))) else μ n) = some x := fun n x h => by
     rw [if_neg (by rintro rfl; rw [(hdom 21).2 h21] at h; cases h)]; exact h
   refine ⟨_, D, _, zqx 21 _ (0, 0) hD rfl hdom hobs hinj hown B (by show w.heap.size < (w.heap.push _).size; simp) (by unfold zbo; omega) rfl ⟨hq, es, clock, kf, heap_alloc_new _ _, hn, hks, hri, fun i x hx => ?_⟩ (.mp _ w.heap.size 0 0 (if_pos rfl))⟩
   exact (hr i x hx).mono (fun b hb => B.block b (hD b hb)) (fun _ h => h) (zlj hm)
def kyO (l : List (List UInt8 × Nat)) (tb : Ob) : List (Nat × Ob) := [(500010, .box 60 [.mp 500001]), (500001, .mapp 600100 2 l), (600100, tb)]
def zpr : ze1 := (34, fun raw ob => match raw with
 | [.mp n] => match zkn ob n, ob 600100 with
   | some l, some (.tab _ _ nn len get) => some ⟨[.mp 500001], doO l (.tab 68 2 nn len get), True, .fn 48 [] [.ref 1 0], zb6 [(1, .box 60 [.mp 500001])] (doO l (.tab 68 2 nn len get))⟩
   | _, _ => none
 | _ => none)
theorem yba (l : List (List UInt8 × Nat)) (nn : Nat) (len : Nat -> Nat) (get : Nat -> Nat -> Nat -> AV) : zaq Try.prog 34 [.mp 500001] (doO l (.tab 68 2 nn len get)) (.fn 48 [] [.ref 1 0]) (zb6 [(1, .box 60 [.mp 500001])] (doO l (.tab 68 2 nn len get))) := by
 refine zad (T := tt) (S := fun L => zay [] []) (lo := noA) (lb := noA) 8 (fn := Try.f34) (xs := fun L => [.mp 500001]) (rts := fun _ => [.fn 48 [] [.ref 1 0]]) (O := fun L => doO l (.tab 68 2 nn len get)) (O1 := fun L => zb6 [(1, .box 60 [.mp 500001])] (doO l (.tab 68 2 nn len get)))
   rfl rfl (by kernel_rfl) (by kernel_rfl) (by kernel_rfl) zbk (za6 trivial trivial) (by kernel_rfl) ?_
 intro L P' Q' hL hP hQ
 (cbv; try simp only [syT, true_and, and_true])
 repeat' (first | exact Nat.le_refl _ | exact trivial | exact rfl | refine And.intro ?_ ?_ | intro _)
theorem zpq : zbx Try.prog zpr := by
 intro raw ob T hT hp
 unfold zpr at hT
 simp only at hT
 repeat' split at hT
 all_goals first | (cases hT; done) | (cases hT; exact yba _ _ _ _)
def zgr (l : List (List UInt8 × Nat)) (i : Nat) : List UInt8 := (l.map Prod.fst).getD i []
def zx9 (l : List (List UInt8 × Nat)) : Prop := l.length <= 1000000 /\ ∀ y ∈ l, y.1.length <= maxLen
def zlb (L : zae) : ze1 := (33, fun raw ob => match raw with
 | [.fn _ [] [.ref c _]] => match ob c, ob 600100 with
   | some (.box _ [.mp n]), some (.tab _ _ nn len get) => match zkn ob n with
     | some l => some ⟨[.fn 48 [] [.ref 500010 0]], kyO l (.tab 68 2 nn len get), L zx9 l, .lst 1 (L mlen l) (fun i _ => .str (L2 L zgr l i)), kyO l (.tab 68 2 nn len get)⟩
     | _ => none
   | _, _ => none
 | _ => none)
theorem zmp : zbx Try.prog (zlb std) := by
 intro raw ob T hT hp
 unfold zlb at hT
 simp only at hT
 repeat' split at hT
 all_goals first | (cases hT; done) | skip
 cases hT
 rename_i c _ _ n _ nn len get _ _ _ l _
 have hp : zx9 l := hp
 intro D w μ vs hD hxs hdom hobs hinj hown hg hgb
 obtain ⟨v, rfl, r1⟩ := zf6 hxs
 cases r1 with
 | fn _ _ _ us1 us2 e1 e2 h1 h2 =>
   obtain ⟨u, hu⟩ : ∃ u, us2.toList = [u] := List.length_eq_one_iff.1 (by simpa using e2.symm)
   have : us2 = #[u] := by rw [<- Array.toArray_toList (xs := us2), hu]
   subst this
   have : us1 = #[] := by
     apply Array.eq_empty_of_size_eq_zero
     simpa using e1.symm
   subst this
   have r2 : R w.heap D μ (.ref 500010 0) u := h2 0 _ u rfl rfl
   cases r2 with
   | ref _ _ b z m hμ =>
     obtain ⟨C, t, fr, hb, hz, hf, ho, hC⟩ := hobs 500010 _ _ (by rw [za7 (zar.2 (by unfold zbo; omega))]; rfl) hμ
     obtain ⟨v0, rfl, r3⟩ := zf6 hC
     cases r3 with
     | mp _ bm zm mm hμm =>
       obtain ⟨hq, es, clock, kf, hbm, hn, hks, hri, hr⟩ := hobs 500001 _ _ (by rw [za7 (zar.2 (by unfold zbo; omega))]; rfl) hμm
       have hkk : ∀ x ∈ es.toList, ∃ s : ByteArray, x.key = .string s /\ s.data.toList ∈ l.map Prod.fst := fun x hx => by
         obtain ⟨i, hi⟩ := List.getElem?_of_mem hx
         obtain ⟨⟨s, k1, k2⟩, k3⟩ := hks.key i x (by simpa using hi)
         rw [k2] at k3
         exact ⟨s, k1, zeo.1 k3⟩
       have hkk2 : ∀ k ∈ l.map Prod.fst, ∃ x ∈ es.toList, ∃ s : ByteArray, x.key = .string s /\ s.data.toList = k := fun k hk => by
         obtain ⟨i, i1, i2⟩ := hks.all (.s k) (zeo.2 hk)
         obtain ⟨⟨s, k1, k2⟩, _⟩ := hks.key i es[i] (by simp [i1])
         rw [i2] at k2
         exact ⟨es[i], by simp, s, k1, (Ky.s.inj k2).symm⟩
       refine zdr (fn := Try.f33) rfl rfl (by kernel_rfl) ((yd1 w b bm clock es (l.map Prod.fst) (hown _ _ _ hμ).1 (by rw [zec]; simp [zak hb]) hbm hks.st hkk hkk2 (List.pairwise_map.2 hri) (by rw [List.length_map]; exact hp.1) (fun k hk => by obtain ⟨y, hy, rfl⟩ := List.mem_map.1 hk; exact hp.2 y hy)).mono ?_)
       rintro e w' ⟨v, rfl, ⟨-, hrow⟩, B⟩
       have hml : mlen l = (l.map Prod.fst).length := by unfold mlen; simp
       rcases hrow with ⟨rfl, h0⟩ | ⟨g, cap, cur, rfl, hg0, hgb, hc1, hc2, hc3, hc4⟩
       · refine ⟨_, D, μ, ze7 hD hdom hobs hinj hown B (fun b h => h) (fun b h => .inl h) ?_⟩
         have h0 : mlen l = 0 := by rw [hml]; exact h0
         show R _ _ _ (.lst 1 (mlen l) _) _
         rw [h0]
         exact .lst0 _ _ _ _ (fun _ => rfl)
       · have hlt : g < w'.heap.size := (Array.getElem?_eq_some_iff.1 hgb).1
         rw [<- hml] at hc1 hc4 |-
         refine ⟨_, fun b => D b \/ b = g, μ, ze7 hD hdom hobs hinj hown B (fun b h => .inl h) (fun b h => h.elim .inl (fun e => .inr (by subst e; exact ⟨hg0, hlt⟩))) (.lst 1 (mlen l) _ g 0 cap (fun i _ => .string ⟨(zgr l i).toArray⟩) (.inr rfl) hc1 (fun i j hi hj => ?_) (fun i j hi hj => rfl) (fun i j hi hj => .str _ _ (by show (zgr l i).toArray.toList = zgr l i; simp)))⟩
         have : j = 0 := by omega
         subst this
         rw [zak hgb]
         have h1 := congrArg (fun l => l[i]?) hc4
         simp only [List.getElem?_take, Nat.mul_one, if_pos hi, List.getElem?_map] at h1
         have hi2 : i < (l.map Prod.fst).length := by rw [<- hml]; exact hi
         rw [show 0 + i * 1 + 0 = i by omega, <- Array.getElem?_toList, h1, <- List.getElem?_map, List.getElem?_eq_getElem hi2]
         unfold zgr
         rw [List.getD_eq_getElem?_getD, List.getElem?_eq_getElem hi2]; rfl
def yds (nd : List Nd) (y : List UInt8 × Nat) : Int := ((za4 nd y.2).now.length : Int)
def zmm (x : Dk) : Int := wrap64 ((x.names.map (yds x.nd)).sum)
theorem ya2 {l l' : List Int} (h : l.Perm l') : l.sum = l'.sum := by
 induction h with
 | nil => rfl
 | cons x _ ih => simp [ih]
 | swap x y l => simp; omega
 | trans _ _ h1 h2 => exact h1.trans h2
def zno (x : MapEntry) : List UInt8 := match x.key with | .string s => s.data.toList | _ => []
theorem zx8 {l : List (List UInt8 × Nat)} {es : Array MapEntry} {clock : Nat} {kf : Nat -> Ky} (hks : zcn .s (yem l) es clock kf) (hri : zgq l) : (es.toList.map zno).Perm (l.map Prod.fst) /\ ∀ i e, es[i]? = some e -> kf i = .s (zno e) := by
 have hk : ∀ (i : Nat) e, es[i]? = some e -> ∃ s : ByteArray, e.key = .string s /\ kf i = .s s.data.toList /\ zc5 l s.data.toList = true := fun i e he => by
   obtain ⟨⟨s, k1, k2⟩, k3⟩ := hks.key i e he
   rw [k2] at k3
   exact ⟨s, k1, k2, k3⟩
 refine ⟨(List.perm_ext_iff_of_nodup ?_ ?_).2 fun k => ⟨fun hm => ?_, fun hm => ?_⟩, fun i e he => ?_⟩
 · have h := hks.st.2.2
   rw [List.Nodup, List.pairwise_map] at h |-
   refine h.imp_of_mem fun {x y} hx hy hne he => ?_
   obtain ⟨i, hi⟩ := List.getElem?_of_mem hx
   obtain ⟨j, hj⟩ := List.getElem?_of_mem hy
   obtain ⟨s, h1, _⟩ := hk i x (by simpa using hi)
   obtain ⟨t, h2, _⟩ := hk j y (by simpa using hj)
   apply hne
   simp only [zno, h1, h2] at he
   rw [h1, h2]
   congr 1
   exact ByteArray.ext (Array.ext' he)
 · rw [List.Nodup, List.pairwise_map]
   refine List.Pairwise.imp (fun {a b} h he => ?_) (show l.Pairwise (fun a b => slt a.1 b.1 = true) from hri)
   rw [he, zhd] at h; cases h
 · obtain ⟨x, hx, rfl⟩ := List.mem_map.1 hm
   obtain ⟨i, hi⟩ := List.getElem?_of_mem hx
   obtain ⟨s, h1, _, h3⟩ := hk i x (by simpa using hi)
   simp only [zno, h1]
   exact zeo.1 h3
 · obtain ⟨i, i1, i2⟩ := hks.all (.s k) (zeo.2 hm)
   obtain ⟨s, h1, h2, _⟩ := hk i es[i] (by simp [i1])
   rw [i2] at h2
   exact List.mem_map.2 ⟨es[i], by simp, by simp only [zno, h1]; exact (Ky.s.inj h2).symm⟩
 · obtain ⟨s, h1, h2, _⟩ := hk i e he
   rw [h2]
   simp only [zno, h1]
theorem zqt : ∀ {l : List (List UInt8 × Nat)}, zgq l -> ∀ y ∈ l, zdd l y.1 = y.2
 | [], _, y, hy => by cases hy
 | x :: l, h, y, hy => by
   have h' := List.pairwise_cons.1 h
   unfold zdd
   rcases List.mem_cons.1 hy with rfl | hy
   · rw [decide_eq_true rfl]; rfl
   · have hne : ¬ x.1 = y.1 := fun e => by
       have := h'.1 y hy
       rw [e, zhd] at this; cases this
     rw [decide_eq_false hne, cond_false]
     exact zqt h'.2 y hy
def zug (L : zae) : ze1 := (17, fun raw ob => match raw with
 | [.ref id 0] => match rdS L ob id with
   | some x => some ⟨[.ref 500000 0], dpO L x, True, .int .i64 (L zmm x), dpO L x⟩
   | _ => none
 | _ => none)
theorem ycm (x : Dk) : zaq Try.prog 17 [.ref 500000 0] (dpO std x) (.int .i64 (zmm x)) (dpO std x) := by
 intro D w μ vs hD hxs hdom hobs hinj hown hg hgb
 obtain ⟨v, rfl, r1⟩ := zf6 hxs
 cases r1 with
 | ref _ _ b z m hμ =>
   obtain ⟨C, t, fr, hb, hz, hf, ho, hC1, hC2⟩ := hobs 500000 _ _ (by rw [za7 (zar.2 (by unfold zbo; omega))]; rfl) hμ
   obtain ⟨v1, hv1⟩ : ∃ v1, C[1]? = some v1 := ⟨C[1]'(by rw [<- hC1]; simp), by simp⟩
   have r2 : R w.heap D μ (.mp 500001) v1 := hC2 1 _ v1 rfl hv1
   cases r2 with
   | mp _ bm zm mm hμm =>
     obtain ⟨hq, es, clock, kf, hbm, hn, hks, hri, hr⟩ := hobs 500001 _ _ (by rw [za7 (zar.2 (by unfold zbo; omega))]; rfl) hμm
     have hri : zgq x.names := hri
     obtain ⟨kp1, kp2⟩ := zx8 (l := x.names) hks hri
     have hv : ∀ e ∈ es.toList, ∃ (bn : Nat) (s : ByteArray), e.val = .pointer (some ⟨bn, 0, none⟩) /\ w.cell? ⟨bn, 0, none⟩ = some (.string s) /\ ((za4 x.nd (zdd x.names (zno e))).now.length : Int) = s.size := fun e he => by
       obtain ⟨i, hi⟩ := List.getElem?_of_mem he
       have hi : es[i]? = some e := by simpa using hi
       have re := hr i e hi
       rw [kp2 i e hi] at re
       have re : R w.heap D (pm 600100 μ) (.aer 600100 (zdd x.names (zno e)) 2 0 0) e.val := re
       generalize e.val = ev at re
       cases re with
       | aer _ _ _ _ _ bn zn mn hμn hin =>
         have hμn := zw5 hμn
         have hgx : gx (za2 (dpO std x)) (mid 600100 (zdd x.names (zno e))) = zde (za2 (dpO std x) 600100) (zdd x.names (zno e)) := yc2 (by unfold zbo; omega) _
         have hmem : zde (za2 (dpO std x) 600100) (zdd x.names (zno e)) = if zdd x.names (zno e) < zbz x.nd then some (.row 68 2 1 (fun _ => ndC std (za4 x.nd (zdd x.names (zno e))))) else none := rfl
         have hlt : zdd x.names (zno e) < zbz x.nd := by
           rcases Nat.lt_or_ge (zdd x.names (zno e)) (zbz x.nd) with h | h
           · exact h
           · rw [hmem, if_neg (by omega)] at hgx
             rw [(hdom _).2 hgx] at hμn; cases hμn
         rw [hmem, if_pos hlt] at hgx
         obtain ⟨_, C', t', fr', hb', hz', hf', ho', hC'⟩ := hobs _ _ _ hgx hμn
         obtain ⟨v2, hv2, _, r3⟩ := hC' 0 0 Nat.one_pos (by omega)
         obtain ⟨s2, rfl, hs2⟩ := r3.inv_str
         refine ⟨bn, s2, by simp, ?_, ?_⟩
         · rw [zec, zak hb']; exact hv2
         · have := congrArg List.length hs2
           have h3 : s2.data.toList.length = s2.size := by simp
           rw [h3] at this
           rw [this]; rfl
     refine zdr (fn := Try.f17) rfl rfl (by kernel_rfl) ((yji w b bm clock es (fun e => ((za4 x.nd (zdd x.names (zno e))).now.length : Int)) (by rw [zec, zak hb]; exact hv1) hbm hks.st hv).mono ?_)
     rintro e w' ⟨rfl, B⟩
     have hs : (es.toList.map fun e => ((za4 x.nd (zdd x.names (zno e))).now.length : Int)).sum = (x.names.map (yds x.nd)).sum := by
       have h1 : _ = _ := ya2 (kp1.map fun k => ((za4 x.nd (zdd x.names k)).now.length : Int))
       rw [List.map_map, List.map_map] at h1
       have h2 : (x.names.map ((fun k => ((za4 x.nd (zdd x.names k)).now.length : Int)) ∘ Prod.fst)) = x.names.map (yds x.nd) := List.map_congr_left fun y hy => by
         show ((za4 x.nd (zdd x.names y.1)).now.length : Int) = _
         rw [zqt hri y hy]; rfl
       rw [h2] at h1
       exact h1
     rw [hs]
     exact ⟨_, D, μ, ze7 hD hdom hobs hinj hown B (fun b h => h) (fun b h => .inl h) (.int _ _)⟩
theorem zrv : zbx Try.prog (zug std) := by
 intro raw ob T hT hp
 unfold zug at hT
 simp only at hT
 repeat' split at hT
 all_goals first | (cases hT; done) | (cases hT; exact ycm _)
def zkl (room : Int) : Dk := ⟨room, [], [], [], [], 0, -1, false⟩
def newO (L : zae) (x : Dk) : List (Nat × Ob) := dpX L 10 11 12 13 x
def tab0 : List (Nat × Ob) := [(600100, .tab 68 2 0 (fun _ => 0) (fun _ _ _ => .dead))]
def ydu (L : zae) : ze1 := (8, fun raw ob => match raw with
 | [.int .i64 n] => match ob 600100 with
   | some (.tab _ _ nn len get) => some ⟨[.int .i64 n], [(600100, .tab 68 2 nn len get)], L (fun n : Int => 0 <= n /\ n <= 65536) n /\ L (fun n : Nat => n = 0) nn, .tup [.ref 10 0, .int .i64 0], newO L (L zkl n)⟩
   | _ => none
 | _ => none)
theorem yhh (n : Int) (hn : 0 <= n /\ n <= 65536) (len : Nat -> Nat) (get : Nat -> Nat -> Nat -> AV) : zaq Try.prog 8 [.int .i64 n] [(600100, .tab 68 2 0 len get)] (.tup [.ref 10 0, .int .i64 0]) (newO std (zkl n)) := by
 refine zad (T := tt) (S := fun L => zay [] []) (lo := noA) (lb := noA) 8 (fn := Try.f8) (xs := fun L => [.int .i64 n]) (rts := fun L => [.ref 10 0, .int .i64 0]) (O := fun L => [(600100, .tab 68 2 0 len get)]) (O1 := fun L => newO L (L zkl n))
   rfl rfl (by kernel_rfl) (by kernel_rfl) (by kernel_rfl) zbk (za6 trivial trivial) (by kernel_rfl) ?_
 intro L P' Q' hL hP hQ
 (cbv; try simp only [syT, true_and, and_true])
 subst hL
 simp only [std]
 refine ⟨fun h => ?_, fun _ => ⟨fun h => ?_, fun _ => ?_⟩⟩
 · have h : n < 0 := of_decide_eq_true h
   omega
 · have h : 65536 < n := of_decide_eq_true h
   omega
 · refine ⟨Nat.zero_le _, ⟨rfl, fun k hk => absurd hk (Nat.not_lt_zero k), fun k i j hk => absurd hk (Nat.not_lt_zero k)⟩, ?_⟩
   repeat' (first | exact Nat.le_refl _ | exact trivial | exact rfl | refine And.intro ?_ ?_ | intro _)
theorem zwg : zbx Try.prog (ydu std) := by
 intro raw ob T hT hp
 unfold ydu at hT
 simp only at hT
 repeat' split at hT
 all_goals first | (cases hT; done) | skip
 cases hT
 obtain ⟨h1, rfl⟩ : (0 <= _ /\ _ <= 65536) /\ _ = 0 := hp
 exact yhh _ h1 _ _
def zf4 (x : Dk) : Dk := if x.down = true then x else if zan x = 0 then { zaj x with sure := x.names, pend := [] } else zaj x
def zmq (x : Dk) : Int := if x.down = true then 15 else zan x
def zux (L : zae) : ze1 := (15, fun raw ob => match raw with
 | [.ref id 0] => match rdS L ob id with
   | some x => some ⟨[.ref 500000 0], dpO L x, True, .int .i64 (L zmq x), dpX L 500000 500001 12 13 (L zf4 x)⟩
   | _ => none
 | _ => none)
theorem yda (x : Dk) : zaq Try.prog 15 [.ref 500000 0] (dpO std x) (.int .i64 (zmq x)) (dpX std 500000 500001 12 13 (zf4 x)) := by
 refine zad (T := tt) (S := fun L => zay [] [yh9 L, zik L, zie]) (lo := noA) (lb := noA) 8 (fn := Try.f15) (xs := fun L => [.ref 500000 0]) (rts := fun L => [.int .i64 (L zmq x)]) (O := fun L => dpO L x) (O1 := fun L => dpX L 500000 500001 12 13 (L zf4 x))
   rfl rfl (by kernel_rfl) (by kernel_rfl) (by kernel_rfl) zbk (za6 trivial ⟨zln, ze4, zht, trivial⟩) (by kernel_rfl) ?_
 intro L P' Q' hL hP hQ
 have hE : ∀ x : Dk, L zqj ⟨L Dk.room x, L Dk.names x, L Dk.sure x, L zg0 (L Dk.pend x), fun q => tnC L (L (L zcu (L Dk.pend x)) q), L zbz (L Dk.nd x), fun k _ => ndC L (L (L za4 (L Dk.nd x)) k), L Dk.steps x, L Dk.fuse x, L Dk.down x⟩ = x := by subst hL; exact zlg
 (cbv; try simp only [syT, true_and, and_true])
 simp only [hE, true_and]
 subst hL
 simp only [std]
 obtain ⟨e1, e2, e3, e4, e5⟩ := zbg x
 refine ⟨Nat.le_refl _, ⟨fun _ _ => trivial, fun _ _ _ _ _ _ => trivial⟩, fun _ _ _ _ => trivial, fun h => ⟨?_, ⟨fun _ _ => trivial, fun _ _ _ _ _ _ => trivial⟩, fun _ _ _ _ => trivial, fun h2 => ?_, fun h2 => ?_⟩, fun h => ?_⟩
 · rw [e1]; exact Nat.le_refl _
 · have hd : ¬ x.down = true := by
     unfold onZ at h
     split at h
     · cases h
     · assumption
   have h2 : zan x = 0 := of_decide_eq_true h2
   have hx : zf4 x = { zaj x with sure := x.names, pend := [] } := by
     unfold zf4; rw [if_neg hd, if_pos h2]
   have hz : zmq x = zan x := if_neg hd
   rw [hx, hz]
   simp only [e1, e2]
   repeat' (first | exact Nat.le_refl _ | exact trivial | exact rfl | refine And.intro ?_ ?_ | intro _)
 · have hd : ¬ x.down = true := by
     unfold onZ at h
     split at h
     · cases h
     · assumption
   have h2 : ¬ zan x = 0 := of_decide_eq_false h2
   have hx : zf4 x = zaj x := by
     unfold zf4; rw [if_neg hd, if_neg h2]
   have hz : zmq x = zan x := if_neg hd
   rw [hx, hz]
   simp only [e1]
   repeat' (first | exact Nat.le_refl _ | exact trivial | exact rfl | refine And.intro ?_ ?_ | intro _)
 · have hd : x.down = true := by
     unfold onZ at h
     split at h
     · assumption
     · cases h
   have hx : zf4 x = x := if_pos hd
   have hz : zmq x = 15 := if_pos hd
   have ho : onZ x = 15 := if_pos hd
   rw [hx, hz, ho]
   repeat' (first | exact Nat.le_refl _ | exact trivial | exact rfl | refine And.intro ?_ ?_ | intro _)
theorem zs4 : zbx Try.prog (zux std) := by
 intro raw ob T hT hp
 unfold zux at hT
 simp only at hT
 repeat' split at hT
 all_goals first | (cases hT; done) | (cases hT; exact yda _)
theorem ya5 {a b : List UInt8} (h : seq a b = true) : a = b := by simpa [seq] using h
theorem zqp {a b : List UInt8} (h : seq a b = false) : a ≠ b := by
 intro e
 subst e
 have e : seq a a = true := by simp [seq]
 rw [e] at h
 cases h
def zok (x : Dk) (fr to_ : List UInt8) : Dk := if thE x fr = 0 /\ zgn to_ = true /\ fr ≠ to_ then (if zan x = 0 then zf2 (zaj x) ⟨2, fr, to_, false, 0⟩ else zaj x) else x
def zu3 (x : Dk) (fr to_ : List UInt8) : Int := if thE x fr = 0 then (if zgn to_ = true then (if fr = to_ then 0 else zan x) else 2) else thE x fr
def zhq (x : Dk) : Prop := x.pend.length <= 1000000
def ydk (L : zae) : ze1 := (19, fun raw ob => match raw with
 | [.ref id 0, .str fr, .str to_] => match rdS L ob id with
   | some x => some ⟨[.ref 500000 0, .str fr, .str to_], dpO L x, L zhq x /\ L zbt to_, .int .i64 (L3 L zu3 x fr to_), dpX L 500000 500001 500002 13 (L3 L zok x fr to_)⟩
   | _ => none
 | _ => none)
theorem ygu (x : Dk) (fr to_ : List UInt8) (hp : zhq x) (hs : zbt to_) : zaq Try.prog 19 [.ref 500000 0, .str fr, .str to_] (dpO std x) (.int .i64 (zu3 x fr to_)) (dpX std 500000 500001 500002 13 (zok x fr to_)) := by
 refine zad (T := tt) (S := fun L => zay [zkm L] [zhb L, zik L, zg9 L]) (lo := noA) (lb := noA) 8 (fn := Try.f19) (xs := fun L => [.ref 500000 0, .str fr, .str to_]) (rts := fun L => [.int .i64 (L3 L zu3 x fr to_)]) (O := fun L => dpO L x) (O1 := fun L => dpX L 500000 500001 500002 13 (L3 L zok x fr to_))
   rfl rfl (by kernel_rfl) (by kernel_rfl) (by kernel_rfl) zbk (za6 ⟨zgm, trivial⟩ ⟨zeh, ze4, zf1, trivial⟩) (by kernel_rfl) ?_
 intro L P' Q' hL hP hQ
 have hE : ∀ x : Dk, L zqj ⟨L Dk.room x, L Dk.names x, L Dk.sure x, L zg0 (L Dk.pend x), fun q => tnC L (L (L zcu (L Dk.pend x)) q), L zbz (L Dk.nd x), fun k _ => ndC L (L (L za4 (L Dk.nd x)) k), L Dk.steps x, L Dk.fuse x, L Dk.down x⟩ = x := by subst hL; exact zlg
 (cbv; try simp only [syT, true_and, and_true])
 simp only [hE, true_and]
 subst hL
 simp only [std]
 obtain ⟨e1, e2, e3, e4, e5⟩ := zbg x
 refine ⟨Nat.le_refl _, ⟨fun _ _ => trivial, fun _ _ _ _ _ _ => trivial⟩, fun _ _ _ _ => trivial, fun h => ⟨hs, fun hn => ⟨fun _ => ?_, fun h2 => absurd h2 (by decide)⟩, fun hn => ⟨fun h3 => absurd (of_decide_eq_true h : thE x fr = 0) (by simpa [ine] using h3), fun _ => ⟨fun hq => ?_, fun hq => ⟨?_, ⟨fun _ _ => trivial, fun _ _ _ _ _ _ => trivial⟩, fun _ _ _ _ => trivial, fun h2 => ⟨?_, ⟨fun _ _ => trivial, fun _ _ _ _ _ _ => trivial⟩, fun _ _ _ _ => trivial, ⟨fun e => absurd e (by decide), ?_⟩, ?_⟩, fun h2 => ?_⟩⟩⟩⟩, fun h => ⟨fun _ => ?_, fun h3 => absurd (show thE x fr = 0 by simpa [ine] using h3) (of_decide_eq_false h : ¬ thE x fr = 0)⟩⟩
 · have h : thE x fr = 0 := of_decide_eq_true h
   have hn : ¬ zgn to_ = true := by
     intro e
     rw [e] at hn
     cases hn
   have hx : zok x fr to_ = x := if_neg (fun e => hn e.2.1)
   have hz : zu3 x fr to_ = 2 := by
     unfold zu3; rw [if_pos h, if_neg hn]
   rw [hx, hz]
   repeat' (first | exact Nat.le_refl _ | exact trivial | exact rfl | refine And.intro ?_ ?_ | intro _)
 · have h : thE x fr = 0 := of_decide_eq_true h
   have hn : zgn to_ = true := by
     cases e : zgn to_
     · rw [e] at hn; cases hn
     · rfl
   have hq : fr = to_ := ya5 hq
   have hx : zok x fr to_ = x := if_neg (fun e => e.2.2 hq)
   have hz : zu3 x fr to_ = 0 := by
     unfold zu3; rw [if_pos h, if_pos hn, if_pos hq]
   rw [hx, hz, h]
   repeat' (first | exact Nat.le_refl _ | exact trivial | exact rfl | refine And.intro ?_ ?_ | intro _)
 · rw [e1]; exact Nat.le_refl _
 · exact Nat.le_refl _
 · show (zaj x).pend.length <= 1000000
   rw [e4]; exact hp
 · have h : thE x fr = 0 := of_decide_eq_true h
   have hn : zgn to_ = true := by
     cases e : zgn to_
     · rw [e] at hn; cases hn
     · rfl
   have hq : fr ≠ to_ := zqp hq
   have h2 : zan x = 0 := of_decide_eq_true h2
   have hx : zok x fr to_ = zf2 (zaj x) ⟨2, fr, to_, false, 0⟩ := by
     unfold zok; rw [if_pos ⟨h, hn, hq⟩, if_pos h2]
   have hz : zu3 x fr to_ = zan x := by
     unfold zu3; rw [if_pos h, if_pos hn, if_neg hq]
   have hl : ∀ t, (zf2 (zaj x) t).nd = x.nd := fun t => e1
   rw [hx, hz]
   simp only [hl, e1]
   repeat' (first | exact Nat.le_refl _ | exact trivial | exact rfl | refine And.intro ?_ ?_ | intro _)
 · have h : thE x fr = 0 := of_decide_eq_true h
   have hn : zgn to_ = true := by
     cases e : zgn to_
     · rw [e] at hn; cases hn
     · rfl
   have hq : fr ≠ to_ := zqp hq
   have h2 : ¬ zan x = 0 := of_decide_eq_false h2
   have hx : zok x fr to_ = zaj x := by
     unfold zok; rw [if_pos ⟨h, hn, hq⟩, if_neg h2]
   have hz : zu3 x fr to_ = zan x := by
     unfold zu3; rw [if_pos h, if_pos hn, if_neg hq]
   rw [hx, hz]
   simp only [e1]
   repeat' (first | exact Nat.le_refl _ | exact trivial | exact rfl | refine And.intro ?_ ?_ | intro _)
 · have h : ¬ thE x fr = 0 := of_decide_eq_false h
   have hx : zok x fr to_ = x := if_neg (fun e => h e.1)
   have hz : zu3 x fr to_ = thE x fr := if_neg h
   rw [hx, hz]
   repeat' (first | exact Nat.le_refl _ | exact trivial | exact rfl | refine And.intro ?_ ?_ | intro _)
theorem zvx : zbx Try.prog (ydk std) := by
 intro raw ob T hT hp
 unfold ydk at hT
 simp only at hT
 repeat' split at hT
 all_goals first | (cases hT; done) | (cases hT; exact ygu _ _ _ hp.1 hp.2)
def zqi (x : Dk) (s : List UInt8) : Dk := if thE x s = 0 then (if zan x = 0 then zf2 (zaj x) ⟨3, s, [], false, 0⟩ else zaj x) else x
def ydl (L : zae) : ze1 := (20, fun raw ob => match raw with
 | [.ref id 0, .str s] => match rdS L ob id with
   | some x => some ⟨[.ref 500000 0, .str s], dpO L x, L zhq x, .int .i64 (L2 L zgb x s), dpX L 500000 500001 500002 13 (L2 L zqi x s)⟩
   | _ => none
 | _ => none)
theorem ygx (x : Dk) (s : List UInt8) (hp : zhq x) : zaq Try.prog 20 [.ref 500000 0, .str s] (dpO std x) (.int .i64 (zgb x s)) (dpX std 500000 500001 500002 13 (zqi x s)) := by
 refine zad (T := tt) (S := fun L => zay [] [zhb L, zik L, zg9 L]) (lo := noA) (lb := noA) 8 (fn := Try.f20) (xs := fun L => [.ref 500000 0, .str s]) (rts := fun L => [.int .i64 (L2 L zgb x s)]) (O := fun L => dpO L x) (O1 := fun L => dpX L 500000 500001 500002 13 (L2 L zqi x s))
   rfl rfl (by kernel_rfl) (by kernel_rfl) (by kernel_rfl) zbk (za6 trivial ⟨zeh, ze4, zf1, trivial⟩) (by kernel_rfl) ?_
 intro L P' Q' hL hP hQ
 have hE : ∀ x : Dk, L zqj ⟨L Dk.room x, L Dk.names x, L Dk.sure x, L zg0 (L Dk.pend x), fun q => tnC L (L (L zcu (L Dk.pend x)) q), L zbz (L Dk.nd x), fun k _ => ndC L (L (L za4 (L Dk.nd x)) k), L Dk.steps x, L Dk.fuse x, L Dk.down x⟩ = x := by subst hL; exact zlg
 (cbv; try simp only [syT, true_and, and_true])
 simp only [hE, true_and]
 subst hL
 simp only [std]
 obtain ⟨e1, e2, e3, e4, e5⟩ := zbg x
 refine ⟨Nat.le_refl _, ⟨fun _ _ => trivial, fun _ _ _ _ _ _ => trivial⟩, fun _ _ _ _ => trivial, fun h => ⟨?_, ⟨fun _ _ => trivial, fun _ _ _ _ _ _ => trivial⟩, fun _ _ _ _ => trivial, fun h2 => ⟨?_, ⟨fun _ _ => trivial, fun _ _ _ _ _ _ => trivial⟩, fun _ _ _ _ => trivial, ⟨fun e => absurd e (by decide), ?_⟩, ?_⟩, fun h2 => ?_⟩, fun h => ?_⟩
 · rw [e1]; exact Nat.le_refl _
 · exact Nat.le_refl _
 · show (zaj x).pend.length <= 1000000
   rw [e4]; exact hp
 · have h : thE x s = 0 := of_decide_eq_true h
   have h2 : zan x = 0 := of_decide_eq_true h2
   have hx : zqi x s = zf2 (zaj x) ⟨3, s, [], false, 0⟩ := by
     unfold zqi; rw [if_pos h, if_pos h2]
   have hz : zgb x s = zan x := if_pos h
   have hl : ∀ t, (zf2 (zaj x) t).nd = x.nd := fun t => e1
   rw [hx, hz]
   simp only [hl, e1]
   repeat' (first | exact Nat.le_refl _ | exact trivial | exact rfl | refine And.intro ?_ ?_ | intro _)
 · have h : thE x s = 0 := of_decide_eq_true h
   have h2 : ¬ zan x = 0 := of_decide_eq_false h2
   have hx : zqi x s = zaj x := by
     unfold zqi; rw [if_pos h, if_neg h2]
   have hz : zgb x s = zan x := if_pos h
   rw [hx, hz]
   simp only [e1]
   repeat' (first | exact Nat.le_refl _ | exact trivial | exact rfl | refine And.intro ?_ ?_ | intro _)
 · have h : ¬ thE x s = 0 := of_decide_eq_false h
   have hx : zqi x s = x := if_neg h
   have hz : zgb x s = thE x s := if_neg h
   rw [hx, hz]
   repeat' (first | exact Nat.le_refl _ | exact trivial | exact rfl | refine And.intro ?_ ?_ | intro _)
theorem zvy : zbx Try.prog (ydl std) := by
 intro raw ob T hT hp
 unfold ydl at hT
 simp only at hT
 repeat' split at hT
 all_goals first | (cases hT; done) | (cases hT; exact ygx _ _ hp)
def yic (a : List UInt8) : Prop := a.length <= 100000
def zos (L : zae) : zom := (45, fun xs => match xs with | [.str a] => some (L yic a, .str a) | _ => none)
def zuz (L : zae) : zom := (32, fun xs => match xs with | [.str a] => some (L yic a, .str a) | _ => none)
theorem zs5 : ybj Try.prog (zos std) := by
 intro xs p r h hp
 dsimp only [zos] at h |-
 split at h <;> cases h
 try simp only [L2, L3, std] at hp |-
 rename_i a
 have h1 : a.length <= 100000 := hp
 exact zjw (fn := Try.f45) rfl rfl (by kernel_rfl) (yih (zmn _)) (fun h D => ygh h D zap _) (fun w => Try.stringslite_Clone ⟨a.toArray⟩ w (by show a.toArray.size <= _; rw [List.size_toArray]; omega))
theorem zv0 : ybj Try.prog (zuz std) := by
 intro xs p r h hp
 dsimp only [zuz] at h |-
 split at h <;> cases h
 try simp only [L2, L3, std] at hp |-
 rename_i a
 have h1 : yic a := hp
 refine zfw (T := tt) (S := fun L => ycu [zos L]) (lo := noA) (lb := noA) 5 (fn := Try.f32) rfl rfl (by kernel_rfl) (by kernel_rfl) rfl zbk (zqb ⟨zs5, trivial⟩) (by kernel_rfl) ?_
 (intro L P1 Q1 hL hP hQ; cbv; subst hL; simp only [L2, L3, std, syT]; subst hQ)
 (simp only [syS, reduceCtorEq, Int.reduceToNat, Int.reduceAdd, Int.reduceSub])
 exact h1
def oldT (x : Dk) (s : List UInt8) : List UInt8 := (za4 x.nd (zdd x.names s)).now
def zk1 (x : Dk) (s t : List UInt8) : Int := if zc5 x.names s = true then zu7 .i64 (ze3 .i64 (slen t) (zmm x)) (slen (oldT x s)) else ze3 .i64 (slen t) (zmm x)
def zit (x : Dk) (s t : List UInt8) : Int :=
 if x.down = true then 15 else if zgn s = true then (if zc5 x.names s = false /\ 16 <= mlen x.names then 17 else if x.room < zk1 x s t then 16 else 0) else 2
def zkg (x : Dk) (k : Nat) (t : List UInt8) : Dk := { x with nd := x.nd.set k ⟨t, (za4 x.nd k).sure⟩ }
def zj1 (x : Dk) : Dk := { x with nd := x.nd ++ [ndD] }
def zfy (x : Dk) (s t : List UInt8) : Dk :=
 if zit x s t = 0 then (if zan x = 0 then (if zc5 x.names s = true then zkg (zaj x) (zdd x.names s) t else zkg (zf2 (zj1 (zaj x)) ⟨1, [], s, true, x.nd.length⟩) x.nd.length t) else zaj x) else x
def zq3 (x : Dk) (s t : List UInt8) : Int := if zit x s t = 0 then zan x else zit x s t
theorem zwh (l : List Nd) (q : Nat) (v : Nd) : za4 (l ++ [v]) q = if q = l.length then v else za4 l q := by
 unfold za4
 rw [List.getD_eq_getElem?_getD, List.getD_eq_getElem?_getD]
 by_cases h : q < l.length
 · rw [List.getElem?_append_left h, if_neg (by omega)]
 · rw [List.getElem?_append_right (by omega)]
   by_cases h2 : q = l.length
   · subst h2; simp
   · rw [if_neg h2, List.getElem?_eq_none (by simp; omega), List.getElem?_eq_none (by omega)]
theorem zlo (l : List Nd) (q j : Nat) (hj : j < 2) : zcd std (za5 q (zbz l)) (zbf .dead (AV.agg [AV.str [], AV.str []]).cells j) (ndC std (za4 l q) j) = ndC std (za4 (l ++ [ndD]) q) j := by
 rw [zwh]
 by_cases h : q = l.length
 · subst h
   rw [if_pos rfl, show za5 l.length (zbz l) = true from za3 _]
   match j, hj with
   | 0, _ => rfl
   | 1, _ => rfl
 · rw [if_neg h, show za5 q (zbz l) = false from za9 h]
   match j, hj with
   | 0, _ => rfl
   | 1, _ => rfl
theorem ygz (x : Dk) : zqj ⟨x.room, x.names, x.sure, zg0 x.pend, fun q => tnC std (zcu x.pend q), Nat.add (zbz x.nd) 1, fun k _ j => zcd std (za5 k (zbz x.nd)) (zbf .dead (AV.agg [AV.str [], AV.str []]).cells j) (ndC std (za4 x.nd k) j), x.steps, x.fuse, x.down⟩ = zj1 x := by
 refine Eq.trans ?_ (zlg (zj1 x))
 have e : Nat.add (zbz x.nd) 1 = zbz (zj1 x).nd := by
   show x.nd.length + 1 = (x.nd ++ [ndD]).length
   simp
 rw [e]
 unfold zqj
 congr 1
 refine List.map_congr_left fun k hk => ?_
 show (⟨_, _⟩ : Nd) = ⟨_, _⟩
 congr 1
 · exact congrArg AV.toS (zlo x.nd k 0 (by decide))
 · exact congrArg AV.toS (zlo x.nd k 1 (by decide))
theorem yha {x : Dk} (h : ine (onZ x) 0 = true) : x.down = true := by
 unfold onZ at h
 split at h
 · assumption
 · cases h
theorem zn9 {x : Dk} (h : ine (onZ x) 0 = false) : x.down = false := by
 unfold onZ at h
 split at h
 · cases h
 · rename_i h1
   simpa using h1
theorem ya9 {b : Bool} (h : (!b) = true) : b = false := by simpa using h
theorem zk2 {b : Bool} (h : (!b) = false) : b = true := by simpa using h
def yci (L : zae) : ze1 := (10, fun raw ob => match raw with
 | [.ref id 0, .str s, .str t] => match rdS L ob id with
   | some x => some ⟨[.ref 500000 0, .str s, .str t], dpO L x, L zhq x /\ L zbt s /\ L yic t, .int .i64 (L3 L zq3 x s t), dpX L 500000 500001 500002 13 (L3 L zfy x s t)⟩
   | _ => none
 | _ => none)
theorem yg6 (x : Dk) (s t : List UInt8) (hp : zhq x) (hs : zbt s) (ht : yic t) : zaq Try.prog 10 [.ref 500000 0, .str s, .str t] (dpO std x) (.int .i64 (zq3 x s t)) (dpX std 500000 500001 500002 13 (zfy x s t)) := by
 refine zad (T := tt) (S := fun L => zay [zkm L, zuz L] [yh9 L, zik L, zg9 L, zug L]) (lo := noA) (lb := noA) 8 (fn := Try.f10) (xs := fun L => [.ref 500000 0, .str s, .str t]) (rts := fun L => [.int .i64 (L3 L zq3 x s t)]) (O := fun L => dpO L x) (O1 := fun L => dpX L 500000 500001 500002 13 (L3 L zfy x s t))
   rfl rfl (by kernel_rfl) (by kernel_rfl) (by kernel_rfl) zbk (za6 ⟨zgm, zv0, trivial⟩ ⟨zln, ze4, zf1, zrv, trivial⟩) (by kernel_rfl) ?_
 intro L P' Q' hL hP hQ
 have hE : ∀ x : Dk, L zqj ⟨L Dk.room x, L Dk.names x, L Dk.sure x, L zg0 (L Dk.pend x), fun q => tnC L (L (L zcu (L Dk.pend x)) q), L zbz (L Dk.nd x), fun k _ => ndC L (L (L za4 (L Dk.nd x)) k), L Dk.steps x, L Dk.fuse x, L Dk.down x⟩ = x := by subst hL; exact zlg
 (cbv; try simp only [syT, true_and, and_true])
 have hN : ∀ x : Dk, L zqj ⟨L Dk.room x, L Dk.names x, L Dk.sure x, L zg0 (L Dk.pend x), fun q => tnC L (L (L zcu (L Dk.pend x)) q), L (L Nat.add (L zbz (L Dk.nd x))) 1, fun k _ j => zcd L (L2 L za5 k (L zbz (L Dk.nd x))) (zbf .dead (AV.agg [AV.str [], AV.str []]).cells j) (ndC L (L (L za4 (L Dk.nd x)) k) j), L Dk.steps x, L Dk.fuse x, L Dk.down x⟩ = L zj1 x := by subst hL; exact ygz
 simp only [hE, hN, true_and]
 subst hL
 simp only [std]
 obtain ⟨e1, e2, e3, e4, e5⟩ := zbg x
 refine ⟨Nat.le_refl _, ⟨fun _ _ => trivial, fun _ _ _ _ _ _ => trivial⟩, fun _ _ _ _ => trivial, fun h => ?_, fun h => ⟨hs, fun h2 => ?_, fun h2 => ⟨fun h3 => ⟨fun h4 => ?_, fun h4 => ⟨Nat.le_refl _, ⟨fun _ _ => trivial, fun _ _ _ _ _ _ => trivial⟩, fun _ _ _ _ => trivial, fun h5 => ?_, fun h5 => ?_⟩⟩, fun h3 => ⟨Nat.le_refl _, ⟨fun _ _ => trivial, fun _ _ _ _ _ _ => trivial⟩, fun _ _ _ _ => trivial, fun h5 => ?_, fun h5 => ?_⟩⟩⟩⟩
 · have hz0 : zit x s t = 15 := if_pos (yha h)
   have hz1 : onZ x = 15 := if_pos (yha h)
   have hx : zfy x s t = x := if_neg (by rw [hz0]; decide)
   have hz : zq3 x s t = 15 := (if_neg (by rw [hz0]; decide)).trans hz0
   rw [hx, hz]
   rw [hz1]
   repeat' (first | exact Nat.le_refl _ | exact trivial | exact rfl | refine And.intro ?_ ?_ | intro _)
 · have hz0 : zit x s t = 2 := by
     unfold zit; rw [if_neg (by rw [zn9 h]; decide), if_neg (by rw [ya9 h2]; decide)]
   have hx : zfy x s t = x := if_neg (by rw [hz0]; decide)
   have hz : zq3 x s t = 2 := (if_neg (by rw [hz0]; decide)).trans hz0
   rw [hx, hz]
   repeat' (first | exact Nat.le_refl _ | exact trivial | exact rfl | refine And.intro ?_ ?_ | intro _)
 · have h4 : 16 <= mlen x.names := by
     have h4 : (16 : Int) <= (mlen x.names : Int) := of_decide_eq_true h4
     omega
   have hz0 : zit x s t = 17 := by
     unfold zit; rw [if_neg (by rw [zn9 h]; decide), if_pos (zk2 h2), if_pos ⟨ya9 h3, h4⟩]
   have hx : zfy x s t = x := if_neg (by rw [hz0]; decide)
   have hz : zq3 x s t = 17 := (if_neg (by rw [hz0]; decide)).trans hz0
   rw [hx, hz]
   repeat' (first | exact Nat.le_refl _ | exact trivial | exact rfl | refine And.intro ?_ ?_ | intro _)
 · exact absurd h5 (by rw [ya9 h3]; decide)
 · have h4 : ¬ 16 <= mlen x.names := by
     have h4 : ¬ (16 : Int) <= (mlen x.names : Int) := of_decide_eq_false h4
     omega
   have hw : zk1 x s t = ze3 .i64 (slen t) (zmm x) := if_neg (by rw [h5]; decide)
   refine ⟨fun h6 => ?_, fun h6 => ⟨?_, ⟨fun _ _ => trivial, fun _ _ _ _ _ _ => trivial⟩, fun _ _ _ _ => trivial, fun h7 => ?_, fun h7 => ⟨fun h8 => ?_, fun h8 => absurd (zk2 h8) (by rw [h5]; decide)⟩⟩⟩
   · have h6 : x.room < zk1 x s t := by
       rw [hw]; exact of_decide_eq_true h6
     have hz0 : zit x s t = 16 := by
       unfold zit; rw [if_neg (by rw [zn9 h]; decide), if_pos (zk2 h2), if_neg (fun e => h4 e.2), if_pos h6]
     have hx : zfy x s t = x := if_neg (by rw [hz0]; decide)
     have hz : zq3 x s t = 16 := (if_neg (by rw [hz0]; decide)).trans hz0
     rw [hx, hz]
     repeat' (first | exact Nat.le_refl _ | exact trivial | exact rfl | refine And.intro ?_ ?_ | intro _)
   · rw [e1]; exact Nat.le_refl _
   · have h6 : ¬ x.room < zk1 x s t := by
       rw [hw]; exact of_decide_eq_false h6
     have hz0 : zit x s t = 0 := by
       unfold zit; rw [if_neg (by rw [zn9 h]; decide), if_pos (zk2 h2), if_neg (fun e => h4 e.2), if_neg h6]
     have h7 : ¬ zan x = 0 := by simpa [ine] using h7
     have hx : zfy x s t = zaj x := by
       unfold zfy; rw [if_pos hz0, if_neg h7]
     have hz : zq3 x s t = zan x := if_pos hz0
     rw [hx, hz]
     simp only [e1]
     repeat' (first | exact Nat.le_refl _ | exact trivial | exact rfl | refine And.intro ?_ ?_ | intro _)
   · have h6 : ¬ x.room < zk1 x s t := by
       rw [hw]; exact of_decide_eq_false h6
     have hz0 : zit x s t = 0 := by
       unfold zit; rw [if_neg (by rw [zn9 h]; decide), if_pos (zk2 h2), if_neg (fun e => h4 e.2), if_neg h6]
     have h7 : zan x = 0 := by simpa [ine] using h7
     have hx : zfy x s t = zkg (zf2 (zj1 (zaj x)) ⟨1, [], s, true, x.nd.length⟩) x.nd.length t := by
       unfold zfy; rw [if_pos hz0, if_pos h7, if_neg (by rw [h5]; decide)]
     have hz : zq3 x s t = zan x := if_pos hz0
     rw [hx, hz]
     have hk : zbz (zaj x).nd = x.nd.length := congrArg List.length e1
     have hk2 : zbz x.nd = x.nd.length := rfl
     have hk3 : zbz (zj1 (zaj x)).nd = x.nd.length + 1 := by
       show ((zaj x).nd ++ [ndD]).length = _
       rw [e1]; simp
     have hk4 : ∀ u, zbz (zf2 (zj1 (zaj x)) u).nd = x.nd.length + 1 := fun u => hk3
     have hk5 : ∀ u, zbz (zkg (zf2 (zj1 (zaj x)) u) x.nd.length t).nd = x.nd.length + 1 := fun u => List.length_set.trans hk3
     simp only [hk, hk2, hk3, hk4, hk5]
     refine ⟨Nat.le_refl _, ⟨trivial, fun q hq => ?_, fun q i j hq hi hj => ?_⟩, ⟨rfl, fun _ _ _ _ => rfl⟩, rfl, rfl, rfl, rfl, rfl, rfl, rfl, ⟨fun _ => rfl, ?_⟩, ht, Nat.le_refl _, Nat.le_refl _, Nat.le_refl _, Nat.le_succ _, Nat.le_succ _, Nat.le_succ _, Nat.le_succ _, ⟨trivial, fun _ _ => trivial, fun q i j hq hi hj => ?_⟩, ⟨rfl, fun _ _ _ _ => rfl⟩, rfl, rfl, rfl, rfl, rfl, rfl, rfl, trivial⟩
     · show zzh (za5 q x.nd.length) 1 1 = 1
       cases za5 q x.nd.length <;> rfl
     · have := zlo (zaj x).nd q j hj
       rw [hk] at this
       exact this
     · show (zaj x).pend.length <= 1000000
       rw [e4]; exact hp
     · obtain rfl : i = 0 := by omega
       exact ybs (zj1 (zaj x)).nd x.nd.length t (by rw [<- hk3] at hq; exact hq) hj
 · have hw : zk1 x s t = zu7 .i64 (ze3 .i64 (slen t) (zmm x)) (slen (oldT x s)) := if_pos h5
   refine ⟨h5, fun h6 => ?_, fun h6 => ⟨?_, ⟨fun _ _ => trivial, fun _ _ _ _ _ _ => trivial⟩, fun _ _ _ _ => trivial, fun h7 => ?_, fun h7 => ⟨fun h8 => absurd (ya9 h8) (by rw [h5]; decide), fun h8 => ?_⟩⟩⟩
   · have h6 : x.room < zk1 x s t := by
       rw [hw]; exact of_decide_eq_true h6
     have hz0 : zit x s t = 16 := by
       unfold zit; rw [if_neg (by rw [zn9 h]; decide), if_pos (zk2 h2), if_neg (fun e => by rw [h5] at e; cases e.1), if_pos h6]
     have hx : zfy x s t = x := if_neg (by rw [hz0]; decide)
     have hz : zq3 x s t = 16 := (if_neg (by rw [hz0]; decide)).trans hz0
     rw [hx, hz]
     repeat' (first | exact Nat.le_refl _ | exact trivial | exact rfl | refine And.intro ?_ ?_ | intro _)
   · rw [e1]; exact Nat.le_refl _
   · have h6 : ¬ x.room < zk1 x s t := by
       rw [hw]; exact of_decide_eq_false h6
     have hz0 : zit x s t = 0 := by
       unfold zit; rw [if_neg (by rw [zn9 h]; decide), if_pos (zk2 h2), if_neg (fun e => by rw [h5] at e; cases e.1), if_neg h6]
     have h7 : ¬ zan x = 0 := by simpa [ine] using h7
     have hx : zfy x s t = zaj x := by
       unfold zfy; rw [if_pos hz0, if_neg h7]
     have hz : zq3 x s t = zan x := if_pos hz0
     rw [hx, hz]
     simp only [e1]
     repeat' (first | exact Nat.le_refl _ | exact trivial | exact rfl | refine And.intro ?_ ?_ | intro _)
   · have h6 : ¬ x.room < zk1 x s t := by
       rw [hw]; exact of_decide_eq_false h6
     have hz0 : zit x s t = 0 := by
       unfold zit; rw [if_neg (by rw [zn9 h]; decide), if_pos (zk2 h2), if_neg (fun e => by rw [h5] at e; cases e.1), if_neg h6]
     have h7 : zan x = 0 := by simpa [ine] using h7
     have hx : zfy x s t = zkg (zaj x) (zdd x.names s) t := by
       unfold zfy; rw [if_pos hz0, if_pos h7, if_pos h5]
     have hz : zq3 x s t = zan x := if_pos hz0
     rw [hx, hz]
     have hk5 : zbz (zkg (zaj x) (zdd x.names s) t).nd = zbz x.nd := List.length_set.trans (congrArg List.length e1)
     simp only [hk5, e1]
     refine ⟨ht, h5, Nat.le_refl _, Nat.le_refl _, Nat.le_refl _, Nat.le_refl _, Nat.le_refl _, ⟨trivial, fun _ _ => trivial, fun q i j hq hi hj => ?_⟩, ⟨rfl, fun _ _ _ _ => rfl⟩, rfl, rfl, rfl, rfl, rfl, rfl, rfl, trivial⟩
     obtain rfl : i = 0 := by omega
     have := ybs (zaj x).nd (zdd x.names s) t (q := q) (by rw [e1]; exact hq) hj
     rw [e1] at this
     refine this.trans ?_
     show ndC std (za4 (x.nd.set _ _) q) j = ndC std (za4 ((zaj x).nd.set _ ⟨t, (za4 (zaj x).nd _).sure⟩) q) j
     rw [e1]
 · exact absurd h5 (by rw [zk2 h3]; decide)
theorem zu8 : zbx Try.prog (yci std) := by
 intro raw ob T hT hp
 unfold yci at hT
 simp only at hT
 repeat' split at hT
 all_goals first | (cases hT; done) | (cases hT; exact yg6 _ _ _ hp.1 hp.2.1 hp.2.2)
structure Nq where
 nn : Nat
 gn : Nat -> Nat -> Nat -> AV
def yfr (q : Nq) : List Nd := (List.range q.nn).map (fun k => yix (q.gn k 0))
theorem yjz (l : List Nd) : yfr ⟨zbz l, fun k _ => ndC std (za4 l k)⟩ = l := yh0 l
def yfx (m k : Int) : Bool := ieq (yca .u64 (ycf .u64 m k) 1) 1
def zgz (x : Nd) (m : Int) : Nat := if yfx m 63 = true then x.now.length else x.sure.length
def zm3 (x : Nd) (m : Int) (i : Nat) : List UInt8 := if yfx m (((i / 64 % 63 : Nat)) : Int) = true then x.now else x.sure
def kAt (x : Nd) (m : Int) (i : Nat) : Int := if i < (zm3 x m i).length then zoi (zm3 x m i) i else 0
def zxd (x : Nd) (m : Int) (i q : Nat) : Int := if q < i then kAt x m q else 0
def kF (x : Nd) (m : Int) : List UInt8 := zb2 (zgz x m) (kAt x m)
def znb (x : Nd) : Prop := x.now.length <= 100000 /\ x.sure.length <= 100000
def ndAt (l : List Nd) (k : Nat) : Prop := znb (za4 l k)
def yav (l : List Nd) (k : Nat) (m : Int) : Nat := zgz (za4 l k) m
def yhu (l : List Nd) (k : Nat) (m : Int) (i : Nat) : List UInt8 := zm3 (za4 l k) m i
def kAtL (l : List Nd) (k : Nat) (m : Int) (i q : Nat) : Int := zxd (za4 l k) m i q
def kFL (l : List Nd) (k : Nat) (m : Int) : List UInt8 := kF (za4 l k) m
def isT (b : Bool) : Prop := b = true
def kptA (L : zae) (l : List Nd) (k : Nat) (m : Int) : Nat -> St -> Option Ann := fun id st => match id with
 | 0 => some ⟨Nat, fun i => [(27, .int .i64 (L zab i))], fun i => [(24, .row 5 1 (L3 L yav l k m) (fun q _ => .int .u8 (L (L (L3 L kAtL l k m) i) q)))], [0, 1, 6, 26], [600100],
     fun i => L2 L Nat.le i (L3 L yav l k m), fun i => L2 L Nat.sub (L3 L yav l k m) i⟩
 | 1000017 => some ⟨Nat, fun _ => [(5, .int .i64 (L zab (L3 L yav l k m)))], fun _ => [], [0, 1], [600100], fun _ => True, fun _ => 0⟩
 | 1000040 => zub st 27 fun i => some ⟨Nat, fun _ => [(8, .str (L (L3 L yhu l k m) (L Int.toNat i)))], fun _ => [], [0, 1, 6, 7, 26, 27], [24, 600100], fun _ => True, fun _ => 0⟩
 | _ => none
theorem zjd {x : Nd} (h : znb x) (m : Int) : zgz x m <= 100000 := by
 unfold zgz
 split
 · exact h.1
 · exact h.2
theorem zao (n : Nat) : (zab n).toNat = n := by unfold zab; omega
theorem ygm {i : Nat} (h : i <= 100000) : Int.tmod (zz1 .i64 (zab i) 64) 63 = ((i / 64 % 63 : Nat) : Int) := by
 have e1 : (zab i).tdiv 64 = ((i / 64 : Nat) : Int) := by
   unfold zab
   exact (Int.ofNat_tdiv i 64).symm
 have e3 : zz1 .i64 (zab i) 64 = ((i / 64 : Nat) : Int) := by
   unfold zz1
   rw [zhx, e1]
   have e2 : ((i / 64 : Nat) : Int) + 9223372036854775808 < 18446744073709551616 := by omega
   rw [Int.emod_eq_of_lt (by omega) e2]
   omega
 rw [e3]
 exact (Int.ofNat_tmod _ _).symm
theorem zd2 (i : Nat) (h : i <= 1000000) : ze3 .i64 (zab i) 1 = zab (i + 1) := by
 unfold ze3 zab
 rw [zhx]
 omega
def zxb (L : zae) : ze1 := (38, fun raw ob => match raw with
 | [v, .int .u64 m] => match ydn v, zwe ob with
   | some (c, k), some (nn, gn) => some ⟨[.aep c 600100 k 2 0 0, .int .u64 m], [(600100, ndO L (L yfr ⟨nn, gn⟩))], L isT c /\ L2 L ndAt (L yfr ⟨nn, gn⟩) k, .str (L3 L kFL (L yfr ⟨nn, gn⟩) k m), [(600100, ndO L (L yfr ⟨nn, gn⟩))]⟩
   | _, _ => none
 | _ => none)
theorem yea (l : List Nd) (c : Bool) (k : Nat) (m : Int) (hc : c = true) (hn : ndAt l k) : zaq Try.prog 38 [.aep c 600100 k 2 0 0, .int .u64 m] [(600100, ndO std l)] (.str (kFL l k m)) [(600100, ndO std l)] := by
 refine zad (T := tt) (S := fun L => zay [] []) (lo := fun L => kptA L l k m) (lb := noA) 8 (fn := Try.f38) (xs := fun L => [.aep c 600100 k 2 0 0, .int .u64 m]) (rts := fun L => [.str (L3 L kFL l k m)]) (O := fun L => [(600100, ndO L l)]) (O1 := fun L => [(600100, ndO L l)])
   rfl rfl (by kernel_rfl) (by kernel_rfl) (by kernel_rfl) zbk (za6 trivial trivial) (by kernel_rfl) ?_
 intro L P' Q' hL hP hQ
 (cbv; try simp only [syT, true_and, and_true])
 have h63 : L (L ile 0) 63 = true := by subst hL; rfl
 refine ⟨hc, h63, ⟨fun h1 => ⟨hc, 0, ?_⟩, fun h1 => ⟨0, ?_⟩⟩, fun y hy => ?_⟩
 · (cbv; try simp only [syT, true_and, and_true])
   subst hL
   refine ⟨Nat.le_refl _, ⟨fun _ _ => trivial, fun _ _ _ _ _ _ => trivial⟩, ?_⟩
   have h1 : yfx m 63 = true := h1
   show slen (za4 l k).now = zab (zgz (za4 l k) m)
   unfold zgz; rw [if_pos h1]; rfl
 · (cbv; try simp only [syT, true_and, and_true])
   subst hL
   refine ⟨Nat.le_refl _, ⟨fun _ _ => trivial, fun _ _ _ _ _ _ => trivial⟩, ?_⟩
   have h1 : yfx m 63 = false := h1
   show slen (za4 l k).sure = zab (zgz (za4 l k) m)
   unfold zgz; rw [if_neg (by rw [h1]; decide)]; rfl
 · (cbv; try simp only [syT, true_and, and_true])
   refine ⟨?_, ⟨0, ?_⟩, fun i hi => ?_⟩
   · subst hL
     have := zjd hn m
     show ydz 1 (zab (zgz (za4 l k) m)) (zab (zgz (za4 l k) m)) = true
     rw [zqw]
     unfold zab
     omega
   · (cbv; try simp only [syT, true_and, and_true])
     subst hL
     refine ⟨Nat.le_refl _, ⟨fun _ _ => trivial, fun _ _ _ _ _ _ => trivial⟩, ⟨zao _, fun q j hq hj => ?_⟩, rfl, Nat.zero_le _⟩
     obtain rfl : j = 0 := by omega
     rfl
   · (cbv; try simp only [syT, true_and, and_true])
     have hsh : L (L Int.tmod (L (L (zz1 IntKind.i64) (L zab i)) 64)) 63 = ((i / 64 % 63 : Nat) : Int) := by
       subst hL
       have hi : i <= zgz (za4 l k) m := hi
       exact ygm (Nat.le_trans hi (zjd hn m))
     refine ⟨fun h1 => ⟨hc, ?_, ?_, ?_, ⟨fun h2 => ⟨hc, 0, ?_⟩, fun h2 => ⟨0, ?_⟩⟩, fun y hy => ?_⟩, fun h1 => ?_⟩
     · subst hL; rfl
     · subst hL; rfl
     · rw [hsh]
       subst hL
       exact decide_eq_true (show (0 : Int) <= ((i / 64 % 63 : Nat) : Int) from Int.natCast_nonneg _)
     · rw [hsh] at h2
       (cbv; try simp only [syT, true_and, and_true])
       subst hL
       refine ⟨Nat.le_refl _, ⟨fun _ _ => trivial, fun _ _ _ _ _ _ => trivial⟩, fun _ _ _ _ => trivial, ?_⟩
       have h2 : yfx m ((i / 64 % 63 : Nat) : Int) = true := h2
       show (za4 l k).now = zm3 (za4 l k) m (zab i).toNat
       rw [zao]
       unfold zm3; rw [if_pos h2]
     · rw [hsh] at h2
       (cbv; try simp only [syT, true_and, and_true])
       subst hL
       refine ⟨Nat.le_refl _, ⟨fun _ _ => trivial, fun _ _ _ _ _ _ => trivial⟩, fun _ _ _ _ => trivial, ?_⟩
       have h2 : yfx m ((i / 64 % 63 : Nat) : Int) = false := h2
       show (za4 l k).sure = zm3 (za4 l k) m (zab i).toNat
       rw [zao]
       unfold zm3; rw [if_neg (by rw [h2]; decide)]
     · (cbv; try simp only [syT, true_and, and_true])
       have hlt : i < zgz (za4 l k) m := by
         subst hL
         have h1 : ilt (zab i) (zab (zab (zgz (za4 l k) m)).toNat) = true := h1
         rw [zao, zfb] at h1
         unfold zab at h1
         omega
       have hs : L (L3 L yhu l k m) (L Int.toNat (L zab i)) = zm3 (za4 l k) m i := by
         subst hL
         show zm3 (za4 l k) m (zab i).toNat = _
         rw [zao]
       refine ⟨fun h3 => ⟨?_, ?_, i + 1, ?_⟩, fun h3 => ⟨i + 1, ?_⟩⟩
       · rw [hs] at h3 |-
         subst hL
         have h3 : ilt (zab i) (slen (zm3 (za4 l k) m i)) = true := h3
         rw [zfb] at h3
         show inR (zab i) (slen (zm3 (za4 l k) m i)) = true
         rw [znq]
         exact ⟨Int.natCast_nonneg _, h3⟩
       · subst hL
         show inR (zab i) (zab (zab (zgz (za4 l k) m)).toNat) = true
         rw [znq, zao]
         refine ⟨Int.natCast_nonneg _, ?_⟩
         unfold zab; omega
       · (cbv; try simp only [syT, true_and, and_true])
         rw [hs] at h3 |-
         subst hL
         have h3 : ilt (zab i) (slen (zm3 (za4 l k) m i)) = true := h3
         rw [zfb] at h3
         have h3 : (i : Int) < ((zm3 (za4 l k) m i).length : Int) := h3
         refine ⟨Nat.le_refl _, ⟨fun _ _ => trivial, fun _ _ _ _ _ _ => trivial⟩, fun q j hq hj => ?_, zd2 i (by have := zjd hn m; omega), hlt, ?_⟩
         · refine (ydo _ .u8 _ (zxd (za4 l k) m i) q j hj).trans (congrArg (AV.int .u8) ?_)
           show (if q = 0 + (zab i).toNat then zoi (zm3 (za4 l k) m i) (zab i) else zxd (za4 l k) m i q) = zxd (za4 l k) m (i + 1) q
           rw [zao, Nat.zero_add]
           unfold zxd
           by_cases e : q = i
           · subst e
             rw [if_pos rfl, if_pos (by omega)]
             unfold kAt
             rw [if_pos (by omega)]; rfl
           · rw [if_neg e]
             by_cases e2 : q < i
             · rw [if_pos e2, if_pos (by omega)]
             · rw [if_neg e2, if_neg (by omega)]
         · show zgz (za4 l k) m - (i + 1) + 1 <= zgz (za4 l k) m - i
           omega
       · (cbv; try simp only [syT, true_and, and_true])
         rw [hs] at h3
         subst hL
         have h3 : ilt (zab i) (slen (zm3 (za4 l k) m i)) = false := h3
         rw [zk6] at h3
         have h3 : ¬ (i : Int) < ((zm3 (za4 l k) m i).length : Int) := by
           have h3 : ((zm3 (za4 l k) m i).length : Int) <= (i : Int) := h3
           omega
         refine ⟨Nat.le_refl _, ⟨fun _ _ => trivial, fun _ _ _ _ _ _ => trivial⟩, fun q j hq hj => congrArg (AV.int .u8) ?_, zd2 i (by have := zjd hn m; omega), hlt, ?_⟩
         · show zxd (za4 l k) m i q = zxd (za4 l k) m (i + 1) q
           unfold zxd
           by_cases e : q = i
           · subst e
             rw [if_neg (by omega), if_pos (by omega)]
             unfold kAt
             rw [if_neg (by omega)]
           · by_cases e2 : q < i
             · rw [if_pos e2, if_pos (by omega)]
             · rw [if_neg e2, if_neg (by omega)]
         · show zgz (za4 l k) m - (i + 1) + 1 <= zgz (za4 l k) m - i
           omega
     · have h1 : i = zgz (za4 l k) m := by
         subst hL
         have h1 : ilt (zab i) (zab (zab (zgz (za4 l k) m)).toNat) = false := h1
         rw [zao, zk6] at h1
         have hi : i <= zgz (za4 l k) m := hi
         unfold zab at h1
         omega
       subst hL
       simp only [std, L3, zao]
       refine ⟨⟨?_, fun q _ => ⟨_, rfl⟩⟩, Nat.le_refl _, ⟨fun _ _ => trivial, fun _ _ _ _ _ _ => trivial⟩, ?_⟩
       · show 0 + zgz (za4 l k) m <= zgz (za4 l k) m
         omega
       · show zb2 (zgz (za4 l k) m) (fun q => zxd (za4 l k) m i (0 + q)) = zb2 (zgz (za4 l k) m) (kAt (za4 l k) m)
         unfold zb2
         refine List.map_congr_left fun q hq => ?_
         have hq : q < zgz (za4 l k) m := by simpa using hq
         show UInt8.ofNat (zxd (za4 l k) m i (0 + q)).toNat = UInt8.ofNat (kAt (za4 l k) m q).toNat
         unfold zxd
         rw [if_pos (by omega), Nat.zero_add]
theorem zti : zbx Try.prog (zxb std) := by
 intro raw ob T hT hp
 unfold zxb at hT
 simp only at hT
 repeat' split at hT
 all_goals first | (cases hT; done) | (cases hT; exact yea _ _ _ _ hp.1 hp.2)
structure Lq where
 n : Nat
 g : Nat -> Nat -> AV
def AV.toB : AV -> Bool
 | .bool b => b
 | _ => false
def rdB (q : Lq) : List Bool := (List.range q.n).map (fun i => (q.g i 0).toB)
def rdM (q : Lq) : List Int := (List.range q.n).map (fun i => (q.g i 0).toI)
def yj8 (l : List Bool) : Nat := l.length
def yj2 (l : List Int) : Nat := l.length
def zjt (l : List Bool) (i : Nat) : Bool := l.getD i false
def zgp (l : List Int) (i : Nat) : Int := l.getD i 0
theorem rd_b (l : List Bool) : rdB ⟨yj8 l, fun i _ => .bool (zjt l i)⟩ = l := by
 apply List.ext_getElem
 · simp [rdB, yj8]
 · intro i h1 h2
   simp [rdB, zjt, AV.toB, h2]
theorem rd_m (l : List Int) : rdM ⟨yj2 l, fun i _ => .int .u64 (zgp l i)⟩ = l := by
 apply List.ext_getElem
 · simp [rdM, yj2]
 · intro i h1 h2
   simp [rdM, zgp, AV.toI, h2]
def yl2 (L : zae) : AV -> Option (List Bool)
 | .lst _ n g => some (L rdB ⟨n, g⟩)
 | .nils => some []
 | _ => none
def yk9 (L : zae) : AV -> Option (List Int)
 | .lst _ n g => some (L rdM ⟨n, g⟩)
 | .nils => some []
 | _ => none
def zhu (L : zae) (h : List Bool) : AV := .lst 1 (L yj8 h) (fun i _ => .bool (L2 L zjt h i))
def znc (L : zae) (m : List Int) : AV := .lst 1 (L yj2 m) (fun i _ => .int .u64 (L2 L zgp m i))
def crS (x : Dk) (h : List Bool) : Nat -> List (List UInt8 × Nat)
 | 0 => x.sure
 | i + 1 => if zjt h i = true then doL (crS x h i) (zcu x.pend i) else crS x h i
structure Cr where
 nd : List Nd
 seen : List Nat
 i : Nat
def crK (s : List (List UInt8 × Nat)) (j : Nat) : Nat := zdd s (zgr s j)
def crP (c : Cr) (k : Nat) (m : List Int) : Cr := if zt7 c.seen k = true then c else ⟨c.nd.set k ⟨kFL c.nd k (zgp m c.i), kFL c.nd k (zgp m c.i)⟩, zz5 c.seen k, c.i + 1⟩
def ybc (nd : List Nd) (s : List (List UInt8 × Nat)) (m : List Int) : Nat -> Cr
 | 0 => ⟨nd, [], 0⟩
 | j + 1 => crP (ybc nd s m j) (crK s j) m
def zha (x : Dk) (h : List Bool) : List (List UInt8 × Nat) := crS x h (zg0 x.pend)
def zfg (x : Dk) (h : List Bool) (m : List Int) (j : Nat) : Cr := ybc x.nd (zha x h) m j
def crD (x : Dk) (h : List Bool) (m : List Int) : Dk := ⟨x.room, (zfg x h m (mlen (zha x h))).nd, zha x h, zha x h, [], x.steps, -1, false⟩
def yi8 (x : Dk) (h : List Bool) : Prop := (∀ i, i < x.pend.length -> yg1 (zcu x.pend i).kd (zcu x.pend i).c) /\ zhq x /\ zx9 (zha x h) /\ ∀ k, znb (za4 x.nd k)
def crX1 (x : Dk) (h : List Bool) (i : Nat) : Dk := { x with sure := crS x h i }
def zk9 (x : Dk) (h : List Bool) (m : List Int) (j : Nat) : Dk := { x with sure := zha x h, nd := (zfg x h m j).nd }
theorem zks {i n : Nat} (h : ilt (zab i) (zab n) = true) : inR (zab i) (zab n) = true := by
 rw [zfb] at h
 rw [znq]
 exact ⟨Int.natCast_nonneg _, h⟩
theorem zdz {i n : Nat} (h : ilt (zab i) (zab n) = true) : i < n := by
 rw [zfb] at h
 unfold zab at h
 omega
theorem zdq {i n : Nat} (h : ilt (zab i) (zab n) = false) : n <= i := by
 rw [zk6] at h
 unfold zab at h
 omega
theorem zcq {n i : Nat} (h : i < n) : n - (i + 1) + 1 <= n - i := by omega
theorem zhi {l : List (List UInt8 × Nat)} {j : Nat} (h : j < mlen l) : zc5 l (zgr l j) = true := by
 have h : j < l.length := h
 refine zeo.2 ?_
 unfold zgr
 rw [List.getD_eq_getElem?_getD, List.getElem?_eq_getElem (by simpa using h)]
 exact List.getElem_mem _
theorem ybz (x : Nd) (m : Int) : (kF x m).length = zgz x m := by simp [kF, zb2]
theorem yex {x : Dk} {h : List Bool} {m : List Int} (o : ∀ k, znb (za4 x.nd k)) : ∀ j k, znb (za4 (zfg x h m j).nd k)
 | 0, k => o k
 | j + 1, k => by
   have ih := yex (h := h) (m := m) o j
   show znb (za4 (crP (zfg x h m j) (crK (zha x h) j) m).nd k)
   unfold crP
   split
   · exact ih k
   · rw [zgl]
     split
     · have := zjd (ih (crK (zha x h) j)) (zgp m (zfg x h m j).i)
       refine ⟨?_, ?_⟩
       · show (kF (za4 (zfg x h m j).nd (crK (zha x h) j)) (zgp m (zfg x h m j).i)).length <= _
         rw [ybz]; exact this
       · show (kF (za4 (zfg x h m j).nd (crK (zha x h) j)) (zgp m (zfg x h m j).i)).length <= _
         rw [ybz]; exact this
     · exact ih k
theorem cr_i (x : Dk) (h : List Bool) (m : List Int) : ∀ j, (zfg x h m j).i <= j
 | 0 => Nat.le_refl _
 | j + 1 => by
   have ih := cr_i x h m j
   show (crP (zfg x h m j) (crK (zha x h) j) m).i <= j + 1
   unfold crP
   split
   · omega
   · show (zfg x h m j).i + 1 <= j + 1
     omega
theorem yh8 (l : List Nd) (k : Nat) (a b : List UInt8) {q j : Nat} (hq : q < l.length) (hj : j < 2) : zp4 std k 0 1 1 [AV.str (cond (za5 k k && za5 0 0) a b)] (zp4 std k 0 0 1 [AV.str a] (fun q _ => ndC std (za4 l q))) q 0 j = ndC std (za4 (l.set k ⟨a, a⟩) q) j := by
 rw [zgl, show (za5 k k && za5 0 0) = true by rw [za3, za3]; rfl]
 match j, hj with
 | 0, _ =>
   show zcd std (za5 q k && za5 0 0) (.str a) (.str (za4 l q).now) = _
   by_cases h : q = k
   · subst h; rw [if_pos ⟨rfl, hq⟩, za3, za3]; rfl
   · rw [if_neg (fun e => h e.1), za9 h]; rfl
 | 1, _ =>
   show zcd std (za5 q k && za5 0 0) (.str a) (.str (za4 l q).sure) = _
   by_cases h : q = k
   · subst h; rw [if_pos ⟨rfl, hq⟩, za3, za3]; rfl
   · rw [if_neg (fun e => h e.1), za9 h]; rfl
def dcrA (L : zae) (x : Dk) (h : List Bool) (m : List Int) : Nat -> St -> Option Ann := fun id st => match id with
 | 0 => some ⟨Nat, fun i => [(21, .int .i64 (L zab i))], fun i => dpO L (L3 L crX1 x h i), [0, 1, 2, 19, 20], [],
     fun i => L2 L Nat.le i (L zg0 (L Dk.pend x)), fun i => L2 L Nat.sub (L zg0 (L Dk.pend x)) i⟩
 | 2 => some ⟨Nat, fun j => [(51, .int .i64 (L zab j)), (9, .int .i64 (L zab (L Cr.i (L (L3 L zfg x h m) j))))], fun j => zb6 (dpO L (L (L3 L zk9 x h m) j)) [(43, .mapr 600100 2 (L Cr.seen (L (L3 L zfg x h m) j)))], [0, 2, 8, 49, 50], [],
     fun j => L2 L Nat.le j (L mlen (L2 L zha x h)), fun j => L2 L Nat.sub (L mlen (L2 L zha x h)) j⟩
 | 1000067 => zub st 9 fun i => some ⟨Nat, fun _ => [(13, .int .u64 (L2 L zgp m (L Int.toNat i)))], fun _ => [], [0, 2, 8, 9, 11, 12, 49, 50, 51], [43, 500000, 500001, 500002, 500003, 600100], fun _ => True, fun _ => 0⟩
 | _ => none
def zpv (L : zae) : ze1 := (18, fun raw ob => match raw with
 | [.ref id 0, hv, mv] => match rdS L ob id, yl2 L hv, yk9 L mv with
   | some x, some h, some m => some ⟨[.ref 500000 0, zhu L h, znc L m], dpO L x, L2 L yi8 x h, .tup [], dpX L 500000 11 500002 13 (L3 L crD x h m)⟩
   | _, _, _ => none
 | _ => none)
theorem ybb (x : Dk) (h : List Bool) (m : List Int) (hok : yi8 x h) : zaq Try.prog 18 [.ref 500000 0, zhu std h, znc std m] (dpO std x) (.tup []) (dpX std 500000 11 500002 13 (crD x h m)) := by
 refine zad (T := tt) (S := fun L => zay [] [yj7 L, zpr, zlb L, zxb L, zie]) (lo := fun L => dcrA L x h m) (lb := noA) 8 (fn := Try.f18) (xs := fun L => [.ref 500000 0, zhu L h, znc L m]) (rts := fun L => []) (O := fun L => dpO L x) (O1 := fun L => dpX L 500000 11 500002 13 (L3 L crD x h m))
   rfl rfl (by kernel_rfl) (by kernel_rfl) (by kernel_rfl) zbk (za6 trivial ⟨zrm, zpq, zmp, zti, zht, trivial⟩) (by kernel_rfl) ?_
 intro L P' Q' hL hP hQ
 (cbv; try simp only [syT, true_and, and_true])
 obtain ⟨o1, o2, o3, o4⟩ := hok
 refine ⟨fun h1 => (by cases h1), fun _ => ⟨⟨0, ?_⟩, fun i hi => ?_⟩⟩
 · (cbv; try simp only [syT, true_and, and_true])
   subst hL
   simp only [std]
   exact ⟨Nat.le_refl _, ⟨rfl, fun _ _ => trivial, fun _ _ _ _ _ _ => rfl⟩, ⟨rfl, fun _ _ _ _ => rfl⟩, rfl, rfl, rfl, rfl, rfl, rfl, rfl, fun _ _ _ _ => trivial, fun _ _ _ _ => trivial, rfl, Nat.zero_le _⟩
 · (cbv; try simp only [syT, true_and, and_true])
   have tr : ∀ {n : Nat} {p : Prop}, p -> n.le n /\ ((∀ (k : Nat), k < n -> True) /\ ∀ (k i j : Nat), k < n -> i < 1 -> j < 2 -> True) /\ p := fun h => ⟨Nat.le_refl _, ⟨fun _ _ => trivial, fun _ _ _ _ _ _ => trivial⟩, h⟩
   refine ⟨fun h1 => ⟨?_, fun h2 => ⟨?_, fun h3 => tr ⟨?_, i + 1, ?_⟩, fun h3 => ⟨i + 1, ?_⟩⟩, fun h2 => ⟨i + 1, ?_⟩⟩, fun h1 => tr (tr ⟨?_, ⟨0, ?_⟩, fun j hj => ?_⟩)⟩
   · subst hL; exact zks h1
   · subst hL; exact zks h2
   · subst hL
     simp only [std, zao]
     have h1 : i < zg0 x.pend := zdz h1
     show yg1 (zcu x.pend (0 + i)).kd (zcu x.pend (0 + i)).c
     rw [Nat.zero_add]
     exact o1 i h1
   · (cbv; try simp only [syT, true_and, and_true])
     subst hL
     simp only [std, zao] at h1 h3 |-
     have hlt := zdz h1
     have hS : doL (crS x h i) (zcu x.pend (0 + i)) = crS x h (i + 1) := by
       rw [Nat.zero_add]; exact (if_pos h3).symm
     exact ⟨Nat.le_refl _, Nat.le_refl _, ⟨rfl, fun _ _ => trivial, fun _ _ _ _ _ _ => rfl⟩, ⟨rfl, fun _ _ _ _ => rfl⟩, hS, rfl, rfl, rfl, rfl, rfl, rfl, fun _ _ _ _ => trivial, fun _ _ _ _ => trivial, zd2 i (Nat.le_trans (Nat.le_of_lt hlt) o2), hlt, zcq hlt⟩
   · (cbv; try simp only [syT, true_and, and_true])
     subst hL
     simp only [std, zao] at h1 h3 |-
     have hlt := zdz h1
     have hS : crS x h i = crS x h (i + 1) := (if_neg (by rw [h3]; decide)).symm
     exact ⟨Nat.le_refl _, ⟨rfl, fun _ _ => trivial, fun _ _ _ _ _ _ => rfl⟩, ⟨rfl, fun _ _ _ _ => rfl⟩, hS, rfl, rfl, rfl, rfl, rfl, rfl, fun _ _ _ _ => trivial, fun _ _ _ _ => trivial, zd2 i (Nat.le_trans (Nat.le_of_lt hlt) o2), hlt, zcq hlt⟩
   · (cbv; try simp only [syT, true_and, and_true])
     subst hL
     simp only [std, zao] at h1 h2 |-
     have hlt := zdz h1
     have h3 : zjt h i = false := by
       have h2 := zdq h2
       unfold zjt
       have h2 : h.length <= i := h2
       rw [List.getD_eq_getElem?_getD, List.getElem?_eq_none h2]; rfl
     have hS : crS x h i = crS x h (i + 1) := (if_neg (by rw [h3]; decide)).symm
     exact ⟨Nat.le_refl _, ⟨rfl, fun _ _ => trivial, fun _ _ _ _ _ _ => rfl⟩, ⟨rfl, fun _ _ _ _ => rfl⟩, hS, rfl, rfl, rfl, rfl, rfl, rfl, fun _ _ _ _ => trivial, fun _ _ _ _ => trivial, zd2 i (Nat.le_trans (Nat.le_of_lt hlt) o2), hlt, zcq hlt⟩
   · have hie : i = zg0 x.pend := by
       subst hL
       exact Nat.le_antisymm hi (zdq h1)
     subst hie
     subst hL
     exact o3
   · have hie : i = zg0 x.pend := by
       subst hL
       exact Nat.le_antisymm hi (zdq h1)
     (cbv; try simp only [syT, true_and, and_true])
     subst hie
     subst hL
     simp only [std, zao]
     exact ⟨Nat.le_refl _, Nat.le_refl _, Nat.le_refl _, rfl, ⟨rfl, fun _ _ => trivial, fun _ _ _ _ _ _ => rfl⟩, ⟨rfl, fun _ _ _ _ => rfl⟩, rfl, rfl, rfl, rfl, rfl, rfl, rfl, fun _ _ _ _ => trivial, fun _ _ _ _ => trivial, rfl, rfl, Nat.zero_le _⟩
   · have hie : i = zg0 x.pend := by
       subst hL
       exact Nat.le_antisymm hi (zdq h1)
     (cbv; try simp only [syT, true_and, and_true])
     have hsu : L Dk.sure (L (L (L crX1 x) h) i) = L2 L zha x h := by
       subst hL; subst hie; rfl
     have hs2 : ∀ j, L Dk.sure (L (L3 L zk9 x h m) j) = L2 L zha x h := by
       subst hL; intro j; rfl
     simp only [hsu, hs2]
     refine ⟨fun g1 => ⟨?_, ?_, fun g2 => ⟨j + 1, ?_⟩, fun g2 => ⟨⟨fun g3 => ⟨?_, 0, ?_⟩, fun g3 => ⟨0, ?_⟩⟩, fun y hy => ?_⟩⟩, fun g1 => ?_⟩
     · subst hL; exact zks g1
     · subst hL
       simp only [std, L2, zao] at g1 |-
       exact zhi (zdz g1)
     · (cbv; try simp only [syT, true_and, and_true])
       subst hL
       simp only [std, L2, L3, zao] at g1 g2 |-
       have hlt := zdz g1
       have hS : zfg x h m j = zfg x h m (j + 1) := (if_pos g2).symm
       have hX : zk9 x h m j = zk9 x h m (j + 1) := by unfold zk9; rw [hS]
       show (zbz (zk9 x h m j).nd).le (zbz (zk9 x h m (j + 1)).nd) /\ _
       rw [<- hX, <- hS]
       exact ⟨Nat.le_refl _, rfl, ⟨rfl, fun _ _ => trivial, fun _ _ _ _ _ _ => rfl⟩, ⟨rfl, fun _ _ _ _ => rfl⟩, rfl, rfl, rfl, rfl, rfl, rfl, rfl, fun _ _ _ _ => trivial, fun _ _ _ _ => trivial, rfl, zd2 j (Nat.le_trans (Nat.le_of_lt hlt) o3.1), hlt, zcq hlt⟩
     · subst hL; exact zks g3
     · (cbv; try simp only [syT, true_and, and_true])
       exact tr ⟨fun _ _ _ _ => trivial, fun _ _ _ _ => trivial, fun _ _ _ _ => trivial⟩
     · (cbv; try simp only [syT, true_and, and_true])
       refine tr ⟨fun _ _ _ _ => trivial, fun _ _ _ _ => trivial, fun _ _ _ _ => trivial, ?_⟩
       subst hL
       simp only [std, L2, L3, zao] at g3 |-
       have g3 := zdq g3
       have g3 : m.length <= (zfg x h m j).i := g3
       unfold zgp
       rw [List.getD_eq_getElem?_getD, List.getElem?_eq_none g3]; rfl
     · (cbv; try simp only [syT, true_and, and_true])
       have hns : ∀ X : Dk, L yfr ⟨L zbz (L Dk.nd X), fun k _ => ndC L (L (L za4 (L Dk.nd X)) k)⟩ = L Dk.nd X := by
         subst hL; intro X; exact yjz _
       simp only [hns]
       have hhas : L (L zc5 (L2 L zha x h)) (L (L zgr (L2 L zha x h)) (L Int.toNat (L zab j))) = true := by
         subst hL
         simp only [std, L2, zao] at g1 |-
         exact zhi (zdz g1)
       refine ⟨Nat.le_refl _, ⟨trivial, fun _ _ => trivial, fun _ _ _ _ _ _ => trivial⟩, ⟨?_, ?_⟩, hhas, hhas, hhas, hhas, j + 1, ?_⟩
       · subst hL; exact hhas
       · subst hL; exact yex o4 j _
       · (cbv; try simp only [syT, true_and, and_true])
         subst hL
         simp only [std, L2, L3, zao] at g1 g2 |-
         have hlt := zdz g1
         have hS : zfg x h m (j + 1) = ⟨(zfg x h m j).nd.set (crK (zha x h) j) ⟨kFL (zfg x h m j).nd (crK (zha x h) j) (zgp m (zfg x h m j).i), kFL (zfg x h m j).nd (crK (zha x h) j) (zgp m (zfg x h m j).i)⟩, zz5 (zfg x h m j).seen (crK (zha x h) j), (zfg x h m j).i + 1⟩ := if_neg (by show ¬ zt7 (zfg x h m j).seen (crK (zha x h) j) = true; rw [show zt7 (zfg x h m j).seen (crK (zha x h) j) = false from g2]; decide)
         have hl : zbz (zk9 x h m (j + 1)).nd = zbz (zk9 x h m j).nd := by
           show (zfg x h m (j + 1)).nd.length = (zfg x h m j).nd.length
           rw [hS]; exact List.length_set
         have hi1 : (zfg x h m j).i <= 1000000 := Nat.le_trans (cr_i x h m j) (Nat.le_trans (Nat.le_of_lt hlt) o3.1)
         have hw : ze3 .i64 (zab (zfg x h m j).i) 1 = zab (zfg x h m (j + 1)).i := by
           rw [hS]; exact zd2 _ hi1
         show (zbz (zk9 x h m j).nd).le (zbz (zk9 x h m (j + 1)).nd) /\ (zbz (zk9 x h m j).nd).le (zbz (zk9 x h m (j + 1)).nd) /\ (zbz (zk9 x h m j).nd).le (zbz (zk9 x h m (j + 1)).nd) /\ (zbz (zk9 x h m j).nd).le (zbz (zk9 x h m (j + 1)).nd) /\ _ = (zfg x h m (j + 1)).seen /\ (zbz (zk9 x h m j).nd = zbz (zk9 x h m (j + 1)).nd /\ (∀ k, k < zbz (zk9 x h m (j + 1)).nd -> True) /\ ∀ k i c, k < zbz (zk9 x h m (j + 1)).nd -> i < 1 -> c < 2 -> _ = ndC std (za4 (zfg x h m (j + 1)).nd k) c) /\ _
         rw [hl]
         refine ⟨Nat.le_refl _, Nat.le_refl _, Nat.le_refl _, Nat.le_refl _, ?_, ⟨rfl, fun _ _ => trivial, fun q i c hq hi hc => ?_⟩, ⟨rfl, fun _ _ _ _ => rfl⟩, rfl, rfl, rfl, rfl, rfl, rfl, rfl, fun _ _ _ _ => trivial, fun _ _ _ _ => trivial, hw, zd2 j (Nat.le_trans (Nat.le_of_lt hlt) o3.1), hlt, zcq hlt⟩
         · rw [hS]; rfl
         · rw [hS]
           obtain rfl : i = 0 := by omega
           exact yh8 (zfg x h m j).nd (crK (zha x h) j) _ _ hq hc
     · have hje : j = mlen (zha x h) := by
         subst hL
         simp only [std, L2, zao] at g1
         exact Nat.le_antisymm hj (zdq g1)
       subst hL
       subst hje
       exact tr ⟨Nat.le_refl _, Nat.le_refl _, ⟨rfl, fun _ _ => trivial, fun _ _ _ _ _ _ => rfl⟩, rfl, rfl, rfl, rfl, rfl, rfl, rfl, rfl⟩
theorem zpu : zbx Try.prog (zpv std) := by
 intro raw ob T hT hp
 unfold zpv at hT
 simp only at hT
 repeat' split at hT
 all_goals first | (cases hT; done) | (cases hT; exact ybb _ _ _ hp)
end Sy
end Go.Proofs.Ytogomcfgfnlclaa
namespace Go.Proofs.Ytogomcfgfnlclaa
namespace Sy
open Go Go.RowKit
set_option linter.unusedVariables false
def DW (W : World) : Nat -> Prop := fun b => b < W.heap.size
structure zev {H : Type} (enc : TypeId × Value -> H) (P : Program) (W : World) (t : TypeId) (α : Type) (sz : Nat) (av : α -> Nat -> AV) (ok : α -> Prop) : Prop where
 size : P.cellsOf t = sz
 go : ∀ fuel cs x, DataW.trod enc P W 0 (fun _ => true) true fuel t cs = some x -> ∃ y : α, ok y /\ cs.length = sz /\ ∀ j, j < sz -> ∃ v, cs[j]? = some v /\ one v /\ R W.heap (DW W) zap (av y j) v
structure zrs {H : Type} (enc : TypeId × Value -> H) (P : Program) (W : World) (fs : List Field) (off : Nat) (α : Type) (sz : Nat) (av : α -> Nat -> AV) (ok : α -> Prop) : Prop where
 go : ∀ fuel (cs : List Value) (xs : List (DataW H × List MemPlace)), (∀ (i : Nat) (f : Field), fs[i]? = some f -> ∃ x, DataW.trod enc P W 0 (fun _ => true) true fuel f.type ((cs.drop f.offset).take (P.cellsOf f.type)) = some x) -> ∃ y : α, ok y /\ ∀ j, j < sz -> ∃ v, cs[off + j]? = some v /\ one v /\ R W.heap (DW W) zap (av y j) v
theorem sgl {h : Array Obj} {D : Nat -> Prop} {f : Nat -> AV} {v : Value} (h1 : one v) (h2 : R h D zap (f 0) v) : ∀ j, j < 1 -> ∃ u, [v][j]? = some u /\ one u /\ R h D zap (f j) u := by
 intro j hj
 obtain rfl : j = 0 := by omega
 exact ⟨v, rfl, h1, h2⟩
theorem zwz {α : Type} (p : Nat -> α -> Prop) : ∀ n, (∀ i, i < n -> ∃ y, p i y) -> ∃ l : List α, l.length = n /\ ∀ i, i < n -> ∃ y, l[i]? = some y /\ p i y
 | 0, _ => ⟨[], rfl, fun i hi => by omega⟩
 | m + 1, h => by
   obtain ⟨l, e1, e2⟩ := zwz p m (fun i hi => h i (by omega))
   obtain ⟨y, hy⟩ := h m (by omega)
   refine ⟨l ++ [y], by simp [e1], fun i hi => ?_⟩
   by_cases hi' : i < m
   · obtain ⟨z, z1, z2⟩ := e2 i hi'
     exact ⟨z, by rw [List.getElem?_append_left (by omega)]; exact z1, z2⟩
   · have : i = m := by omega
     subst this
     exact ⟨y, by rw [<- e1]; simp, hy⟩
section
variable {H : Type} {enc : TypeId × Value -> H} {P : Program} {W : World}
theorem zgj {t : TypeId} {k : IntKind} (ht : P.underlying t = some (.int k)) (hc : P.cellsOf t = 1) : zev enc P W t Int 1 (fun n _ => .int k n) (fun n => (Lit.int k n).wf = true) := by
 refine ⟨hc, fun fuel cs x h => ?_⟩
 obtain ⟨n, rfl, rfl, hw⟩ := DataW.trod_int ht h
 exact ⟨n, hw, rfl, sgl rfl (.int k n)⟩
theorem zt0 {t : TypeId} (ht : P.underlying t = some .bool) (hc : P.cellsOf t = 1) : zev enc P W t Bool 1 (fun b _ => .bool b) (fun _ => True) := by
 refine ⟨hc, fun fuel cs x h => ?_⟩
 obtain ⟨b, rfl, rfl⟩ := DataW.trod_bool ht h
 exact ⟨b, trivial, rfl, sgl rfl (.bool b)⟩
theorem opens_str {t : TypeId} (ht : P.underlying t = some .string) (hc : P.cellsOf t = 1) : zev enc P W t (List UInt8) 1 (fun l _ => .str l) (fun l => l.length <= maxLen) := by
 refine ⟨hc, fun fuel cs x h => ?_⟩
 obtain ⟨s, rfl, rfl, hs⟩ := DataW.trod_string ht h
 exact ⟨s.data.toList, by rw [Array.length_toList]; exact hs, rfl, sgl rfl (.str _ _ rfl)⟩
def avL {α : Type} (av : α -> Nat -> AV) (l : List α) (i j : Nat) : AV := match l[i]? with | some y => av y j | none => .dead
theorem opens_slice {t e : TypeId} {α : Type} {sz : Nat} {av : α -> Nat -> AV} {ok : α -> Prop} (ht : P.underlying t = some (.slice e)) (hc : P.cellsOf t = 1) (he : zev enc P W e α sz av ok) (hs : 0 < sz) :
   zev enc P W t (List α) 1 (fun l _ => .lst sz l.length (avL av l)) (fun l => l.length <= maxLen /\ ∀ y ∈ l, ok y) := by
 refine ⟨hc, fun fuel cs x h => ?_⟩
 rcases DataW.trod_slice ht h with ⟨rfl, rfl⟩ | ⟨a, len, cap, elems, rest, n, _, rfl, rfl, hb, hl, hm, hlen, hel, _, _⟩
 · exact ⟨[], ⟨Nat.zero_le _, fun y hy => by cases hy⟩, rfl, sgl rfl (.lst0 _ _ _ _ (fun _ => rfl))⟩
 · have each : ∀ i, i < len -> ∃ y : α, ok y /\ ∀ j, j < sz -> ∃ v, W.cell? ((a.add (i * sz)).add j) = some v /\ one v /\ R W.heap (DW W) zap (av y j) v := by
     intro i hi
     have h1 := hel i hi
     rw [he.size] at h1
     obtain ⟨z, hz⟩ : ∃ z, elems[i]? = some z := ⟨elems[i], by simp [hlen, hi]⟩
     rw [hz, Option.bind_eq_some_iff] at h1
     obtain ⟨cs', h2, h3⟩ := h1
     obtain ⟨y, y1, y2, y3⟩ := he.go _ _ _ h3
     refine ⟨y, y1, fun j hj => ?_⟩
     obtain ⟨v, v1, v2, v3⟩ := y3 j hj
     exact ⟨v, by rw [(World.cells?_some h2).2.2 j hj]; exact v1, v2, v3⟩
   obtain ⟨l, hl1, hl2⟩ : ∃ l : List α, l.length = len /\ ∀ i, i < len -> ∃ y, l[i]? = some y /\ ok y /\ ∀ j, j < sz -> ∃ v, W.cell? ((a.add (i * sz)).add j) = some v /\ one v /\ R W.heap (DW W) zap (av y j) v :=
     zwz (fun i y => ok y /\ ∀ j, j < sz -> ∃ v, W.cell? ((a.add (i * sz)).add j) = some v /\ one v /\ R W.heap (DW W) zap (av y j) v) len each
   refine ⟨l, ⟨by omega, fun y hy => ?_⟩, rfl, sgl rfl ?_⟩
   · obtain ⟨i, hi, rfl⟩ := List.getElem_of_mem hy
     obtain ⟨z, z1, z2, _⟩ := hl2 i (by omega)
     rw [List.getElem?_eq_getElem hi] at z1
     cases z1; exact z2
   · show R W.heap (DW W) zap (.lst sz l.length (avL av l)) _
     by_cases h0 : len = 0
     · subst h0; rw [hl1]; exact .lst0 _ _ _ _ (fun h => by cases h)
     · have cell : ∀ i j, i < len -> j < sz -> ∃ v, hcell W.heap a.block (a.off + i * sz + j) = some v /\ one v /\ R W.heap (DW W) zap (avL av l i j) v := by
         intro i j hi hj
         obtain ⟨y, y1, _, y3⟩ := hl2 i hi
         obtain ⟨v, v1, v2, v3⟩ := y3 j hj
         refine ⟨v, ?_, v2, by rw [avL, y1]; exact v3⟩
         rw [<- zec]
         have hsp : ∀ p : Addr, W.cell? p = some v -> p.spot = none := by
           intro p hp
           unfold World.cell? at hp
           split at hp
           · split at hp
             · cases hp
             · rename_i hn; simpa using hn
           · cases hp
         have h1 := hsp _ v1
         have e : (a.add (i * sz)).add j = ⟨a.block, a.off + i * sz + j, none⟩ := by
           have hb1 : ((a.add (i * sz)).add j).block = a.block := by simp only [Addr.add]; split <;> split <;> rfl
           have hb2 : ((a.add (i * sz)).add j).off = a.off + i * sz + j := by simp only [Addr.add]; split <;> split <;> simp_all
           cases hq : (a.add (i * sz)).add j with
           | mk b o s => rw [hq] at h1 hb1 hb2; simp_all
         rw [<- e]; exact v1
       have hsp0 : a.spot = none := by
         obtain ⟨y, _, _, y3⟩ := hl2 0 (by omega)
         obtain ⟨v, v1, _⟩ := y3 0 hs
         rw [Nat.zero_mul] at v1
         simp only [Addr.add, if_true] at v1
         unfold World.cell? at v1
         split at v1
         · split at v1
           · cases v1
           · rename_i hn; simpa using hn
         · cases v1
       have hD : DW W a.block := by
         obtain ⟨v, v1, _⟩ := cell 0 0 (by omega) hs
         refine Classical.byContradiction fun hn => ?_
         unfold hcell at v1
         rw [Array.getElem?_eq_none (by unfold DW at hn; omega)] at v1
         cases v1
       have ea : a = ⟨a.block, a.off, none⟩ := by cases a; simp_all
       rw [ea, <- hl1]
       refine .lst sz l.length (avL av l) a.block a.off cap (fun i j => (hcell W.heap a.block (a.off + i * sz + j)).getD undef) hD (by omega) (fun i j hi hj => ?_) (fun i j hi hj => ?_) (fun i j hi hj => ?_)
       all_goals
         obtain ⟨v, v1, v2, v3⟩ := cell i j (by omega) hj
         rw [v1]
         first | rfl | exact v2 | exact v3
theorem zt1 (off : Nat) : zrs enc P W [] off Unit 0 (fun _ _ => .dead) (fun _ => True) := ⟨fun _ _ _ _ => ⟨(), trivial, fun j hj => by omega⟩⟩
theorem zce {f : Field} {fs : List Field} {off : Nat} {α β : Type} {sz sz' : Nat} {av : α -> Nat -> AV} {av' : β -> Nat -> AV} {ok : α -> Prop} {ok' : β -> Prop} (ho : f.offset = off) (hf : zev enc P W f.type α sz av ok) (hr : zrs enc P W fs (off + sz) β sz' av' ok') :
   zrs enc P W (f :: fs) off (α × β) (sz + sz') (fun y j => if j < sz then av y.1 j else av' y.2 (j - sz)) (fun y => ok y.1 /\ ok' y.2) := by
 refine ⟨fun fuel cs xs h => ?_⟩
 obtain ⟨x, hx⟩ := h 0 f rfl
 obtain ⟨y, y1, y2, y3⟩ := hf.go _ _ _ hx
 obtain ⟨z, z1, z2⟩ := hr.go fuel cs xs (fun i g hg => h (i + 1) g hg)
 refine ⟨(y, z), ⟨y1, z1⟩, fun j hj => ?_⟩
 by_cases hlt : j < sz
 · obtain ⟨v, v1, v2, v3⟩ := y3 j hlt
   refine ⟨v, ?_, v2, by simp only [if_pos hlt]; exact v3⟩
   rw [hf.size, List.getElem?_take, if_pos hlt, List.getElem?_drop, ho] at v1
   exact v1
 · obtain ⟨v, v1, v2, v3⟩ := z2 (j - sz) (by omega)
   refine ⟨v, ?_, v2, by simp only [if_neg hlt]; exact v3⟩
   rw [<- v1]; congr 1; omega
theorem zn6 {t : TypeId} {fs : Array Field} {α : Type} {sz : Nat} {av : α -> Nat -> AV} {ok : α -> Prop} (ht : P.underlying t = some (.struct fs)) (hc : P.cellsOf t = sz) (hf : zrs enc P W fs.toList 0 α sz av ok) : zev enc P W t α sz av ok := by
 refine ⟨hc, fun fuel cs x h => ?_⟩
 obtain ⟨xs, n, rfl, rfl, hl, hx, hfs⟩ := DataW.trod_struct ht h
 obtain ⟨y, y1, y2⟩ := hf.go n cs xs (fun i f hi => by
   have := hfs i f (by simpa using hi)
   have hlt : i < xs.length := by rw [hx]; simpa using (List.getElem?_eq_some_iff.1 hi).1
   exact ⟨xs[i], by rw [this]; simp [hlt]⟩)
 exact ⟨y, y1, by omega, fun j hj => by obtain ⟨v, v1, v2⟩ := y2 j hj; exact ⟨v, by simpa using v1, v2⟩⟩
theorem zev.map {t : TypeId} {α β : Type} {sz : Nat} {av : α -> Nat -> AV} {av' : β -> Nat -> AV} {ok : α -> Prop} {ok' : β -> Prop} (O : zev enc P W t α sz av ok) (f : α -> β) (h1 : ∀ y j, j < sz -> av y j = av' (f y) j) (h2 : ∀ y, ok y -> ok' (f y)) : zev enc P W t β sz av' ok' := by
 refine ⟨O.size, fun fuel cs x h => ?_⟩
 obtain ⟨y, y1, y2, y3⟩ := O.go fuel cs x h
 refine ⟨f y, h2 y y1, y2, fun j hj => ?_⟩
 obtain ⟨v, v1, v2, v3⟩ := y3 j hj
 exact ⟨v, v1, v2, by rw [<- h1 y j hj]; exact v3⟩
theorem open_one {t : TypeId} {α : Type} {av : α -> Nat -> AV} {ok : α -> Prop} {v : Value} {d : DataW H} {p : List MemPlace} (O : zev enc P W t α 1 av ok) (hv : v.cells = #[v]) (h : DataW.Trod enc P W 0 (fun _ => true) true t v d p) :
   ∃ y, ok y /\ R W.heap (DW W) zap (av y 0) v := by
 obtain ⟨fuel, h⟩ := h
 obtain ⟨y, y1, y2, y3⟩ := O.go _ _ _ h
 obtain ⟨u, u1, u2, u3⟩ := y3 0 (by omega)
 rw [hv] at u1
 simp at u1
 subst u1
 exact ⟨y, y1, u3⟩
end
theorem yfk {P : Program} {f : FuncId} {xs ys : List AV} {r : AV} (h : ∀ h D vs, RL h D zap xs vs -> RL h D zap ys vs) (ha : zco P f ys r) : zco P f xs r := fun D w vs hD hx => ha D w vs hD (h _ _ _ hx)
end Sy
end Go.Proofs.Ytogomcfgfnlclaa
namespace Go.Proofs.Ytogomcfgfnlclaa
namespace Sy
open Go Go.RowKit
set_option maxRecDepth 100000
set_option linter.unusedSimpArgs false
set_option linter.unusedVariables false
def zj8 (a t : List UInt8) (hn mn : Nat) : Bool := decide (a.length <= 60 /\ t.length <= 60 /\ hn <= 60 /\ mn <= 60)
def zpb (L : zae) : zom := (9, fun xs => match xs with
 | [.agg [.int .u8 d, .str a, .str t, .int .u16 n, .int .u8 b, .lst 1 hn hg, .lst 1 mn mg]] => some (True, .bool (L (L3 L zj8 a t hn) mn))
 | _ => none)
theorem zte : ybj Try.prog (zpb std) := by
 intro xs p r h hp
 dsimp only [zpb] at h |-
 split at h <;> cases h
 try simp only [L2, L3, std] at hp |-
 rename_i d a t n b hn hg mn mg
 refine zfw (T := tt) (S := noS) (lo := noA) (lb := noA) 5 (fn := Try.f9) rfl rfl (by kernel_rfl) (by kernel_rfl) rfl zbk (zwf _) (by kernel_rfl) ?_
 (intro L P1 Q1 hL hP hQ; cbv; subst hL; simp only [L2, L3, std, syT]; subst hQ)
 have hd : ∀ h1 : Bool, h1 = zj8 a t hn mn -> zh9 (.bool (zj8 a t hn mn)) (.bool h1) := fun h1 e => by rw [e, zct]
 refine ⟨fun h1 => ⟨fun h2 => hd _ ?_, fun h2 => hd _ ?_⟩, fun h1 => hd _ ?_⟩
 · rw [yeh, zpf, slen, slen] at h1
   rw [yeh, zab] at h2
   unfold zj8 ile zab
   rw [Bool.eq_iff_iff, decide_eq_true_eq, decide_eq_true_eq]
   omega
 · rw [yei, zab] at h2
   unfold zj8
   exact (decide_eq_false (by omega)).symm
 · rw [yei, zpf, slen, slen] at h1
   unfold zj8
   exact (decide_eq_false (by omega)).symm
theorem yh1 {i : Nat} (h : i <= 100000) : zz1 .i64 (zab i) 64 = ((i / 64 : Nat) : Int) := by
 have e1 : (zab i).tdiv 64 = ((i / 64 : Nat) : Int) := by
   unfold zab
   exact (Int.ofNat_tdiv i 64).symm
 unfold zz1
 rw [zhx, e1]
 have e2 : ((i / 64 : Nat) : Int) + 9223372036854775808 < 18446744073709551616 := by omega
 rw [Int.emod_eq_of_lt (by omega) e2]
 omega
def zmi (n : Int) : Nat := (n.tmod 3000).toNat
def yiq (b : Int) (i : Nat) : Int := ze3 .u8 b (IntKind.u8.wrap ((i / 64 : Nat) : Int))
def ybm (b : Int) (i q : Nat) : Int := if q < i then yiq b q else 0
def ycp (n b : Int) : List UInt8 := zb2 (zmi n) (yiq b)
def ycn (n : Int) : Prop := 0 <= n /\ n < 65536
def txL (L : zae) (n b : Int) : Nat -> St -> Option Ann := fun id st => match id with
 | 0 => some ⟨Nat, fun i => [(11, .int .i64 (L zab i))], fun i => [(8, .row 5 1 (L zmi n) (fun q _ => .int .u8 (L3 L ybm b i q)))], [1, 3, 10], [1],
     fun i => L2 L Nat.le i (L zmi n), fun i => L2 L Nat.sub (L zmi n) i⟩
 | _ => none
def zoo (L : zae) : zom := (11, fun xs => match xs with
 | [.agg [.int .u8 d, .str a, .str t, .int .u16 n, .int .u8 b, .lst 1 hn hg, .lst 1 mn mg]] => some (L ycn n, .str (L2 L ycp n b))
 | _ => none)
theorem zrw : ybj Try.prog (zoo std) := by
 intro xs p r h hp
 dsimp only [zoo] at h |-
 split at h <;> cases h
 try simp only [L2, L3, std] at hp |-
 rename_i d a t n b hn hg mn mg
 have hu : 0 <= n /\ n < 65536 := hp
 refine zfw (T := tt) (S := noS) (lo := fun L => txL L n b) (lb := noA) 5 (fn := Try.f11) rfl rfl (by kernel_rfl) (by kernel_rfl) rfl zbk (zwf _) (by kernel_rfl) ?_
 intro L P' Q' hL hP hQ
 (cbv; try simp only [syT, true_and, and_true])
 have hN : (n.tmod 3000).toNat = n.tmod 3000 /\ zmi n < 3000 := by
   have : n.tmod 3000 = ((n.toNat % 3000 : Nat) : Int) := by
     obtain ⟨k, rfl⟩ : ∃ k : Nat, n = k := ⟨n.toNat, by omega⟩
     exact (Int.ofNat_tmod k 3000).symm
   unfold zmi
   omega
 refine ⟨by subst hL; rfl, ?_, ⟨0, ?_⟩, fun i hi => ?_⟩
 · subst hL
   show ydz 1 (n.tmod 3000) (n.tmod 3000) = true
   rw [zqw]
   unfold zmi at hN
   omega
 · (cbv; try simp only [syT, true_and, and_true])
   subst hL
   refine ⟨fun _ _ _ _ => trivial, fun _ _ _ _ => trivial, ⟨rfl, fun q j hq hj => ?_⟩, rfl, Nat.zero_le _⟩
   obtain rfl : j = 0 := by omega
   rfl
 · (cbv; try simp only [syT, true_and, and_true])
   have hT : L Int.toNat (L (L Int.tmod n) 3000) = zmi n := by subst hL; rfl
   refine ⟨fun h1 => ⟨by subst hL; rfl, ?_, i + 1, ?_⟩, fun h1 => ⟨⟨?_, fun q _ => ⟨_, rfl⟩⟩, ?_⟩⟩
   · subst hL; exact zks h1
   · (cbv; try simp only [syT, true_and, and_true])
     rw [hT] at h1
     subst hL
     have hlt : i < zmi n := zdz h1
     refine ⟨fun _ _ _ _ => trivial, fun _ _ _ _ => trivial, fun q j hq hj => ?_, zd2 i (by omega), hlt, zcq hlt⟩
     refine (ydo _ .u8 _ (ybm b i) q j hj).trans (congrArg (AV.int .u8) ?_)
     show (if q = 0 + (zab i).toNat then ze3 .u8 b (IntKind.u8.wrap (zz1 .i64 (zab i) 64)) else ybm b i q) = ybm b (i + 1) q
     rw [zao, Nat.zero_add, yh1 (by omega)]
     unfold ybm
     by_cases e : q = i
     · subst e
       rw [if_pos rfl, if_pos (by omega)]; rfl
     · rw [if_neg e]
       by_cases e2 : q < i
       · rw [if_pos e2, if_pos (by omega)]
       · rw [if_neg e2, if_neg (by omega)]
   · rw [hT]; subst hL
     show 0 + zmi n <= zmi n
     omega
   · rw [hT] at h1 |-
     subst hL; subst hQ
     have h1 : ilt (zab i) (zab (zmi n)) = false := h1
     have hi : i <= zmi n := hi
     have h1 := zdq h1
     rw [zri]
     show zb2 (zmi n) (fun q => ybm b i (0 + q)) = zb2 (zmi n) (yiq b)
     unfold zb2
     refine List.map_congr_left fun q hq => ?_
     have hq : q < zmi n := by simpa using hq
     show UInt8.ofNat (ybm b i (0 + q)).toNat = UInt8.ofNat (yiq b q).toNat
     unfold ybm
     rw [if_pos (by omega), Nat.zero_add]
structure Vw (α : Type) where
 sz : Nat
 cell : zae -> α -> Nat -> AV
 rd : (Nat -> AV) -> α
 ok : (Nat -> AV) -> Prop
 d : α
def yiz {α : Type} (V : Vw α) (l : List α) (i : Nat) : α := l.getD i V.d
def lenW {α : Type} (l : List α) : Nat := l.length
def getW {α : Type} (L : zae) (V : Vw α) (l : List α) : Nat -> Nat -> AV := fun i j => V.cell L (L (L (yiz V) l) i) j
def lstW {α : Type} (L : zae) (V : Vw α) (l : List α) : AV := .lst V.sz (L lenW l) (getW L V l)
theorem ydr {α : Type} {V : Vw α} {l : List α} {i : Nat} (h : i < l.length) : yiz V l i = l[i] := by
 rw [yiz, List.getD_eq_getElem?_getD, List.getElem?_eq_getElem h]; rfl
def isS (x : AV) : Prop := ∃ s, x = .str s
end Sy
end Go.Proofs.Ytogomcfgfnlclaa
namespace Go.Proofs.Ytogomcfgfnlclaa
namespace Sy
open Go Go.RowKit
theorem zev.turn {H : Type} {enc : TypeId × Value -> H} {P : Program} {W : World} {t : TypeId} {α β : Type} {sz : Nat} {av : α -> Nat -> AV} {av' : β -> Nat -> AV} {ok : α -> Prop} {ok' : β -> Prop} (O : zev enc P W t α sz av ok) (f : α -> β) (h2 : ∀ y, ok y -> ok' (f y))
   (h1 : ∀ y, ok y -> ∀ j, j < sz -> ∀ v, R W.heap (DW W) zap (av y j) v -> R W.heap (DW W) zap (av' (f y) j) v) : zev enc P W t β sz av' ok' := by
 refine ⟨O.size, fun fuel cs x h => ?_⟩
 obtain ⟨y, y1, y2, y3⟩ := O.go fuel cs x h
 refine ⟨f y, h2 y y1, y2, fun j hj => ?_⟩
 obtain ⟨v, v1, v2, v3⟩ := y3 j hj
 exact ⟨v, v1, v2, h1 y y1 j hj v v3⟩
end Sy
end Go.Proofs.Ytogomcfgfnlclaa
namespace Go.Proofs.Ytogomcfgfnlclaa
namespace Sy
open Go Go.RowKit
set_option maxRecDepth 100000
set_option linter.unusedSimpArgs false
set_option linter.unusedVariables false
def DkS.used (L : zae) : DkS -> Int
 | .c _ x _ => L slen x
 | _ => 0
def DkS.usable : DkS -> Prop
 | .a _ => True
 | .c _ x _ => zbt x
 | _ => False
def zq4 (L : zae) : ze1 := (17, fun raw ob => match raw with
 | [.ref id 0] => match zy0 ob id with
   | some sh => some ⟨[.ref 500000 0], dkO 500005 sh, L DkS.usable sh, .int .i64 (sh.used L), dkO 500005 sh⟩
   | _ => none
 | _ => none)
theorem zmk : zbx Try.prog (zq4 std) := by
 intro raw ob T hT hp
 unfold zq4 at hT
 simp only at hT
 repeat' split at hT
 all_goals first | (cases hT; done) | skip
 rename_i sh hsh
 cases hT
 intro D w μ vs hD hxs hdom hobs hinj hown hg hgb
 obtain ⟨v, rfl, r1⟩ := zf6 hxs
 cases r1 with
 | ref _ _ b z m hμ =>
   cases sh with
   | b k x s => exact hp.elim
   | d k x s y t => exact hp.elim
   | a k =>
     obtain ⟨C, t, fr, hb, hz, hf, ho, hC1, hC2⟩ := hobs 500000 _ _ rfl hμ
     obtain ⟨v1, hv1⟩ : ∃ v1, C[1]? = some v1 := ⟨C[1]'(by rw [<- hC1]; simp), by simp⟩
     have r2 : R w.heap D μ (.mp 500001) v1 := hC2 1 _ v1 rfl hv1
     cases r2 with
     | mp _ bm zm mm hμm =>
       obtain ⟨es, clock, kf, hbm, hn, hks, hnd, hr⟩ := hobs 500001 _ _ rfl hμm
       have hes : es = #[] := Array.eq_empty_of_size_eq_zero hn
       subst hes
       refine zdr (fn := Try.f17) rfl rfl (by kernel_rfl) ((yjk w b bm clock (by rw [zec, zak hb]; exact hv1) hbm).mono ?_)
       rintro e w' ⟨rfl, B⟩
       exact ⟨_, D, μ, ze7 hD hdom hobs hinj hown B (fun b h => h) (fun b h => .inl h) (.int _ _)⟩
   | c k x s =>
     obtain ⟨C, t, fr, hb, hz, hf, ho, hC1, hC2⟩ := hobs 500000 _ _ rfl hμ
     obtain ⟨v1, hv1⟩ : ∃ v1, C[1]? = some v1 := ⟨C[1]'(by rw [<- hC1]; simp), by simp⟩
     have r2 : R w.heap D μ (.mp 500001) v1 := hC2 1 _ v1 rfl hv1
     cases r2 with
     | mp _ bm zm mm hμm =>
       obtain ⟨e, clock, s1, hbm, hst, hk, hs, rx⟩ := zn8 (hobs 500001 _ _ rfl hμm)
       generalize hev : e.val = ev at rx
       cases rx with
       | ref _ _ bn zn mn hμn =>
         obtain ⟨C', t', fr', hb', hz', hf', ho', hC1', hC2'⟩ := hobs 500003 _ _ rfl hμn
         obtain ⟨v2, hv2⟩ : ∃ v2, C'[0]? = some v2 := ⟨C'[0]'(by rw [<- hC1']; simp), by simp⟩
         have r3 : R w.heap D μ (.str x) v2 := hC2' 0 _ v2 rfl hv2
         obtain ⟨s2, rfl, hs2⟩ := r3.inv_str
         have hsh : x.length <= 1000 := hp
         have hsz : s2.size = x.length := by rw [<- hs2]; simp
         refine zdr (fn := Try.f17) rfl rfl (by kernel_rfl) ((yjj w b bm bn clock e s2 (by rw [zec, zak hb]; exact hv1) hbm hst hev (by rw [zec, zak hb']; exact hv2)).mono ?_)
         rintro e w' ⟨rfl, B⟩
         have he : wrap64 (s2.size : Int) = slen x := by
           unfold wrap64 slen
           omega
         rw [he]
         exact ⟨_, D, μ, ze7 hD hdom hobs hinj hown B (fun b h => h) (fun b h => .inl h) (.int _ _)⟩
def wrO (L : zae) (x : List UInt8) : DkS -> List (Nat × Ob)
 | .a k => [(500000, zps (.sl 17 4 0 1) (L inc k)), (500001, .mapl .s [(.s nmA, .ref 64 0)]), (500002, .mapl .s []), (64, zcp x []), (17, ya3 nmA)]
 | .c k y s => [(500000, zps (.sl 17 4 0 1) (L inc k)), (500001, .mapl .s [(.s nmA, .ref 500003 0), (.s nmB, .ref 64 0)]), (500002, .mapl .s [(.s nmA, .ref 500003 0)]), (500003, zcp y s), (64, zcp x []), (17, ya3 nmB)]
 | _ => []
def yjc : DkS -> List UInt8
 | .a _ => nmA
 | _ => nmB
def yin (x : List UInt8) : DkS -> Prop
 | .a k => zcc k /\ x.length <= 50
 | .c k y s => zcc k /\ x.length <= 50 /\ y.length <= 50
 | _ => False
def zon (L : zae) : ze1 := (10, fun raw ob => match raw with
 | [.ref id 0, .str _, .str x] => match zy0 ob id with
   | some sh => some ⟨[.ref 500000 0, .str (yjc sh), .str x], dkO 500005 sh, L2 L yin x sh, .int .i64 0, wrO L x sh⟩
   | _ => none
 | _ => none)
theorem ych (k : Int) (x : List UInt8) (hk : zcc k) (hx : x.length <= 50) : zaq Try.prog 10 [.ref 500000 0, .str nmA, .str x] (dkO 500005 (.a k)) (.int .i64 0) (wrO std x (.a k)) := by
 refine zad (T := tt) (S := fun L => zay [zzj L, zkm L] [ydq, zq4 L, zho L, zi2]) (lo := noA) (lb := noA) 8 (fn := Try.f10) (xs := fun L => [.ref 500000 0, .str nmA, .str x]) (rts := fun _ => [.int .i64 0]) (O := fun L => dkO 500005 (.a k)) (O1 := fun L => wrO L x (.a k))
   rfl rfl (by kernel_rfl) (by kernel_rfl) (by kernel_rfl) zbk (za6 ⟨zqf, zgm, trivial⟩ ⟨ziy, zmk, zft, zii, trivial⟩) (by kernel_rfl) ?_
 intro L P' Q' hL hP hQ
 (cbv; try simp only [syT, true_and, and_true])
 subst hL
 have e0 : ine 0 0 = false := by decide
 have e1 : zgn [97] = true := by decide
 have e2 : ile 16 (Int.ofNat 0) = false := by decide
 have e3 : ilt 100 (ze3 .i64 (slen x) 0) = false := by
   rw [zk6]
   unfold ze3 slen
   rw [zhx]
   omega
 have e4 : zbt x := by unfold zbt; omega
 have e5 : zbt [97] := by unfold zbt; decide
 simp [std, e0, e1, e2, e3, e4, e5, DkS.usable, DkS.k, hk]
 decide
theorem ycg (k : Int) (x y s : List UInt8) (hk : zcc k) (hx : x.length <= 50) (hy : y.length <= 50) : zaq Try.prog 10 [.ref 500000 0, .str nmB, .str x] (dkO 500005 (.c k y s)) (.int .i64 0) (wrO std x (.c k y s)) := by
 refine zad (T := tt) (S := fun L => zay [zzj L, zkm L] [ydq, zq4 L, zho L, zi2]) (lo := noA) (lb := noA) 8 (fn := Try.f10) (xs := fun L => [.ref 500000 0, .str nmB, .str x]) (rts := fun _ => [.int .i64 0]) (O := fun L => dkO 500005 (.c k y s)) (O1 := fun L => wrO L x (.c k y s))
   rfl rfl (by kernel_rfl) (by kernel_rfl) (by kernel_rfl) zbk (za6 ⟨zqf, zgm, trivial⟩ ⟨ziy, zmk, zft, zii, trivial⟩) (by kernel_rfl) ?_
 intro L P' Q' hL hP hQ
 (cbv; try simp only [syT, true_and, and_true])
 subst hL
 have e0 : ine 0 0 = false := by decide
 have e1 : zgn [98] = true := by decide
 have e2 : ile 16 (Int.ofNat 1) = false := by decide
 have e3 : ilt 100 (ze3 .i64 (slen x) (slen y)) = false := by
   rw [zk6]
   unfold ze3 slen
   rw [zhx]
   omega
 have e4 : zbt x := by unfold zbt; omega
 have e6 : zbt y := by unfold zbt; omega
 have e5 : zbt [98] := by unfold zbt; decide
 simp [std, e0, e1, e2, e3, e4, e5, e6, DkS.usable, DkS.k, hk]
 decide
theorem zru : zbx Try.prog (zon std) := by
 intro raw ob T hT hp
 unfold zon at hT
 simp only at hT
 repeat' split at hT
 all_goals first | (cases hT; done) | skip
 rename_i x _ sh hsh
 cases hT
 have hp : yin x sh := hp
 cases sh with
 | a k => exact ych k x hp.1 hp.2
 | b k y s => exact hp.elim
 | c k y s => exact ycg k x y s hp.1 hp.2.1 hp.2.2
 | d k y s z t => exact hp.elim
def zum (L : zae) : ze1 := (13, fun raw ob => match raw with
 | [.ref id 0, .str _] => match zy0 ob id with
   | some (.b k x s) => some ⟨[.ref 500000 0, .str nmA], dkO 500005 (.b k x s), L zcc k, .int .i64 0, dkO 500005 (.b (L inc k) x x)⟩
   | _ => none
 | _ => none)
theorem yge (k : Int) (x s : List UInt8) (hk : zcc k) : zaq Try.prog 13 [.ref 500000 0, .str nmA] (dkO 500005 (.b k x s)) (.int .i64 0) (dkO 500005 (.b (inc k) x x)) := by
 refine zad (T := tt) (S := fun L => zay [] [zl9, zho L]) (lo := noA) (lb := noA) 8 (fn := Try.f13) (xs := fun L => [.ref 500000 0, .str nmA]) (rts := fun _ => [.int .i64 0]) (O := fun L => dkO 500005 (.b k x s)) (O1 := fun L => dkO 500005 (.b (L inc k) x x))
   rfl rfl (by kernel_rfl) (by kernel_rfl) (by kernel_rfl) zbk (za6 trivial ⟨zke, zft, trivial⟩) (by kernel_rfl) ?_
 intro L P' Q' hL hP hQ
 (cbv; try simp only [syT, true_and, and_true])
 subst hL
 have e0 : ieq 0 0 = true := by decide
 simp [std, e0, DkS.k, hk]
theorem zuo : zbx Try.prog (zum std) := by
 intro raw ob T hT hp
 unfold zum at hT
 simp only at hT
 repeat' split at hT
 all_goals first | (cases hT; done) | (cases hT; exact yge _ _ _ hp)
def sdO (k : Int) (x s : List UInt8) : List (Nat × Ob) := [(500000, zrn 500001 18 .nils k), (500001, .mapl .s [(.s nmA, .ref 500003 0)]), (18, .mapl .s [(.s nmA, .ref 500003 0)]), (500003, zcp x s)]
def zuw (L : zae) : ze1 := (15, fun raw ob => match raw with
 | [.ref id 0] => match zy0 ob id with
   | some (.b k x s) => some ⟨[.ref 500000 0], dkO 500005 (.b k x s), L zcc k, .int .i64 0, sdO (L inc k) x s⟩
   | _ => none
 | _ => none)
theorem ygp (k : Int) (x s : List UInt8) (hk : zcc k) : zaq Try.prog 15 [.ref 500000 0] (dkO 500005 (.b k x s)) (.int .i64 0) (sdO (inc k) x s) := by
 refine zad (T := tt) (S := fun L => zay [] [ydq, zho L, zid]) (lo := noA) (lb := noA) 8 (fn := Try.f15) (xs := fun L => [.ref 500000 0]) (rts := fun _ => [.int .i64 0]) (O := fun L => dkO 500005 (.b k x s)) (O1 := fun L => sdO (L inc k) x s)
   rfl rfl (by kernel_rfl) (by kernel_rfl) (by kernel_rfl) zbk (za6 trivial ⟨ziy, zft, zjs, trivial⟩) (by kernel_rfl) ?_
 intro L P' Q' hL hP hQ
 (cbv; try simp only [syT, true_and, and_true])
 subst hL
 have e0 : ieq 0 0 = true := by decide
 simp [std, e0, DkS.k, hk]
theorem zuy : zbx Try.prog (zuw std) := by
 intro raw ob T hT hp
 unfold zuw at hT
 simp only at hT
 repeat' split at hT
 all_goals first | (cases hT; done) | (cases hT; exact ygp _ _ _ hp)
def zw1 : ze1 := (14, fun raw ob => match raw with
 | [.ref id 0, .str _] => match zy0 ob id with
   | some (.c k x s) => some ⟨[.ref 500000 0, .str nmA], dkO 500005 (.c k x s), True, .tup [.str x, .int .i64 0], dkO 500005 (.c k x s)⟩
   | _ => none
 | _ => none)
theorem ygy (k : Int) (x s : List UInt8) : zaq Try.prog 14 [.ref 500000 0, .str nmA] (dkO 500005 (.c k x s)) (.tup [.str x, .int .i64 0]) (dkO 500005 (.c k x s)) := by
 refine zad (T := tt) (S := fun L => zay [] [zl9]) (lo := noA) (lb := noA) 8 (fn := Try.f14) (xs := fun L => [.ref 500000 0, .str nmA]) (rts := fun _ => [.str x, .int .i64 0]) (O := fun L => dkO 500005 (.c k x s)) (O1 := fun L => dkO 500005 (.c k x s))
   rfl rfl (by kernel_rfl) (by kernel_rfl) (by kernel_rfl) zbk (za6 trivial ⟨zke, trivial⟩) (by kernel_rfl) ?_
 intro L P' Q' hL hP hQ
 (cbv; try simp only [syT, true_and, and_true])
 subst hL
 have e0 : ine 0 0 = false := by decide
 simp [std, e0]
theorem zw3 : zbx Try.prog zw1 := by
 intro raw ob T hT hp
 unfold zw1 at hT
 simp only at hT
 repeat' split at hT
 all_goals first | (cases hT; done) | (cases hT; exact ygy _ _ _)
def zmb : ze1 := (34, fun raw ob => match raw with
 | [.mp n] => match ob n with
   | some (.mapl _ [(_, .ref i _)]) => some ⟨[.mp 500001], ybt (zbd (ob i)).1 (zbd (ob i)).2, True, .fn 48 [] [.ref 1 0], zb6 [(1, .box 60 [.mp 500001])] (ybt (zbd (ob i)).1 (zbd (ob i)).2)⟩
   | _ => none
 | _ => none)
theorem yb9 (x s : List UInt8) : zaq Try.prog 34 [.mp 500001] (ybt x s) (.fn 48 [] [.ref 1 0]) (zb6 [(1, .box 60 [.mp 500001])] (ybt x s)) := by
 refine zad (T := tt) (S := fun L => zay [] []) (lo := noA) (lb := noA) 8 (fn := Try.f34) (xs := fun L => [.mp 500001]) (rts := fun _ => [.fn 48 [] [.ref 1 0]]) (O := fun L => ybt x s) (O1 := fun L => zb6 [(1, .box 60 [.mp 500001])] (ybt x s))
   rfl rfl (by kernel_rfl) (by kernel_rfl) (by kernel_rfl) zbk (za6 trivial trivial) (by kernel_rfl) ?_
 intro L P' Q' hL hP hQ
 (cbv; try simp only [syT, true_and, and_true])
theorem zkz : zbx Try.prog zmb := by
 intro raw ob T hT hp
 unfold zmb at hT
 simp only at hT
 repeat' split at hT
 all_goals first | (cases hT; done) | (cases hT; exact yb9 _ _)
def zp7 : ze1 := (12, fun raw ob => match raw with
 | [.ref id 0] => match zy0 ob id with
   | some (.c k x s) => some ⟨[.ref 500000 0], dkO 500005 (.c k x s), True, .lst 1 1 (fun _ _ => .str nmA), dkO 500005 (.c k x s)⟩
   | _ => none
 | _ => none)
theorem ydw (k : Int) (x s : List UInt8) : zaq Try.prog 12 [.ref 500000 0] (dkO 500005 (.c k x s)) (.lst 1 1 (fun _ _ => .str nmA)) (dkO 500005 (.c k x s)) := by
 refine zad (T := tt) (S := fun L => zay [] [ydq, zmb, zi5]) (lo := noA) (lb := noA) 8 (fn := Try.f12) (xs := fun L => [.ref 500000 0]) (rts := fun _ => [.lst 1 1 (fun _ _ => .str nmA)]) (O := fun L => dkO 500005 (.c k x s)) (O1 := fun L => dkO 500005 (.c k x s))
   rfl rfl (by kernel_rfl) (by kernel_rfl) (by kernel_rfl) zbk (za6 trivial ⟨ziy, zkz, zim, trivial⟩) (by kernel_rfl) ?_
 intro L P' Q' hL hP hQ
 (cbv; try simp only [syT, true_and, and_true])
 subst hL
 have e0 : ine 0 0 = false := by decide
 simp [std, e0]
theorem zt6 : zbx Try.prog zp7 := by
 intro raw ob T hT hp
 unfold zp7 at hT
 simp only at hT
 repeat' split at hT
 all_goals first | (cases hT; done) | (cases hT; exact ydw _ _ _)
def zwc (x s : List UInt8) (i : Nat) : List UInt8 := if i = 0 then x else s
def isZ (i : Nat) : Bool := decide (i = 0)
def crA (L : zae) (k : Int) (x s y t : List UInt8) : Nat -> St -> Option Ann := fun id st => match id with
 | 0 => some ⟨Nat, fun i => [(21, .int .i64 (L zab i))], fun _ => [], [0, 1, 2, 19, 20], [500000, 500001, 500002, 500003, 500004, 500005], fun i => L (fun i => i <= 1) i, fun i => L (fun (i : Nat) => 1 - i) i⟩
 | 2 => some ⟨Nat, fun i => [(51, .int .i64 (L zab i)), (9, .int .i64 (L zab i))], fun i => [(500000, zps (.sl 500005 4 0 1) k), (500001, .mapl .s [(.s nmA, .ref 500003 0), (.s nmB, .ref 500004 0)]), (500002, .mapl .s [(.s nmA, .ref 500003 0)]), (500003, .box 68 [.str (L3 L zwc x s i), .str s]), (500004, zcp y t), (43, .mapq (L isZ i))], [0, 2, 8, 49, 50], [500005], fun i => L (fun i => i <= 1) i, fun i => L (fun (i : Nat) => 1 - i) i⟩
 | _ => none
def crO (k : Int) (s : List UInt8) : List (Nat × Ob) := [(500000, zrn 19 500002 .nils k), (19, .mapl .s [(.s nmA, .ref 500003 0)]), (500002, .mapl .s [(.s nmA, .ref 500003 0)]), (500003, zcp s s)]
def zpt (L : zae) : ze1 := (18, fun raw ob => match raw with
 | [.ref id 0, .nils, .nils] => match zy0 ob id with
   | some (.d k x s y t) => some ⟨[.ref 500000 0, .nils, .nils], dkO 500005 (.d k x s y t), L zbt s, .tup [], crO k s⟩
   | _ => none
 | _ => none)
theorem yew (k : Int) (x s y t : List UInt8) (hs : zbt s) : zaq Try.prog 18 [.ref 500000 0, .nils, .nils] (dkO 500005 (.d k x s y t)) (.tup []) (crO k s) := by
 refine zad (T := tt) (S := fun L => zay [] [yi7, zmb, zi5, zxa L, zid]) (lo := fun L => crA L k x s y t) (lb := noA) 12 (fn := Try.f18) (xs := fun L => [.ref 500000 0, .nils, .nils]) (rts := fun _ => []) (O := fun L => dkO 500005 (.d k x s y t)) (O1 := fun L => crO k s)
   rfl rfl (by kernel_rfl) (by kernel_rfl) (by kernel_rfl) zbk (za6 trivial ⟨zpp, zkz, zim, zxc, zjs, trivial⟩) (by kernel_rfl) ?_
 intro L P' Q' hL hP hQ
 (cbv; try simp only [syT, true_and, and_true])
 refine ⟨fun h => (by cases h), fun _ => ⟨⟨0, ?_⟩, fun i hi => ?_⟩⟩
 · (cbv; try simp only [syT, true_and, and_true])
   subst hL
   exact ⟨fun _ _ _ _ => trivial, rfl, Nat.zero_le _⟩
 · (cbv; try simp only [syT, true_and, and_true])
   refine ⟨fun h2 => ⟨?_, fun h3 => ?_, fun h3 => ⟨i + 1, ?_⟩⟩, fun h2 => ⟨⟨0, ?_⟩, fun j hj => ?_⟩⟩
   · subst hL
     have h2 : ilt (zab i) (zab 1) = true := h2
     rw [zfb] at h2
     show inR (zab i) (zab 1) = true
     rw [znq]
     exact ⟨Int.natCast_nonneg _, h2⟩
   · subst hL
     have h3 : ilt (zab i) 0 = true := h3
     rw [zfb] at h3
     unfold zab at h3
     omega
   · (cbv; try simp only [syT, true_and, and_true])
     subst hL
     have hi : i <= 1 := hi
     have h2 : ilt (zab i) (zab 1) = true := h2
     rw [zfb] at h2
     unfold zab at h2
     refine ⟨fun _ _ _ _ => trivial, ?_, ?_, ?_⟩
     · show ze3 .i64 (zab i) 1 = zab (i + 1)
       unfold ze3 zab
       rw [zhx]
       omega
     · show i + 1 <= 1
       omega
     · show 1 - (i + 1) < 1 - i
       omega
   · (cbv; try simp only [syT, true_and, and_true])
     subst hL
     exact ⟨fun _ _ _ _ => trivial, fun _ => trivial, rfl, fun _ _ _ _ => trivial, rfl, rfl, Nat.zero_le _⟩
   · (cbv; try simp only [syT, true_and, and_true])
     refine ⟨fun h3 => ⟨?_, ?_, fun h => (by cases h), fun _ => ⟨fun h4 => ?_, fun h4 => ⟨?_, ?_, ⟨j + 1, ?_⟩⟩⟩⟩, fun h3 => ?_⟩
     · subst hL
       have h3 : ilt (zab j) (zab 1) = true := h3
       rw [zfb] at h3
       show inR (zab j) (zab 1) = true
       rw [znq]
       exact ⟨Int.natCast_nonneg _, h3⟩
     · subst hL
       have h3 : ilt (zab j) (zab 1) = true := h3
       rw [zfb] at h3
       unfold zab at h3
       exact decide_eq_true (show j = 0 by omega)
     · subst hL
       have h4 : ilt (zab j) 0 = true := h4
       rw [zfb] at h4
       unfold zab at h4
       omega
     · subst hL
       exact hs
     · subst hL
       have h3 : ilt (zab j) (zab 1) = true := h3
       rw [zfb] at h3
       unfold zab at h3
       exact decide_eq_true (show j = 0 by omega)
     · (cbv; try simp only [syT, true_and, and_true])
       subst hL
       have hj : j <= 1 := hj
       have h3 : ilt (zab j) (zab 1) = true := h3
       rw [zfb] at h3
       unfold zab at h3
       have ew : ze3 .i64 (zab j) 1 = zab (j + 1) := by
         unfold ze3 zab
         rw [zhx]
         omega
       refine ⟨fun _ _ _ _ => trivial, fun h => ?_, ?_, fun _ _ _ _ => trivial, ew, ew, ?_, ?_⟩
       · have h : decide (j + 1 = 0) = true := h
         simp at h
       · show s = zwc x s (j + 1)
         unfold zwc
         rw [if_neg (by omega)]
       · show j + 1 <= 1
         omega
       · show 1 - (j + 1) < 1 - j
         omega
     · subst hL
       have h3 : ilt (zab j) (zab 1) = false := h3
       rw [zk6] at h3
       unfold zab at h3
       show zwc x s j = s
       unfold zwc
       rw [if_neg (by omega)]
theorem ztv : zbx Try.prog (zpt std) := by
 intro raw ob T hT hp
 unfold zpt at hT
 simp only at hT
 repeat' split at hT
 all_goals first | (cases hT; done) | (cases hT; exact yew _ _ _ _ _ hp)
theorem ztz : zco Try.prog 7 [] (.bool true) := by
 refine zfw (T := tt) (S := fun L => zay [] [ydt L, zon L, zum L, zuw L, zpt L, zw1, zp7]) (lo := noA) (lb := noA) 12 (fn := Try.f7) rfl rfl (by kernel_rfl) (by kernel_rfl) rfl zbk (za6 trivial ⟨yaa, zru, zuo, zuy, ztv, zw3, zt6, trivial⟩) (by kernel_rfl) ?_
 intro L P' Q' hL hP hQ
 (cbv; try simp only [syT, true_and, and_true])
 subst hL
 subst hQ
 have e0 : ine 0 0 = false := by decide
 have e1 : ieq 0 0 = true := by decide
 have s0 : zcc 0 := ⟨by decide, by decide⟩
 have s1 : zcc (inc 0) := ⟨by decide, by decide⟩
 have s2 : zcc (inc (inc 0)) := ⟨by decide, by decide⟩
 have s3 : zcc (inc (inc (inc 0))) := ⟨by decide, by decide⟩
 have w1 : yin [120] (.a 0) := ⟨s0, by decide⟩
 have w2 : yin [121] (.c (inc (inc (inc 0))) [120] [120]) := ⟨s3, by decide, by decide⟩
 have sh : zbt [120] := by unfold zbt; decide
 have q1 : seq [120] [120] = true := by decide
 have q2 : ieq (zab 1) 1 = true := by decide
 simp [std, e0, e1, s1, s2, w1, w2, sh, q1, q2, zct]
structure Wa where
 d : Int
 a : List UInt8
 t : List UInt8
 n : Int
 b : Int
 h : List Bool
 m : List Int
def waC (L : zae) (x : Wa) : Nat -> AV
 | 0 => .int .u8 (L Wa.d x)
 | 1 => .str (L Wa.a x)
 | 2 => .str (L Wa.t x)
 | 3 => .int .u16 (L Wa.n x)
 | 4 => .int .u8 (L Wa.b x)
 | 5 => zhu L (L Wa.h x)
 | _ => znc L (L Wa.m x)
def waD : Wa := ⟨0, [], [], 0, 0, [], []⟩
def zb5 (l : List Wa) (i : Nat) : Wa := l.getD i waD
def zx4 (l : List Wa) : Nat := l.length
def yjd (x : Wa) : Prop := ycn x.n
theorem yhj {h : Array Obj} {D : Nat -> Prop} {μ : Mu} {sz n : Nat} {get get' : Nat -> Nat -> AV} {v : Value} (e : ∀ i j, i < n -> j < sz -> get i j = get' i j) (r : R h D μ (.lst sz n get) v) : R h D μ (.lst sz n get') v := by
 cases r with
 | lst0 _ _ a cap hn => exact .lst0 _ _ a cap hn
 | lst _ _ _ b o cap vs hD hc hv h1 hr => exact .lst _ _ _ b o cap vs hD hc hv h1 (fun i j hi hj => by rw [<- e i j hi hj]; exact hr i j hi hj)
theorem zn7 {H : Type} {enc : TypeId × Value -> H} {P : Program} {W : World} {t e : TypeId} {α : Type} {V : Vw α} {ok : α -> Prop} (ht : P.underlying t = some (.slice e)) (hc : P.cellsOf t = 1) (he : zev enc P W e α V.sz (V.cell std) ok) (hs : 0 < V.sz) :
   zev enc P W t (List α) 1 (fun l _ => lstW std V l) (fun l => l.length <= maxLen /\ ∀ y ∈ l, ok y) :=
 (opens_slice ht hc he hs).turn id (fun y h => h) (fun y h j hj v r => yhj (fun i q hi hq => by
   show avL (V.cell std) y i q = V.cell std (yiz V y i) q
   have hi : i < y.length := hi
   rw [avL, List.getElem?_eq_getElem hi, ydr hi]) r)
def vwB : Vw Bool := ⟨1, fun L b _ => .bool b, fun _ => false, fun _ => True, false⟩
def vwM : Vw Int := ⟨1, fun L b _ => .int .u64 b, fun _ => 0, fun _ => True, 0⟩
theorem opens_bits {H : Type} {enc : TypeId × Value -> H} {W : World} : zev enc Try.prog W 23 (List Bool) 1 (fun l _ => zhu std l) (fun _ => True) :=
 (zn7 (V := vwB) Try.underlying23 (by kernel_rfl) (zt0 Try.underlying4 (by kernel_rfl)) (by decide)).map id (fun y j hj => rfl) (fun y h => trivial)
theorem opens_msks {H : Type} {enc : TypeId × Value -> H} {W : World} : zev enc Try.prog W 24 (List Int) 1 (fun l _ => znc std l) (fun _ => True) :=
 (zn7 (V := vwM) Try.underlying24 (by kernel_rfl) (zgj Try.underlying83 (by kernel_rfl)) (by decide)).map id (fun y j hj => rfl) (fun y h => trivial)
theorem ztx {n : Int} (h : (Lit.int .u16 n).wf = true) : 0 <= n /\ n < 65536 := by
 have := bounds_u16 h
 omega
theorem opens_Wa {H : Type} {enc : TypeId × Value -> H} {W : World} : zev enc Try.prog W 32 Wa 7 (waC std) yjd :=
 (zn6 Try.underlying32 (by kernel_rfl) (zce rfl (zgj Try.underlying5 (by kernel_rfl)) (zce rfl (opens_str Try.underlying9 (by kernel_rfl)) (zce rfl (opens_str Try.underlying9 (by kernel_rfl)) (zce rfl (zgj Try.underlying30 (by kernel_rfl)) (zce rfl (zgj Try.underlying5 (by kernel_rfl)) (zce rfl opens_bits (zce rfl opens_msks (zt1 _))))))))).map
   (fun y => ⟨y.1, y.2.1, y.2.2.1, y.2.2.2.1, y.2.2.2.2.1, y.2.2.2.2.2.1, y.2.2.2.2.2.2.1⟩)
   (fun y j hj => by match j, hj with | 0, _ => rfl | 1, _ => rfl | 2, _ => rfl | 3, _ => rfl | 4, _ => rfl | 5, _ => rfl | 6, _ => rfl)
   (fun y h => ztx h.2.2.2.1)
theorem avWa (l : List Wa) (i j : Nat) (h : i < l.length) : avL (waC std) l i j = waC std (zb5 l i) j := by
 rw [avL, zb5, List.getD_eq_getElem?_getD, List.getElem?_eq_getElem h]; rfl
theorem zwb {l : List Wa} {i : Nat} (h : i < l.length) : zb5 l i ∈ l := by
 rw [zb5, List.getD_eq_getElem?_getD, List.getElem?_eq_getElem h]
 exact List.getElem_mem h
structure WI (x : Dk) (i : Nat) : Prop where
 down : x.down = false
 fuse : x.fuse = -1
 pend : x.pend.length <= i
 names : x.names.length <= i
 keys : ∀ y ∈ x.names, y.1.length <= 60
 ok : ∀ k, znb (za4 x.nd k)
theorem ybx : znb ndD := ⟨by show 0 <= _; omega, by show 0 <= _; omega⟩
theorem zj3 (k : List UInt8) (v : Nat) : ∀ l : List (List UInt8 × Nat), (zfm l k v).length <= l.length + 1
 | [] => Nat.le_refl _
 | x :: r => by
   have ih := zj3 k v r
   unfold zfm
   cases decide (x.1 = k)
   · cases slt k x.1
     · show (x :: zfm r k v).length <= _
       simp only [List.length_cons]
       omega
     · show ((k, v) :: x :: r).length <= _
       simp
   · show ((k, v) :: r).length <= _
     simp
theorem zup {x : Dk} (h : x.fuse = -1) : zan x = 0 /\ (zaj x).down = x.down /\ (zaj x).fuse = -1 := by
 have h0 : ¬ x.fuse = 0 := by omega
 refine ⟨if_neg h0, ?_, ?_⟩
 · unfold zaj; rw [if_neg h0]
 · unfold zaj; rw [if_neg h0]
   show (if 0 < x.fuse then _ else x.fuse) = -1
   rw [if_neg (by omega), h]
theorem ybn {l : List Nd} {k : Nat} {v : Nd} (h : ∀ q, znb (za4 l q)) (hv : znb v) (q : Nat) : znb (za4 (l.set k v) q) := by
 rw [zgl]
 split
 · exact hv
 · exact h q
theorem zi1 (x : Dk) (s t : List UInt8) : zbz x.nd <= zbz (zfy x s t).nd := by
 obtain ⟨e1, e2, e3, e4, e5⟩ := zbg x
 unfold zfy zbz
 split
 · split
   · split
     · show x.nd.length <= ((zaj x).nd.set _ _).length
       rw [List.length_set, e1]; exact Nat.le_refl _
     · show x.nd.length <= (((zaj x).nd ++ [ndD]).set _ _).length
       rw [List.length_set, e1, List.length_append]; exact Nat.le_add_right _ _
   · rw [e1]; exact Nat.le_refl _
 · exact Nat.le_refl _
theorem yco {n : Int} (h : ycn n) : zmi n < 3000 := by
 have h : 0 <= n /\ n < 65536 := h
 have : n.tmod 3000 = ((n.toNat % 3000 : Nat) : Int) := by
   obtain ⟨k, rfl⟩ : ∃ k : Nat, n = k := ⟨n.toNat, by omega⟩
   exact (Int.ofNat_tmod k 3000).symm
 unfold zmi
 omega
theorem zq7 {n b : Int} (h : ycn n) : (ycp n b).length < 3000 := by
 have := yco h
 simpa [ycp, zb2] using this
theorem ye3 {a t : List UInt8} {hn mn : Nat} (h : zj8 a t hn mn = true) : a.length <= 60 /\ t.length <= 60 /\ hn <= 60 /\ mn <= 60 := of_decide_eq_true h
def syD (x : Dk) : Nat -> Dk
 | 0 => x
 | j + 1 => zdl (syD x j) (zgr x.names j)
structure SI (x y : Dk) (j : Nat) : Prop where
 down : y.down = false
 fuse : y.fuse = -1
 names : y.names = x.names
 pend : y.pend = x.pend
 len : zbz y.nd = zbz x.nd
 now : ∀ k, (za4 y.nd k).now = (za4 x.nd k).now
 ok : ∀ k, znb (za4 y.nd k)
 same : ∀ q, q < j -> (za4 y.nd (crK x.names q)).sure = (za4 y.nd (crK x.names q)).now
theorem sy_0 {x : Dk} {i : Nat} (h : WI x i) : SI x (syD x 0) 0 := ⟨h.down, h.fuse, rfl, rfl, rfl, fun _ => rfl, h.ok, fun q hq => absurd hq (Nat.not_lt_zero q)⟩
theorem ygf {x y : Dk} {j q : Nat} (h : SI x y j) (hq : q < mlen x.names) : thE y (zgr x.names q) = 0 := by
 unfold thE
 rw [if_neg (by rw [h.down]; decide), if_pos (by rw [h.names]; exact zhi hq)]
theorem yct {x y : Dk} {j : Nat} (h : SI x y j) (hj : j < mlen x.names) : SI x (zdl y (zgr x.names j)) (j + 1) := by
 obtain ⟨s1, s2, s3⟩ := zup h.fuse
 obtain ⟨e1, e2, e3, e4, e5⟩ := zbg y
 have hk : thK y (zgr x.names j) = crK x.names j := by
   unfold thK crK; rw [h.names]
 have hx : zdl y (zgr x.names j) = { zaj y with nd := y.nd.set (crK x.names j) ⟨(za4 y.nd (crK x.names j)).now, (za4 y.nd (crK x.names j)).now⟩ } := by
   unfold zdl
   rw [if_pos (ygf h hj), if_pos s1, hk]
 rw [hx]
 refine ⟨s2.trans h.down, s3, e2.trans h.names, e4.trans h.pend, List.length_set.trans h.len, fun k => ?_, fun k => ybn h.ok (v := ⟨(za4 y.nd (crK x.names j)).now, (za4 y.nd (crK x.names j)).now⟩) ⟨(h.ok (crK x.names j)).1, (h.ok (crK x.names j)).1⟩ k, fun q hq => ?_⟩
 · show (za4 (y.nd.set _ _) k).now = _
   rw [zgl]
   split
   · rename_i e; rw [e.1]; exact h.now _
   · exact h.now k
 · show (za4 (y.nd.set _ _) _).sure = (za4 (y.nd.set _ _) _).now
   rw [zgl]
   split
   · rfl
   · rename_i e
     by_cases e2 : q = j
     · subst e2
       have : ¬ crK x.names q < y.nd.length := fun e3 => e ⟨rfl, e3⟩
       unfold za4
       rw [List.getD_eq_getElem?_getD, List.getElem?_eq_none (by omega)]; rfl
     · exact h.same q (by omega)
theorem zqa {x : Dk} {i : Nat} (h : WI x i) : ∀ j, j <= mlen x.names -> SI x (syD x j) j
 | 0, _ => sy_0 h
 | j + 1, hj => yct (zqa h j (by omega)) hj
def syE (x : Dk) : Dk := zf4 (syD x (mlen x.names))
structure EI (x z : Dk) : Prop where
 down : z.down = false
 fuse : z.fuse = -1
 names : z.names = x.names
 sure : z.sure = x.names
 pend : z.pend = []
 now : ∀ k, (za4 z.nd k).now = (za4 x.nd k).now
 ok : ∀ k, znb (za4 z.nd k)
 same : ∀ q, q < mlen x.names -> (za4 z.nd (crK x.names q)).sure = (za4 z.nd (crK x.names q)).now
theorem ei {x : Dk} {i : Nat} (h : WI x i) : EI x (syE x) := by
 have s := zqa h (mlen x.names) (Nat.le_refl _)
 obtain ⟨s1, s2, s3⟩ := zup s.fuse
 obtain ⟨e1, e2, e3, e4, e5⟩ := zbg (syD x (mlen x.names))
 have hx : syE x = { zaj (syD x (mlen x.names)) with sure := (syD x (mlen x.names)).names, pend := [] } := by
   unfold syE zf4
   rw [if_neg (by rw [s.down]; decide), if_pos s1]
 rw [hx]
 exact ⟨s2.trans s.down, s3, e2.trans s.names, s.names, rfl, fun k => by show (za4 (zaj _).nd k).now = _; rw [e1]; exact s.now k, fun k => by show znb (za4 (zaj _).nd k); rw [e1]; exact s.ok k, fun q hq => by show (za4 (zaj _).nd _).sure = (za4 (zaj _).nd _).now; rw [e1]; exact s.same q hq⟩
theorem yec {x : Nd} (h : x.sure = x.now) (m : Int) : kF x m = x.now := by
 have h1 : zgz x m = x.now.length := by
   unfold zgz; rw [h]; split <;> rfl
 have h2 : ∀ i, zm3 x m i = x.now := fun i => by
   unfold zm3; rw [h]; split <;> rfl
 unfold kF
 rw [h1]
 refine Eq.trans ?_ (zo8 x.now)
 unfold zb2
 refine List.map_congr_left fun i hi => ?_
 have hi : i < x.now.length := by simpa using hi
 show UInt8.ofNat (kAt x m i).toNat = UInt8.ofNat (zoi x.now i).toNat
 unfold kAt
 rw [h2, if_pos hi]
theorem zi4 (x : Dk) (s : List UInt8) : zbz (zdl x s).nd = zbz x.nd := by
 obtain ⟨e1, e2, e3, e4, e5⟩ := zbg x
 unfold zdl zbz
 split
 · split
   · exact List.length_set
   · rw [e1]
 · rfl
theorem zi6 (x : Dk) : zbz (zf4 x).nd = zbz x.nd := by
 obtain ⟨e1, e2, e3, e4, e5⟩ := zbg x
 unfold zf4 zbz
 split
 · rfl
 · split
   · rw [e1]
   · rw [e1]
theorem zo3 (nd : List Nd) (s : List (List UInt8 × Nat)) (m : List Int) : ∀ j, (ybc nd s m j).nd.length = nd.length
 | 0 => rfl
 | j + 1 => by
   have ih := zo3 nd s m j
   show (crP (ybc nd s m j) (crK s j) m).nd.length = _
   unfold crP
   split
   · exact ih
   · exact List.length_set.trans ih
theorem zmc (x : Dk) (h : List Bool) (m : List Int) : zbz (crD x h m).nd = zbz x.nd := zo3 _ _ _ _
def nmS : List UInt8 := [115, 117, 114, 101]
structure NI (l : List (List UInt8 × Nat)) : Prop where
 rise : zgq l
 has : zc5 l nmS = true
 val : zdd l nmS = 0
 oth : ∀ s, s ≠ nmS -> zc5 l s = true -> zdd l s ≠ 0
theorem ybv {l : List (List UInt8 × Nat)} (h : NI l) {s : List UInt8} {k : Nat} (hs : s ≠ nmS) (hk : k ≠ 0) : NI (zfm l s k) := by
 refine ⟨zj2 h.rise, ?_, ?_, fun q hq hh => ?_⟩
 · rw [zgs, h.has]; simp
 · rw [zgo, if_neg (fun e => hs e.symm)]; exact h.val
 · rw [zgo]
   split
   · exact hk
   · rename_i e
     rw [zgs, decide_eq_false e, Bool.false_or] at hh
     exact h.oth q hq hh
theorem ybw {l : List (List UInt8 × Nat)} (h : NI l) {s : List UInt8} (hs : s ≠ nmS) : NI (zhj l s) := by
 refine ⟨zng h.rise, ?_, ?_, fun q hq hh => ?_⟩
 · rw [zgt _ h.rise, h.has, decide_eq_false (fun e => hs e.symm)]; rfl
 · rw [zi9 (fun e => hs e.symm)]; exact h.val
 · rw [zgt _ h.rise, Bool.and_eq_true] at hh
   have e : ¬ q = s := by simpa using hh.1
   rw [zi9 e]
   exact h.oth q hq hh.2
structure TnI (u : Tn) : Prop where
 fr : u.fr ≠ nmS
 tt : u.tt2 ≠ nmS
 new : u.kd = 1 -> u.c = true /\ u.k ≠ 0
 len : u.tt2.length <= 60
theorem yhg {l : List (List UInt8 × Nat)} (h : NI l) {u : Tn} (hu : TnI u) : NI (doL l u) := by
 unfold doL
 split
 · rename_i e; exact ybv h hu.tt (hu.new e).2
 · split
   · rename_i e
     split
     · exact ybv (ybw h hu.fr) hu.tt (h.oth _ hu.fr e)
     · exact ybw h hu.fr
   · exact h
def zk3 (l : List (List UInt8 × Nat)) : Prop := ∀ y ∈ l, y.1.length <= 60
theorem znh (l : List (List UInt8 × Nat)) (k : List UInt8) : (zhj l k).length <= l.length := (zia k l).length_le
theorem yhs {l : List (List UInt8 × Nat)} (h : zk3 l) {s : List UInt8} {k : Nat} (hs : s.length <= 60) : zk3 (zfm l s k) := fun y hy => by
 rcases zlq hy with rfl | hy
 · exact hs
 · exact h y hy
theorem yht {l : List (List UInt8 × Nat)} (h : zk3 l) {s : List UInt8} : zk3 (zhj l s) := fun y hy => h y ((zia s l).subset hy)
theorem k_do {l : List (List UInt8 × Nat)} (h : zk3 l) {u : Tn} (hu : u.tt2.length <= 60) : zk3 (doL l u) := by
 unfold doL
 split
 · exact yhs h hu
 · split
   · split
     · exact yhs (yht h) hu
     · exact yht h
   · exact h
theorem yc8 (l : List (List UInt8 × Nat)) (u : Tn) : (doL l u).length <= l.length + 1 := by
 unfold doL
 split
 · exact zj3 _ _ _
 · split
   · split
     · exact Nat.le_trans (zj3 _ _ _) (Nat.succ_le_succ (znh _ _))
     · exact Nat.le_succ_of_le (znh _ _)
   · exact Nat.le_succ _
structure LI (t : List UInt8) (x : Dk) (n : Nat) : Prop where
 names : NI x.names
 sure : NI x.sure
 nlen : x.names.length <= n + 1
 slen : x.sure.length + x.pend.length <= n + 1
 nk : zk3 x.names
 sk : zk3 x.sure
 pd : ∀ u ∈ x.pend, TnI u
 node : za4 x.nd 0 = ⟨t, t⟩
 one : 0 < x.nd.length
 ok : ∀ k, znb (za4 x.nd k)
theorem zi0 {t : List UInt8} {x : Dk} {n : Nat} (h : LI t x n) : LI t x (n + 1) :=
 ⟨h.names, h.sure, Nat.le_succ_of_le h.nlen, Nat.le_succ_of_le h.slen, h.nk, h.sk, h.pd, h.node, h.one, h.ok⟩
theorem zx1 {t : List UInt8} {x y : Dk} {n : Nat} (h : LI t x n) (e1 : y.nd = x.nd) (e2 : y.names = x.names) (e3 : y.sure = x.sure) (e4 : y.pend = x.pend) : LI t y n := by
 refine ⟨?_, ?_, ?_, ?_, ?_, ?_, ?_, ?_, ?_, ?_⟩
 · rw [e2]; exact h.names
 · rw [e3]; exact h.sure
 · rw [e2]; exact h.nlen
 · rw [e3, e4]; exact h.slen
 · rw [e2]; exact h.nk
 · rw [e3]; exact h.sk
 · rw [e4]; exact h.pd
 · rw [e1]; exact h.node
 · rw [e1]; exact h.one
 · rw [e1]; exact h.ok
theorem zdo {t : List UInt8} {x : Dk} {n : Nat} (h : LI t x n) : LI t (zaj x) n := by
 obtain ⟨e1, e2, e3, e4, e5⟩ := zbg x
 exact zx1 h e1 e2 e3 e4
theorem zpa {t : List UInt8} {x : Dk} {n : Nat} (h : LI t x n) {u : Tn} (hu : TnI u) : LI t (zf2 x u) (n + 1) := by
 refine ⟨yhg h.names hu, h.sure, Nat.le_trans (yc8 _ _) (Nat.succ_le_succ h.nlen), ?_, k_do h.nk hu.len, h.sk, fun v hv => ?_, h.node, h.one, h.ok⟩
 · show x.sure.length + (x.pend ++ [u]).length <= _
   have := h.slen
   simp only [List.length_append, List.length_cons, List.length_nil]
   omega
 · rcases List.mem_append.1 hv with hv | hv
   · exact h.pd v hv
   · rw [List.mem_singleton.1 hv]; exact hu
theorem zx0 {t : List UInt8} {x : Dk} {n : Nat} (h : LI t x n) {k : Nat} {v : Nd} (hk : k ≠ 0 \/ v = ⟨t, t⟩) (hv : znb v) : LI t { x with nd := x.nd.set k v } n := by
 refine ⟨h.names, h.sure, h.nlen, h.slen, h.nk, h.sk, h.pd, ?_, by show 0 < (x.nd.set k v).length; rw [List.length_set]; exact h.one, fun q => ybn h.ok hv q⟩
 show za4 (x.nd.set k v) 0 = _
 rw [zgl]
 split
 · rename_i e
   rcases hk with hk | hk
   · exact absurd e.1.symm hk
   · exact hk
 · exact h.node
theorem yhp {t : List UInt8} {x : Dk} {n : Nat} (h : LI t x n) : LI t (zj1 x) n := by
 refine ⟨h.names, h.sure, h.nlen, h.slen, h.nk, h.sk, h.pd, ?_, by show 0 < (x.nd ++ [ndD]).length; simp, fun q => ?_⟩
 · show za4 (x.nd ++ [ndD]) 0 = _
   rw [zwh, if_neg (by have := h.one; omega)]
   exact h.node
 · show znb (za4 (x.nd ++ [ndD]) q)
   rw [zwh]
   split
   · exact ybx
   · exact h.ok q
theorem yhl {t : List UInt8} {x : Dk} {n : Nat} (h : LI t x n) {s w : List UInt8} (hs : s ≠ nmS) (hl : s.length <= 60) (hw : w.length <= 100000) : LI t (zfy x s w) (n + 1) := by
 obtain ⟨e1, e2, e3, e4, e5⟩ := zbg x
 unfold zfy
 by_cases hp : zit x s w = 0
 · rw [if_pos hp]
   by_cases hz : zan x = 0
   · rw [if_pos hz]
     by_cases hm : zc5 x.names s = true
     · rw [if_pos hm]
       exact zi0 (zx0 (zdo h) (.inl (h.names.oth s hs hm)) ⟨hw, ((zdo h).ok _).2⟩)
     · rw [if_neg hm]
       have h1 := zpa (yhp (zdo h)) (u := ⟨1, [], s, true, x.nd.length⟩) ⟨(by decide : ([] : List UInt8) ≠ nmS), hs, fun _ => ⟨rfl, by have := h.one; show x.nd.length ≠ 0; omega⟩, hl⟩
       exact zx0 h1 (.inl (by have := h.one; omega)) ⟨hw, (h1.ok _).2⟩
   · rw [if_neg hz]; exact zi0 (zdo h)
 · rw [if_neg hp]; exact zi0 h
theorem ye4 {t : List UInt8} {x : Dk} {n : Nat} (h : LI t x n) (s : List UInt8) : LI t (zdl x s) n := by
 obtain ⟨e1, e2, e3, e4, e5⟩ := zbg x
 unfold zdl
 split
 · split
   · have h1 := zx0 (zdo h) (k := thK x s) (v := ⟨(za4 x.nd (thK x s)).now, (za4 x.nd (thK x s)).now⟩) (by
       by_cases e : thK x s = 0
       · right; rw [e, h.node]
       · left; exact e) ⟨(h.ok _).1, (h.ok _).1⟩
     rw [e1] at h1
     exact h1
   · exact zdo h
 · exact h
theorem yhn {t : List UInt8} {x : Dk} {n : Nat} (h : LI t x n) {fr to_ : List UInt8} (hf : fr ≠ nmS) (ht : to_ ≠ nmS) (hl : to_.length <= 60) : LI t (zok x fr to_) (n + 1) := by
 unfold zok
 split
 · split
   · exact zpa (zdo h) ⟨hf, ht, fun e => absurd e (by show ¬ (2 : Int) = 1; decide), hl⟩
   · exact zi0 (zdo h)
 · exact zi0 h
theorem yho {t : List UInt8} {x : Dk} {n : Nat} (h : LI t x n) {s : List UInt8} (hf : s ≠ nmS) : LI t (zqi x s) (n + 1) := by
 unfold zqi
 split
 · split
   · exact zpa (zdo h) ⟨hf, (by decide : ([] : List UInt8) ≠ nmS), fun e => absurd e (by show ¬ (3 : Int) = 1; decide), by show 0 <= 60; decide⟩
   · exact zi0 (zdo h)
 · exact zi0 h
theorem ye5 {t : List UInt8} {x : Dk} {n : Nat} (h : LI t x n) : LI t (zf4 x) n := by
 obtain ⟨e1, e2, e3, e4, e5⟩ := zbg x
 have h1 := zdo h
 unfold zf4
 split
 · exact h
 · split
   · exact ⟨h1.names, h.names, h1.nlen, by show x.names.length + 0 <= _; exact h.nlen, h1.nk, h.nk, fun u hu => by (cases hu), h1.node, h1.one, h1.ok⟩
   · exact h1
theorem ye6 {t : List UInt8} {x : Dk} {n : Nat} (h : LI t x n) (k : Int) : LI t (zto x k) n := zx1 h rfl rfl rfl rfl
theorem zna {l : List Tn} {i : Nat} (h : i < l.length) : zcu l i ∈ l := by
 rw [zcu, List.getD_eq_getElem?_getD, List.getElem?_eq_getElem h]
 exact List.getElem_mem h
theorem zx3 {t : List UInt8} {x : Dk} {n : Nat} (h : LI t x n) (b : List Bool) : ∀ i, i <= x.pend.length -> NI (crS x b i) /\ zk3 (crS x b i) /\ (crS x b i).length <= x.sure.length + i
 | 0, _ => ⟨h.sure, h.sk, Nat.le_refl _⟩
 | i + 1, hi => by
   obtain ⟨a1, a2, a3⟩ := zx3 h b i (by omega)
   have hu := h.pd _ (zna (show i < x.pend.length by omega))
   unfold crS
   split
   · exact ⟨yhg a1 hu, k_do a2 hu.len, by have := yc8 (crS x b i) (zcu x.pend i); omega⟩
   · exact ⟨a1, a2, by omega⟩
theorem zx2 {t : List UInt8} {x : Dk} {n : Nat} (h : LI t x n) (hn : n <= 1000) (b : List Bool) : yi8 x b := by
 obtain ⟨a1, a2, a3⟩ := zx3 h b x.pend.length (Nat.le_refl _)
 have := h.slen
 refine ⟨fun i hi e => ((h.pd _ (zna hi)).new e).1, by show x.pend.length <= 1000000; omega, ⟨?_, fun y hy => ?_⟩, h.ok⟩
 · show (crS x b x.pend.length).length <= 1000000
   omega
 · have := a2 y hy
   unfold maxLen; omega
theorem zo2 {t : List UInt8} {nd : List Nd} {s : List (List UInt8 × Nat)} {m : List Int} (h : za4 nd 0 = ⟨t, t⟩) : ∀ j, za4 (ybc nd s m j).nd 0 = ⟨t, t⟩
 | 0 => h
 | j + 1 => by
   have ih := zo2 (s := s) (m := m) h j
   show za4 (crP (ybc nd s m j) (crK s j) m).nd 0 = _
   unfold crP
   split
   · exact ih
   · show za4 ((ybc nd s m j).nd.set _ ⟨kFL _ _ _, kFL _ _ _⟩) 0 = _
     rw [zgl]
     split
     · rename_i e
       have hk : kFL (ybc nd s m j).nd (crK s j) (zgp m (ybc nd s m j).i) = t := by
         unfold kFL
         rw [<- e.1, ih]
         exact yec rfl _
       rw [hk]
     · exact ih
theorem zr6 {t : List UInt8} {x : Dk} {n : Nat} (h : LI t x n) (b : List Bool) (m : List Int) : LI t (crD x b m) n := by
 obtain ⟨a1, a2, a3⟩ := zx3 h b x.pend.length (Nat.le_refl _)
 have := h.slen
 have a3 : (zha x b).length <= x.sure.length + x.pend.length := a3
 refine ⟨a1, a1, by show (zha x b).length <= _; omega, by show (zha x b).length + 0 <= _; omega, a2, a2, fun u hu => by (cases hu), zo2 h.node _, ?_, fun k => yex h.ok _ k⟩
 have := zmc x b m
 unfold zbz at this
 rw [this]; exact h.one
def lsS (x : Dk) (y : Wa) : Dk :=
 if ieq (Int.tmod y.d 8) 0 = true then zfy x y.a (ycp y.n y.b) else if ieq (Int.tmod y.d 8) 1 = true then zdl x y.a else if ieq (Int.tmod y.d 8) 2 = true then zok x y.a y.t
 else if ieq (Int.tmod y.d 8) 3 = true then zqi x y.a else if ieq (Int.tmod y.d 8) 4 = true then zf4 x else if ieq (Int.tmod y.d 8) 6 = true then zto x (IntKind.i64.wrap (Int.tmod y.n 40))
 else if ieq (Int.tmod y.d 8) 7 = true then crD x y.h y.m else x
def ls0 (t : List UInt8) : Dk := zf4 (zdl (zfy (zkl 65536) nmS t) nmS)
def lsD (t : List UInt8) (l : List Wa) : Nat -> Dk
 | 0 => ls0 t
 | i + 1 => lsS (lsD t l i) (zb5 l i)
def lsI (t : List UInt8) (l : List Wa) (i : Nat) : Prop := i <= l.length /\ LI t (lsD t l i) i
theorem yhq {t : List UInt8} {x : Dk} {n : Nat} (h : LI t x n) {y : Wa} (ha : y.a ≠ nmS) (ht : y.t ≠ nmS) (hla : y.a.length <= 60) (hlt : y.t.length <= 60) (hn : ycn y.n) : LI t (lsS x y) (n + 1) := by
 unfold lsS
 split
 · exact yhl h ha hla (by have := zq7 (b := y.b) hn; omega)
 split
 · exact zi0 (ye4 h _)
 split
 · exact yhn h ha ht hlt
 split
 · exact yho h ha
 split
 · exact zi0 (ye5 h)
 split
 · exact zi0 (ye6 h _)
 split
 · exact zi0 (zr6 h _ _)
 · exact zi0 h
theorem ls_w (t : List UInt8) (ht : t.length <= 3000) : zq3 (zkl 65536) nmS t = 0 /\ zfy (zkl 65536) nmS t = ⟨65536, [⟨t, []⟩], [(nmS, 0)], [], [⟨1, [], nmS, true, 0⟩], 1, -1, false⟩ := by
 have hp : zit (zkl 65536) nmS t = 0 := by
   have h1 : zk1 (zkl 65536) nmS t = (t.length : Int) := by
     show (if zc5 (zkl 65536).names nmS = true then _ else ze3 .i64 (slen t) (zmm (zkl 65536))) = _
     rw [if_neg (by decide), show zmm (zkl 65536) = 0 by decide +kernel]
     unfold ze3 slen
     rw [zhx]; omega
   unfold zit
   rw [if_neg (by decide), if_pos (by decide), if_neg (by rintro ⟨_, h⟩; cases h), h1, if_neg (by show ¬ (65536 : Int) < _; omega)]
 refine ⟨(if_pos hp).trans rfl, ?_⟩
 unfold zfy
 rw [if_pos hp]
 rfl
theorem ls_s (t : List UInt8) (ht : t.length <= 3000) : zgb (zfy (zkl 65536) nmS t) nmS = 0 /\ zdl (zfy (zkl 65536) nmS t) nmS = ⟨65536, [⟨t, t⟩], [(nmS, 0)], [], [⟨1, [], nmS, true, 0⟩], 2, -1, false⟩ := by
 rw [(ls_w t ht).2]
 exact ⟨rfl, rfl⟩
theorem ls_d (t : List UInt8) (ht : t.length <= 3000) : zmq (zdl (zfy (zkl 65536) nmS t) nmS) = 0 /\ ls0 t = ⟨65536, [⟨t, t⟩], [(nmS, 0)], [(nmS, 0)], [], 3, -1, false⟩ := by
 unfold ls0
 rw [(ls_s t ht).2]
 exact ⟨rfl, rfl⟩
theorem ls_0 (t : List UInt8) (l : List Wa) (ht : t.length <= 3000) : lsI t l 0 := by
 have hn : NI [(nmS, 0)] := ⟨List.pairwise_singleton _ _, by decide, by decide, fun s hs hh => by
   have : zc5 [(nmS, 0)] s = cond (decide (nmS = s)) true false := rfl
   rw [this, decide_eq_false (fun e => hs e.symm)] at hh
   cases hh⟩
 have hk : zk3 [(nmS, 0)] := fun y hy => by rw [List.mem_singleton.1 hy]; decide
 refine ⟨Nat.zero_le _, ?_⟩
 show LI t (ls0 t) 0
 rw [(ls_d t ht).2]
 refine ⟨hn, hn, Nat.le_refl _, Nat.le_refl _, hk, hk, fun u hu => by (cases hu), rfl, by show 0 < 1; decide, fun k => ?_⟩
 match k with
 | 0 => exact ⟨by show t.length <= _; omega, by show t.length <= _; omega⟩
 | k + 1 => exact ybx
theorem ye2 {t : List UInt8} {l : List Wa} {i : Nat} (h : lsI t l i) (hi : i < l.length) (ha : (zb5 l i).a ≠ nmS) (ht : (zb5 l i).t ≠ nmS) (hla : (zb5 l i).a.length <= 60) (hlt : (zb5 l i).t.length <= 60) (hn : ycn (zb5 l i).n) : lsI t l (i + 1) :=
 ⟨hi, yhq h.2 ha ht hla hlt hn⟩
theorem yhm {t : List UInt8} {x : Dk} {n : Nat} (h : LI t x n) (b : List Bool) (m : List Int) : thE (crD x b m) nmS = 0 /\ zn1 (crD x b m) nmS = t := by
 have h1 := zr6 h b m
 have e : thE (crD x b m) nmS = 0 := by
   unfold thE
   rw [if_neg (by show ¬ false = true; decide), if_pos h1.names.has]
 refine ⟨e, ?_⟩
 unfold zn1 thK
 rw [if_pos e, h1.names.val, h1.node]
def tru (f : Nat) : zom := (f, fun xs => match xs with | [] => some (True, .bool true) | _ => none)
theorem zzb {P : Program} {f : Nat} (h : zco P f [] (.bool true)) : ybj P (tru f) := by
 intro xs p r h' hp
 match xs with
 | [] => cases h'; exact h
 | x :: xs => cases h'
def ykc : List Int := [0x428a2f98, 0x71374491, 0xb5c0fbcf, 0xe9b5dba5, 0x3956c25b, 0x59f111f1, 0x923f82a4, 0xab1c5ed5,
 0xd807aa98, 0x12835b01, 0x243185be, 0x550c7dc3, 0x72be5d74, 0x80deb1fe, 0x9bdc06a7, 0xc19bf174,
 0xe49b69c1, 0xefbe4786, 0x0fc19dc6, 0x240ca1cc, 0x2de92c6f, 0x4a7484aa, 0x5cb0a9dc, 0x76f988da,
 0x983e5152, 0xa831c66d, 0xb00327c8, 0xbf597fc7, 0xc6e00bf3, 0xd5a79147, 0x06ca6351, 0x14292967,
 0x27b70a85, 0x2e1b2138, 0x4d2c6dfc, 0x53380d13, 0x650a7354, 0x766a0abb, 0x81c2c92e, 0x92722c85,
 0xa2bfe8a1, 0xa81a664b, 0xc24b8b70, 0xc76c51a3, 0xd192e819, 0xd6990624, 0xf40e3585, 0x106aa070,
 0x19a4c116, 0x1e376c08, 0x2748774c, 0x34b0bcb5, 0x391c0cb3, 0x4ed8aa4a, 0x5b9cca4f, 0x682e6ff3,
 0x748f82ee, 0x78a5636f, 0x84c87814, 0x8cc70208, 0x90befffa, 0xa4506ceb, 0xbef9a3f7, 0xc67178f2]
def yhy : List Int := [0x6a09e667, 0xbb67ae85, 0x3c6ef372, 0xa54ff53a, 0x510e527f, 0x9b05688c, 0x1f83d9ab, 0x5be0cd19]
end Sy
end Go.Proofs.Ytogomcfgfnlclaa
namespace Go.Proofs.Ytogomcfgfnlclaa
namespace Sy
open Go Go.RowKit
end Sy
end Go.Proofs.Ytogomcfgfnlclaa
namespace Go.Proofs.Ytogomcfgfnlclaa
namespace Sy
open Go Go.RowKit
set_option maxRecDepth 100000
set_option linter.unusedSimpArgs false
set_option linter.unusedVariables false
def toS : AV -> List UInt8
 | .str s => s
 | _ => []
def rlS (k : Int) : Int := yca .u64 (IntKind.u64.wrap k) 31
def rlZ (x k : Int) : Int := bor .u32 (yjb .u32 x (rlS k)) (ycf .u32 x (zu7 .u64 32 (rlS k)))
def rotZ (x a b c : Int) (sh : Bool) : Int := ybe .u32 (ybe .u32 (rlZ x (zu7 .i64 0 a)) (rlZ x (zu7 .i64 0 b))) (if sh then ycf .u32 x c else rlZ x (zu7 .i64 0 c))
def yiv (t : Int × Int × Int × Int × Bool) : Int := rotZ t.1 t.2.1 t.2.2.1 t.2.2.2.1 t.2.2.2.2
def yg8 (s : List UInt8) (n : Int) : Int := IntKind.u32.wrap (getZ (yir s (yio .i64 4 n) (ze3 .i64 (yio .i64 4 n) 4)))
def yk7 (l : List Int) (n : Nat) : Int := ze3 .u32 (ze3 .u32 (ze3 .u32 (zgk l (n - 16)) (yiv (zgk l (n - 15), 7, 18, 3, true))) (zgk l (n - 7))) (yiv (zgk l (n - 2), 17, 19, 10, true))
def wN (s : List UInt8) : Nat -> List Int
 | 0 => []
 | n + 1 => wN s n ++ [if n < 16 then yg8 s n else yk7 (wN s n) n]
def ygj (v : List Int) (k w : Int) : Int := ze3 .u32 (ze3 .u32 (ze3 .u32 (ze3 .u32 (zgk v 7) (yiv (zgk v 4, 6, 11, 25, false))) (bor .u32 (yca .u32 (zgk v 4) (zgk v 5)) (yca .u32 (ybe .u32 4294967295 (zgk v 4)) (zgk v 6)))) k) w
def yjq (v : List Int) : Int := ze3 .u32 (yiv (zgk v 0, 2, 13, 22, false)) (bor .u32 (yca .u32 (zgk v 0) (zgk v 1)) (yca .u32 (zgk v 2) (bor .u32 (zgk v 0) (zgk v 1))))
def yjr (v : List Int) (k w : Int) : List Int :=
 [ze3 .u32 (ygj v k w) (yjq v), zgk v 0, zgk v 1, zgk v 2, ze3 .u32 (zgk v 3) (ygj v k w), zgk v 4, zgk v 5, zgk v 6]
def vN (w h : List Int) : Nat -> List Int
 | 0 => h
 | n + 1 => yjr (vN w h n) (zgk ykc n) (zgk w n)
def vS (s : List UInt8) (h : List Int) (n : Nat) : List Int := vN (wN s 64) h n
def hN (h v : List Int) (n : Nat) : List Int := (List.range 8).map fun i => if i < n then ze3 .u32 (zgk h i) (zgk v i) else zgk h i
def hS (s : List UInt8) (h : List Int) (n : Nat) : List Int := hN h (vS s h 64) n
def mixZ (h : List Int) (s : List UInt8) : List Int := hS s h 8
def yib (p : List UInt8) (n : Nat) : List UInt8 := (p.drop (64 * n)).take 64
def shaH (p : List UInt8) : Nat -> List Int
 | 0 => yhy
 | n + 1 => mixZ (shaH p n) (yib p n)
def hB (p : List UInt8) (a : Int) (n : Nat) : List Int := hS (yib p (a.toNat / 64)) (shaH p (a.toNat / 64)) n
def cb (s : List UInt8) (i : Nat) : Nat := (s.getD i 0).toNat
theorem zqg (x : Dk) (fr to_ : List UInt8) : zbz (zok x fr to_).nd = zbz x.nd := by
 obtain ⟨e1, e2, e3, e4, e5⟩ := zbg x
 unfold zok zbz
 split
 · split
   · show (zaj x).nd.length = _
     rw [e1]
   · rw [e1]
 · rfl
theorem zqh (x : Dk) (s : List UInt8) : zbz (zqi x s).nd = zbz x.nd := by
 obtain ⟨e1, e2, e3, e4, e5⟩ := zbg x
 unfold zqi zbz
 split
 · split
   · show (zaj x).nd.length = _
     rw [e1]
   · rw [e1]
 · rfl
def dlA (L : zae) (t : List UInt8) (l : List Wa) : Nat -> St -> Option Ann := fun id st => match id with
 | 0 => some ⟨Nat, fun i => [(45, .int .i64 (L zab i)), (9, .ref 901 0)], fun i => dpX L 901 902 903 904 (L3 L lsD t l i), [0, 2, 3, 43, 44], [],
     fun i => L3 L lsI t l i, fun i => L2 L Nat.sub (L zx4 l) i⟩
 | _ => none
theorem yaq (t : List UInt8) (l : List Wa) (hl : ∀ y ∈ l, yjd y) (h : List Bool) (m : List Int) : zco Try.prog 4 [.str t, .lst 7 (zx4 l) (fun i => waC std (zb5 l i)), zhu std h, znc std m] (.bool true) := by
 refine zyy (T := tt) (S := fun L => zay [tru 7, zpb L, zoo L] [ydu L, yci L, ydk L, ydl L, zxj L, zun L, zw2 L, zux L, ziw L, zpv L]) (lo := fun L => dlA L t l) (lb := noA) 8 (fn := Try.f4)
   (xs := fun L => [.str t, .lst 7 (L zx4 l) (fun i => waC L (L (L zb5 l) i)), zhu L h, znc L m])
   tab0 (by kernel_rfl) rfl rfl (by kernel_rfl) (by kernel_rfl) rfl zbk (za6 ⟨zzb ztz, zte, zrw, trivial⟩ ⟨zwg, zu8, zvx, zvy, ztn, zrz, zsy, zs4, zlk, zpu, trivial⟩) (by kernel_rfl) ?_
 intro L P' Q' hL hP hQ
 have hE : ∀ x : Dk, L zqj ⟨L Dk.room x, L Dk.names x, L Dk.sure x, L zg0 (L Dk.pend x), fun q => tnC L (L (L zcu (L Dk.pend x)) q), L zbz (L Dk.nd x), fun k _ => ndC L (L (L za4 (L Dk.nd x)) k), L Dk.steps x, L Dk.fuse x, L Dk.down x⟩ = x := by subst hL; exact zlg
 (cbv; try simp only [syT, true_and, and_true])
 simp only [hE, true_and]
 have tr : ∀ {n : Nat} {q : Nat} {p : Prop}, p -> ((∀ (k : Nat), k < n -> True) /\ ∀ (k i j : Nat), k < n -> i < 1 -> j < 2 -> True) /\ (∀ (i j : Nat), i < q -> j < 4 -> True) /\ p := fun h => ⟨⟨fun _ _ => trivial, fun _ _ _ _ _ _ => trivial⟩, fun _ _ _ _ => trivial, h⟩
 have trn : ∀ {n : Nat} {q : Nat} {p : Prop}, p -> n.le n /\ ((∀ (k : Nat), k < n -> True) /\ ∀ (k i j : Nat), k < n -> i < 1 -> j < 2 -> True) /\ (∀ (i j : Nat), i < q -> j < 4 -> True) /\ p := fun h => ⟨Nat.le_refl _, tr h⟩
 refine ⟨fun h1 => ?_, fun _ => ⟨fun h1 => ?_, fun h1 => ⟨fun h2 => ?_, fun h2 => ?_⟩⟩⟩
 · subst hL; cases h1
 · subst hQ; rw [zct]
 · subst hQ; rw [zct]
 have ht : t.length <= 3000 := by
   subst hL
   have h2 : ilt 3000 (slen t) = false := h2
   rw [zk6] at h2
   unfold slen at h2
   omega
 have hll : l.length <= 30 := by
   subst hL
   have h1 : ilt 30 (zab (zx4 l)) = false := h1
   rw [zk6] at h1
   unfold zab zx4 at h1
   omega
 refine ⟨Nat.zero_le _, ⟨fun _ _ => trivial, fun _ _ _ _ _ _ => trivial⟩, ⟨?_, ?_⟩, ?_, tr ⟨⟨?_, ?_, ?_⟩, fun g1 => ?_, fun _ => ⟨?_, tr ⟨fun g1 => ?_, fun _ => ⟨?_, tr ⟨fun g1 => ?_, fun _ => ⟨⟨0, ?_⟩, fun i hi => ?_⟩⟩⟩⟩⟩⟩⟩
 · subst hL; exact ⟨by decide, by decide⟩
 · subst hL; rfl
 · subst hL; exact zi1 _ _ _
 · subst hL; exact Nat.zero_le _
 · subst hL; show [115, 117, 114, 101].length <= 1000; decide
 · subst hL; show t.length <= 100000; omega
 · exfalso
   subst hL
   have g1 : ine (zq3 (zkl 65536) nmS t) 0 = true := g1
   rw [(ls_w t ht).1] at g1
   cases g1
 · subst hL; exact Nat.le_of_eq (zi4 _ _).symm
 · exfalso
   subst hL
   have g1 : ine (zgb (zfy (zkl 65536) nmS t) nmS) 0 = true := g1
   rw [(ls_s t ht).1] at g1
   cases g1
 · subst hL; exact Nat.le_of_eq (zi6 _).symm
 · exfalso
   subst hL
   have g1 : ine (zmq (zdl (zfy (zkl 65536) nmS t) nmS)) 0 = true := g1
   rw [(ls_d t ht).1] at g1
   cases g1
 · (cbv; try simp only [syT, true_and, and_true])
   subst hL
   have l1 := zi1 (zkl 65536) nmS t
   have l2 := zi4 (zfy (zkl 65536) nmS t) nmS
   have l3 : zbz (ls0 t).nd = zbz (zdl (zfy (zkl 65536) nmS t) nmS).nd := zi6 _
   exact ⟨Nat.le_refl _, Nat.le_of_eq l3.symm, Nat.le_of_eq (l3.trans l2).symm, Nat.zero_le _, Nat.zero_le _, ⟨rfl, fun _ _ => trivial, fun _ _ _ _ _ _ => rfl⟩, ⟨rfl, fun _ _ _ _ => rfl⟩, rfl, rfl, rfl, rfl, rfl, rfl, rfl, fun _ _ _ _ => trivial, fun _ _ _ _ => trivial, fun _ _ _ _ => trivial, rfl, ls_0 t l ht⟩
 · have hB : ∀ h : List Bool, L rdB ⟨L yj8 h, fun i _ => .bool (L2 L zjt h i)⟩ = h := by subst hL; exact rd_b
   have hM : ∀ m : List Int, L rdM ⟨L yj2 m, fun i _ => .int .u64 (L2 L zgp m i)⟩ = m := by subst hL; exact rd_m
   (cbv; try simp only [syT, true_and, and_true])
   simp only [hE, hB, hM, true_and]
   have hw : lsI t l i := by subst hL; exact hi
   have hpend : L zhq (L (L (L lsD t) l) i) := by
     subst hL
     have := hw.2.slen
     have := hw.1
     show (lsD t l i).pend.length <= 1000000
     omega
   refine ⟨fun g1 => ⟨?_, fun g2 => ?_, fun g2 => ⟨fun g3 => ?_, fun g3 => ⟨fun g4 => ?_, fun g4 => ?_⟩⟩⟩, fun g1 => ?_⟩
   · subst hL; exact zks g1
   · subst hQ; rw [zct]
   · subst hQ; rw [zct]
   · subst hQ; rw [zct]
   · have hlt : i < l.length := by subst hL; exact zdz g1
     have hlg : (zb5 l i).a.length <= 60 /\ (zb5 l i).t.length <= 60 := by
       subst hL
       simp only [std, L3, zao] at g2
       have := ye3 (zk2 g2)
       exact ⟨this.1, this.2.1⟩
     have hna : (zb5 l i).a ≠ nmS := by
       subst hL
       simp only [std, zao] at g3
       rw [yd7] at g3; exact g3
     have hnt : (zb5 l i).t ≠ nmS := by
       subst hL
       simp only [std, zao] at g4
       rw [yd7] at g4; exact g4
     have hu : ycn (zb5 l i).n := hl _ (zwb hlt)
     have hact : L (L zb5 l) (L Int.toNat (L zab i)) = L (L zb5 l) i := by subst hL; simp only [std, zao]
     have hnx : lsI t l (i + 1) := ye2 hw hlt hna hnt hlg.1 hlg.2 hu
     have hcr : ∀ b : List Bool, yi8 (lsD t l i) b := zx2 hw.2 (by have := hw.1; omega)
     simp only [hact]
     refine ⟨?_, fun c0 => ⟨?_, ?_, tr ⟨⟨hpend, ?_, ?_⟩, i + 1, ?_⟩⟩, fun c0 => ⟨fun c1 => ⟨?_, tr ⟨i + 1, ?_⟩⟩, fun c1 => ⟨fun c2 => ⟨?_, tr ⟨⟨hpend, ?_⟩, i + 1, ?_⟩⟩, fun c2 => ⟨fun c3 => ⟨?_, tr ⟨hpend, i + 1, ?_⟩⟩, fun c3 => ⟨fun c4 => ⟨?_, tr ⟨i + 1, ?_⟩⟩, fun c4 => ⟨fun c6 => ?_, fun c6 => ⟨fun c7 => ?_, fun c7 => ⟨i + 1, ?_⟩⟩⟩⟩⟩⟩⟩⟩
     all_goals have hwa : ze3 .i64 (zab i) 1 = zab (i + 1) := zd2 i (by omega)
     · subst hL; rfl
     · subst hL; exact hu
     · subst hL; exact zi1 _ _ _
     · subst hL; show (zb5 l i).a.length <= 1000; omega
     · subst hL
       have := zq7 (b := (zb5 l i).b) hu
       show (ycp (zb5 l i).n (zb5 l i).b).length <= 100000
       omega
     · have hle := zi1 (lsD t l i) (zb5 l i).a (ycp (zb5 l i).n (zb5 l i).b)
       (cbv; try simp only [syT, true_and, and_true])
       subst hL
       simp only [std] at *
       have hsb := zcq hlt
       have hS : lsD t l i.succ = zfy (lsD t l i) (zb5 l i).a (ycp (zb5 l i).n (zb5 l i).b) := by
         show lsS (lsD t l i) (zb5 l i) = _
         unfold lsS
         simp [c0]
       rw [hS]
       rw [show lsI t l i.succ = lsI t l (i + 1) from rfl]
       repeat' (first | exact Nat.le_refl _ | exact hle | exact trivial | exact hwa | exact hnx | exact hsb | exact rfl | refine And.intro ?_ ?_ | intro _)
     · subst hL; exact Nat.le_of_eq (zi4 _ _).symm
     · have hle := Nat.le_of_eq (zi4 (lsD t l i) (zb5 l i).a).symm
       (cbv; try simp only [syT, true_and, and_true])
       subst hL
       simp only [std] at *
       have hsb := zcq hlt
       have hS : lsD t l i.succ = zdl (lsD t l i) (zb5 l i).a := by
         show lsS (lsD t l i) (zb5 l i) = _
         unfold lsS
         simp [c0, c1]
       rw [hS]
       rw [show lsI t l i.succ = lsI t l (i + 1) from rfl]
       repeat' (first | exact Nat.le_refl _ | exact hle | exact trivial | exact hwa | exact hnx | exact hsb | exact rfl | refine And.intro ?_ ?_ | intro _)
     · subst hL; exact Nat.le_of_eq (zqg _ _ _).symm
     · subst hL; show (zb5 l i).t.length <= 1000; omega
     · have hle := Nat.le_of_eq (zqg (lsD t l i) (zb5 l i).a (zb5 l i).t).symm
       (cbv; try simp only [syT, true_and, and_true])
       subst hL
       simp only [std] at *
       have hsb := zcq hlt
       have hS : lsD t l i.succ = zok (lsD t l i) (zb5 l i).a (zb5 l i).t := by
         show lsS (lsD t l i) (zb5 l i) = _
         unfold lsS
         simp [c0, c1, c2]
       rw [hS]
       rw [show lsI t l i.succ = lsI t l (i + 1) from rfl]
       repeat' (first | exact Nat.le_refl _ | exact hle | exact trivial | exact hwa | exact hnx | exact hsb | exact rfl | refine And.intro ?_ ?_ | intro _)
     · subst hL; exact Nat.le_of_eq (zqh _ _).symm
     · have hle := Nat.le_of_eq (zqh (lsD t l i) (zb5 l i).a).symm
       (cbv; try simp only [syT, true_and, and_true])
       subst hL
       simp only [std] at *
       have hsb := zcq hlt
       have hS : lsD t l i.succ = zqi (lsD t l i) (zb5 l i).a := by
         show lsS (lsD t l i) (zb5 l i) = _
         unfold lsS
         simp [c0, c1, c2, c3]
       rw [hS]
       rw [show lsI t l i.succ = lsI t l (i + 1) from rfl]
       repeat' (first | exact Nat.le_refl _ | exact hle | exact trivial | exact hwa | exact hnx | exact hsb | exact rfl | refine And.intro ?_ ?_ | intro _)
     · subst hL; exact Nat.le_of_eq (zi6 _).symm
     · have hle := Nat.le_of_eq (zi6 (lsD t l i)).symm
       (cbv; try simp only [syT, true_and, and_true])
       subst hL
       simp only [std] at *
       have hsb := zcq hlt
       have hS : lsD t l i.succ = zf4 (lsD t l i) := by
         show lsS (lsD t l i) (zb5 l i) = _
         unfold lsS
         simp [c0, c1, c2, c3, c4]
       rw [hS]
       rw [show lsI t l i.succ = lsI t l (i + 1) from rfl]
       repeat' (first | exact Nat.le_refl _ | exact hle | exact trivial | exact hwa | exact hnx | exact hsb | exact rfl | refine And.intro ?_ ?_ | intro _)
     · refine ⟨by subst hL; rfl, by subst hL; exact Nat.le_refl _, tr ⟨i + 1, ?_⟩⟩
       have hle := Nat.le_refl (zbz (lsD t l i).nd)
       (cbv; try simp only [syT, true_and, and_true])
       subst hL
       simp only [std] at *
       have hsb := zcq hlt
       have hS : lsD t l i.succ = zto (lsD t l i) (IntKind.i64.wrap (Int.tmod (zb5 l i).n 40)) := by
         show lsS (lsD t l i) (zb5 l i) = _
         unfold lsS
         simp [c0, c1, c2, c3, c4, c6]
       rw [hS]
       rw [show lsI t l i.succ = lsI t l (i + 1) from rfl]
       repeat' (first | exact Nat.le_refl _ | exact hle | exact trivial | exact hwa | exact hnx | exact hsb | exact rfl | refine And.intro ?_ ?_ | intro _)
     · refine ⟨by subst hL; exact Nat.le_of_eq (zmc _ _ _).symm, tr ⟨fun _ _ _ _ => trivial, fun _ _ _ _ => trivial, by subst hL; exact hcr _, i + 1, ?_⟩⟩
       have hle := Nat.le_of_eq (zmc (lsD t l i) (zb5 l i).h (zb5 l i).m).symm
       (cbv; try simp only [syT, true_and, and_true])
       subst hL
       simp only [std] at *
       have hsb := zcq hlt
       have hS : lsD t l i.succ = crD (lsD t l i) (zb5 l i).h (zb5 l i).m := by
         show lsS (lsD t l i) (zb5 l i) = _
         unfold lsS
         simp [c0, c1, c2, c3, c4, c6, c7]
       rw [hS]
       rw [show lsI t l i.succ = lsI t l (i + 1) from rfl]
       repeat' (first | exact Nat.le_refl _ | exact hle | exact trivial | exact hwa | exact hnx | exact hsb | exact rfl | refine And.intro ?_ ?_ | intro _)
     · have hle := Nat.le_refl (zbz (lsD t l i).nd)
       (cbv; try simp only [syT, true_and, and_true])
       subst hL
       simp only [std] at *
       have hsb := zcq hlt
       have hS : lsD t l i.succ = lsD t l i := by
         show lsS (lsD t l i) (zb5 l i) = _
         unfold lsS
         simp [c0, c1, c2, c3, c4, c6, c7]
       rw [hS]
       rw [show lsI t l i.succ = lsI t l (i + 1) from rfl]
       repeat' (first | exact Nat.le_refl _ | exact hle | exact trivial | exact hwa | exact hnx | exact hsb | exact rfl | refine And.intro ?_ ?_ | intro _)
   · have hcr : yi8 (lsD t l i) h := zx2 hw.2 (by have := hw.1; omega) h
     obtain ⟨z1, z2⟩ := yhm hw.2 h m
     refine ⟨by subst hL; exact Nat.le_of_eq (zmc _ _ _).symm, tr ⟨fun _ _ _ _ => trivial, fun _ _ _ _ => trivial, by subst hL; exact hcr, trn ⟨fun g2 => ⟨fun g3 => trn ?_, fun g3 => ?_⟩, fun g2 => ?_⟩⟩⟩
     · subst hL; subst hQ
       rw [zct]; rfl
     · exfalso
       subst hL
       have g3 : seq (zn1 (crD (lsD t l i) h m) nmS) t = false := g3
       rw [z2] at g3
       simp [seq] at g3
     · exfalso
       subst hL
       have g2 : ieq (thE (crD (lsD t l i) h m) nmS) 0 = false := g2
       rw [z1] at g2
       cases g2
theorem law_DiskLasts (t : List UInt8) (ht : t.length <= maxLen) (l : List Wa) (hl : l.length <= maxLen /\ ∀ y ∈ l, yjd y) (h : List Bool) (hh : True) (m : List Int) (hm : True) : zco Try.prog 4 [.str t, .lst 7 l.length (avL (waC std) l), zhu std h, znc std m] (.bool true) :=
 yfk (fun hp D vs hr => by
   refine ⟨by rw [<- hr.1]; rfl, fun i z v hz hv => ?_⟩
   match i, hz with
   | 0, hz => exact hr.2 0 z v hz hv
   | 1, hz => cases hz; exact yhj (fun i j hi hj => avWa l i j hi) (hr.2 1 _ v rfl hv)
   | i + 2, hz => exact hr.2 (i + 2) z v hz hv) (yaq t l hl.2 h m)
end Sy
end Go.Proofs.Ytogomcfgfnlclaa
