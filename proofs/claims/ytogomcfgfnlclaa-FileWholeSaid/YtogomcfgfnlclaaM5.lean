/-Small facts on worlds, strings as lists of bytes, rows of bytes: used by every walk of this seat; no statement of the seat is proved here; and what stands between these and the texts behind.-/
import Derived.Test.YtogomcfgfnlclaaRows
import Derived.WalkKit
import Derived.WalkSpells
import Derived.WalkLawsBesides
import Derived.Deep.DeepCutAuto
import Derived.Deep.OwnRows
import Derived.Laws.IdiomStrings
import Derived.Lib.Hide
import Derived.Below
import Derived.ChangeSame
import Derived.ScopeJumps
import Derived.ProofKit
import Derived.OpenShut
import Derived.Carry
import Derived.Lib.SmallJoins
import Derived.RegionTactic
import Derived.BigRegion
import Derived.Test.YtogomcfgfnlclaaM4
import Derived.Tactics
import Derived.Tactics2
import Derived.StillTactics
import Derived.Laws.Cells
import Derived.Laws.Pointers
import Derived.Laws.Sem
import Derived.Laws.Small
import Derived.LoopTactic
import Derived.LoopN
import Derived.Laws.IdiomRangeMap
import Derived.Maps.RangeRun
import Derived.Shelf.SlIter.Nil
import Derived.Shelf.SortM.Plain
import Derived.Shelf.SortM.SortNone
import Derived.Shelf.SlMaps.Clone
import Derived.Ground.GgzProg
import Derived.Ground.SlgmProg
import Derived.Ground.SlmcProg
import Derived.Test.YtogomcfgfnlclaaProg
import Derived.Test.YtogomcfgfnlclaaShelf
import Derived.ChangeArms
import Derived.ChangeSlices
import Derived.WideShapes
import Derived.Lib.Builder
namespace Go.Proofs.Ytogomcfgfnlclaa
open Go.RowKit Go.WideShapes Go.ChangeShapes Go.ChangeAt
def zlh (b : UInt8) : Value := .int .u8 (b.toNat : Int)
def str (l : List UInt8) : Value := .string ⟨l.toArray⟩
theorem zh9 (n : Nat) : zlh (UInt8.ofNat n) = .int .u8 ((n : Int) % 256) := by
 have h : (((UInt8.ofNat n).toNat : Nat) : Int) = (n : Int) % 256 := by
   rw [UInt8.toNat_ofNat']; omega
 unfold zlh; rw [h]
@[go_sem] theorem ba_get (l : List UInt8) (k : Nat) (h : k < (⟨l.toArray⟩ : ByteArray).size) : (⟨l.toArray⟩ : ByteArray)[k] = l[k]'h := rfl
@[go_sem] theorem ba_append (a b : List UInt8) : (⟨a.toArray⟩ : ByteArray) ++ ⟨b.toArray⟩ = ⟨(a ++ b).toArray⟩ := by
 apply ByteArray.ext; simp
theorem zib (l : List UInt8) (a b : Nat) : (⟨l.toArray⟩ : ByteArray).extract a b = ⟨((l.drop a).take (b - a)).toArray⟩ := by
 apply ByteArray.ext; simp [ByteArray.data_extract]
@[go_sem] theorem ba_extract_all (l : List UInt8) (a : Nat) : (⟨l.toArray⟩ : ByteArray).extract a l.length = ⟨(l.drop a).toArray⟩ := by
 rw [zib, List.take_of_length_le (by simp)]
@[go_sem] theorem ba_extract_zero (l : List UInt8) (b : Nat) : (⟨l.toArray⟩ : ByteArray).extract 0 b = ⟨(l.take b).toArray⟩ := by
 rw [zib, List.drop_zero, Nat.sub_zero]
@[go_sem] theorem wrap_byte_u64 (b : UInt8) : IntKind.u64.wrap (b.toNat : Int) = b.toNat := by
 have := b.toNat_lt; rw [IntKind.wrap_u64]; omega
@[go_sem] theorem wrap_byte_u32 (b : UInt8) : IntKind.u32.wrap (b.toNat : Int) = b.toNat := by
 have := b.toNat_lt; rw [IntKind.wrap_u32]; omega
@[go_sem] theorem wrap_byte_u16 (b : UInt8) : IntKind.u16.wrap (b.toNat : Int) = b.toNat := by
 have := b.toNat_lt; rw [IntKind.wrap_u16]; omega
@[go_sem] theorem wrap_byte_u8 (b : UInt8) : IntKind.u8.wrap (b.toNat : Int) = b.toNat := by
 have := b.toNat_lt; rw [IntKind.wrap_u8]; omega
@[go_sem] theorem wrap_byte_i64 (b : UInt8) : IntKind.i64.wrap (b.toNat : Int) = b.toNat := by
 have := b.toNat_lt; rw [IntKind.wrap_i64]; omega
theorem zic (g j : Nat) : (⟨g, 0, none⟩ : Addr).add j = ⟨g, j, none⟩ := by
 unfold Addr.add
 split
 · rename_i h; rw [h]
 · rw [Nat.zero_add]
theorem yhl {P : Program} {w : World} {src dst e : TypeId} {g n cap : Nat} {f : Nat -> Value} (l : List UInt8) (hs : P.underlying src = some (.slice e)) (he : P.underlying e = some (.int .u8)) (hd : P.underlying dst = some .string)
   (hr : w.rowIs g e n f) (hl : l.length = n) (hf : ∀ i (hi : i < l.length), f i = zlh l[i]) :
   (convert src dst (.slice (some ⟨g, 0, none⟩) n cap)).run P w = .ok (.string ⟨l.toArray⟩) w := by
 subst hl
 refine run_convert_bytes_back w src dst e _ cap l hs he hd fun j hj => ?_
 have := hr.cell hj
 rw [hf j hj] at this
 rw [zic]
 exact this
def Row (w : World) (b : Nat) (t : TypeId) (n : Nat) (f : Nat -> Value) : Prop :=
 ∃ (c : Array Value) (lo hi : Nat), w.heap[b]? = some (.cells c t (lo, hi)) /\ n <= c.size /\ (hi = 0 \/ n <= lo) /\ ∀ i, i < n -> c[i]? = some (f i)
section
variable {w w' : World} {b : Nat} {t : TypeId} {n : Nat} {f g : Nat -> Value}
theorem Row.cell (h : Row w b t n f) {i : Nat} (hi : i < n) : w.cell? ⟨b, i, none⟩ = some (f i) := by
 obtain ⟨c, lo, hi', hb, _, _, hc⟩ := h
 simp [World.cell?, hb, hc i hi]
theorem Row.frozen (h : Row w b t n f) {i : Nat} (hi : i < n) : w.frozen? ⟨b, i, none⟩ = false := by
 obtain ⟨c, lo, hi', hb, _, hf, _⟩ := h
 simp only [World.frozen?, hb]
 rcases hf with hf | hf
 · subst hf; simp
 · simp; omega
theorem Row.lt (h : Row w b t n f) : b < w.heap.size := by
 obtain ⟨c, lo, hi, hb, _⟩ := h
 exact (Array.getElem?_eq_some_iff.1 hb).1
theorem Row.congr (h : Row w b t n f) (e : ∀ i, i < n -> f i = g i) : Row w b t n g := by
 obtain ⟨c, lo, hi, hb, hn, hf, hc⟩ := h
 exact ⟨c, lo, hi, hb, hn, hf, fun i hi => by rw [hc i hi, e i hi]⟩
theorem Row.of_block (h : Row w b t n f) (e : w'.heap[b]? = w.heap[b]?) : Row w' b t n f := by
 obtain ⟨c, lo, hi, hb, hn, hf, hc⟩ := h
 exact ⟨c, lo, hi, e.trans hb, hn, hf, hc⟩
theorem Row.set (h : Row w b t n f) (i : Nat) (v : Value) : Row (w.setCell ⟨b, i, none⟩ v) b t n (fun j => if j = i then v else f j) := by
 obtain ⟨c, lo, hi', hb, hn, hf, hc⟩ := h
 refine ⟨c.setIfInBounds i v, lo, hi', ?_, by simpa using hn, hf, fun j hj => ?_⟩
 · simp [World.setCell, Array.getElem?_modify, hb]
 · rw [Array.getElem?_setIfInBounds]
   by_cases e : i = j
   · subst e
     have : i < c.size := by omega
     simp [this]
   · rw [if_neg e, hc j hj]
     show _ = some (if j = i then v else f j)
     rw [if_neg (fun (h : j = i) => e h.symm)]
theorem Row.alloc (h : Row w b t n f) (o : Obj) : Row (w.alloc o) b t n f := h.of_block (Below.heap_alloc _ _ _ h.lt)
theorem Row.bytes (w : World) (t : TypeId) (l : List UInt8) (cap : Nat) : Row (w.alloc (.cells (bytesRow ⟨l.toArray⟩ cap) t ((bytesRow ⟨l.toArray⟩ cap).size, (bytesRow ⟨l.toArray⟩ cap).size + 1))) w.heap.size t l.length (fun j => zlh (l.getD j 0)) := by
 refine ⟨bytesRow ⟨l.toArray⟩ cap, _, _, heap_alloc_new _ _, by simp [bytesRow], .inr (by simp [bytesRow]), fun i hi => ?_⟩
 rw [bytesRow_at _ _ _ (by simpa using hi)]
 simp [zlh, hi]
end
def Blk (w : World) (g : Nat) (t : TypeId) (cs : Array Value) : Prop := w.heap[g]? = some (.cells cs t (0, 0))
section
variable {w w' : World} {g : Nat} {t : TypeId} {cs : Array Value}
theorem Blk.lt (h : Blk w g t cs) : g < w.heap.size := by
 rcases Nat.lt_or_ge g w.heap.size with hlt | hge
 · exact hlt
 · unfold Blk at h; rw [Array.getElem?_eq_none hge] at h; cases h
theorem Blk.cell (h : Blk w g t cs) (i : Nat) : w.cell? ⟨g, i, none⟩ = cs[i]? := cell_of_row w g i cs t (0, 0) h
theorem Blk.frozen (h : Blk w g t cs) (i : Nat) : w.frozen? ⟨g, i, none⟩ = false := by
 unfold Blk at h
 simp [World.frozen?, h]
theorem Blk.new (w : World) (t : TypeId) (cs : Array Value) : Blk (w.alloc (.cells cs t)) w.heap.size t cs := heap_alloc_new w _
theorem Blk.drew (h : Blk w g t cs) : Blk w.drew g t cs := h
theorem Blk.alloc (h : Blk w g t cs) (o : Obj) : Blk (w.alloc o) g t cs := (Below.heap_alloc w o g h.lt).trans h
theorem Blk.grown {row : Option Nat} (h : Blk w g t cs) (hb : w.grownBy w' row) (hg : some g ≠ row) : Blk w' g t cs := (hb.block g h.lt hg).trans h
end
theorem zlg {base : Nat} {e : TypeId} {size n : Nat} {v : Value} {xs : List Value} {w w' : World} (hown : w.ownsRow base e size v n xs) (hb : base <= w.heap.size) (hg : w.grownBy w' v.ownBlock) : Below base w w' :=
 (Below.refl _ _).grown hg hb fun k hk => (hown.lt k hk).1
theorem zjy {P : Program} {ops : Array Oper} {rest : List Oper} {o : Oper} {a : Act} {Q : Exit -> Act -> World -> Prop} (wr : World) (hgd : o.guard = none) (s x : Operand) (t : TypeId)
   (ho : o.op = .call { callee := .builtin .append, args := #[s, x], argTypes := #[t, t] })
   (base : Nat) (e : TypeId) (z : Value) (bytes : Nat) (ht : P.underlying t = some (.slice e)) (hinfo : (P.info? e).map (fun i => (i.zero, i.size, i.bytes)) = some (some z, 1, bytes)) (hz1 : z.cells.size = 1)
   (v : Value) (n : Nat) (xs : List Value) (hs : a.eval s = v) (hown : wr.ownsRow base e 1 v n xs)
   (c : Value) (h1 : c.oneCell' = true) (hx : a.eval x = .slice (some ⟨wr.heap.size, 0, none⟩) 1 1)
   (hbytes : (n + 1) * bytes <= 140737488355328) (hn : n < 9223372036854775807) (hbase : base <= wr.heap.size)
   (h : ∀ v' w', w'.ownsRow base e 1 v' (n + 1) (xs ++ [c]) -> Below base wr w' -> wpList P ops Q rest (a.put o.dst v') w') : wpList P ops Q (o :: rest) a (wr.alloc (.cells #[c] e)) := by
 obtain ⟨i, hi, hzz⟩ := Option.map_eq_some_iff.1 hinfo
 simp only [Prod.mk.injEq] at hzz
 obtain ⟨hz, hsz, hby⟩ := hzz
 have hown' := hown.alloc (.cells #[c] e)
 refine wpList_append_own _ hgd s x t ho base e i z 1 bytes ht hi hz hsz hby hz1 (by decide) v n xs hs hown' ⟨wr.heap.size, 0, none⟩ 1 1 [c] hx rfl ?_ ?_ ?_ hbytes ?_ ?_
 · intro j u hj
   match j, hj with
   | 0, hj =>
     simp at hj; subst hj
     rw [zic, cell_of_row _ _ _ _ _ _ (heap_alloc_new wr _)]; rfl
 · intro u hu
   simp at hu; subst hu; exact h1
 · unfold maxLen; omega
 · simp; omega
 · intro v' w' ho' hg _
   exact h v' w' ho' (((Below.refl _ _).alloc hbase _).trans (zlg hown' (by simp; omega) hg))
theorem zxn {P : Program} {src dst e : TypeId} (hs : P.underlying src = some (.slice e)) (he : P.underlying e = some (.int .u8)) (hd : P.underlying dst = some .string) {w : World} {base n : Nat} {v : Value} (l : List UInt8)
   (h : w.ownsRow base e 1 v n (l.map zlh)) : (convert src dst v).run P w = .ok (.string ⟨l.toArray⟩) w := by
 rcases h.2 with ⟨rfl, rfl⟩ | ⟨g, cap, cur, rfl, _, hh, hnc, _, hsz, hx⟩
 · have hl : l = [] := by have := h.1; simpa using this
   subst hl
   rw [run_convert_bytes_string w src dst e none 0 0 hs he hd]
   simp [Conv.bytesToString]; rfl
 · have hl : l.length = n := by have := h.1; simpa using this
   subst hl
   refine run_convert_bytes_back w src dst e _ cap l hs he hd fun j hj => ?_
   have := h.cells (g := g) rfl j (zlh l[j]) (by simp [hj])
   exact this
theorem ya8 {a b : List UInt8} (h : a = b) : Ending.returned (.string ⟨a.toArray⟩) = .returned (.string ⟨b.toArray⟩) := by rw [h]
theorem zgw {P : Program} {a : Act} {w : World} {Q : Exit -> Act -> World -> Prop} {c rest : Code} (l : Nat) (J : Act -> World -> Prop) (μ : Act -> World -> Nat) (hf : findLabel c l = some (.seq .skip rest))
   (pass : ∀ a w, J a w -> rest.wp P (Exit.jump l (fun a' w' => J a' w' /\ μ a' w' < μ a w) Q) a w)
   (first : Hid (∀ a w, J a w -> rest.wp P (Exit.jump l J Q) a w) -> c.wp P (Exit.jump l J Q) a w) : (Code.scope c).wp P Q a w := by
 refine wp_scope_jumps l J μ hf (first fun a w hJ => Code.wp_mono (fun e a' w' hq => ?_) (pass a w hJ)) fun a w hJ => wp_seq (wp_skip (pass a w hJ))
 cases e <;> first | exact hq | exact ⟨hq.1, hq.2.1⟩
section
variable {l : Nat} {J : Act -> World -> Prop} {Q : Exit -> Act -> World -> Prop} {a : Act} {w : World}
@[go_sem] theorem jump_normal : Exit.jump l J Q .normal a w = Q .normal a w := rfl
@[go_sem] theorem jump_exit (id : Nat) : Exit.jump l J Q (.exit id) a w = Q (.exit id) a w := rfl
@[go_sem] theorem jump_ret : Exit.jump l J Q .ret a w = Q .ret a w := rfl
@[go_sem] theorem jump_panic (ch : List PanicEntry) : Exit.jump l J Q (.panic ch) a w = Q (.panic ch) a w := rfl
end
section
variable {H : Type} {enc : TypeId × Value -> H} {P : Program}
theorem znn {f : Func} {s : ChangeSpec} {apart fresh handsOn again : Bool} {W W' : World} {args : Array Value} {v : Value} {ds gs : List (DataW H)} {before pa pv : List MemPlace}
   (hW : DataW.Whole enc P f.params.toList s.vars apart W args.toList ds gs before)
   (hres : ∀ (b : Nat) (sp : Nat -> Bool) (hd : Bool), DataW.TrodAll enc P W' b sp hd f.resultTypes.toList (v.resultList f.resultTypes.size) (s.fn H (ds ++ gs)).results [])
   (hargs : ∀ sp : Nat -> Bool, (∀ p ∈ before, sp p.block = true) -> DataW.TrodAll enc P W' 0 sp true f.params.toList args.toList (s.fn H (ds ++ gs)).args pa)
   (hvars : ∀ sp : Nat -> Bool, (∀ p ∈ before, sp p.block = true) -> DataW.TrodVars enc P W' sp s.vars (s.fn H (ds ++ gs)).vars pv)
   (hps : before = pa ++ pv) (hb : Below W.heap.size W W')
   (hok : ∀ (j : Nat) (t : TypeId) (r : Value), f.resultTypes[j]? = some t -> (v.resultList f.resultTypes.size)[j]? = some r -> Value.okWide P W' .any 0 t r) :
   s.post enc P f apart fresh handsOn again W args v W' := by
 have hlt : ∀ p ∈ before, p.block < W.heap.size := fun p hp => hW.lt p hp
 have hold : ∀ p ∈ before, (fun b => decide (b < W.heap.size)) p.block = true := fun p hp => by simpa using hlt p hp
 refine ⟨ds, gs, before, [], pa, pv, hW, hres _ _ _, hargs _ hold, hvars _ hold, World.keptBut_mono (fun p hp => ⟨hp, ?_⟩) (hb.frame (· ∈ before)), fun _ => ?_⟩
 · rw [hps, List.mem_append] at hp
   exact Or.inr hp
 · obtain ⟨_, _, _, _, _, hz, hn⟩ := hW
   refine ⟨hok, _, _, ([] ++ pa) ++ pv, ⟨[] ++ pa, pv, trodAll_append (hargs _ (fun _ _ => rfl)) (hres _ _ _), hvars _ (fun _ _ => rfl), rfl, ?_, ?_⟩, ?_⟩
   · intro b off hp
     have hin : MemPlace.cell b off ∈ before := by rw [hps]; simpa using hp
     rw [hb.frozen (hlt _ hin)]
     exact hz b off hin
   · intro ha
     have := hn ha
     rw [hps] at this
     simpa using this
   · intro p hp _
     rw [hps]
     simpa using hp
theorem zhf (hl : laidOutB P = true) {W W' : World} (hb : Below W.heap.size W W') {sp : Nat -> Bool} :
   ∀ {ts : List TypeId} {vs : List Value} {ds : List (DataW H)} {ps : List MemPlace}, (∀ t ∈ ts, P.readableRec t = true /\ t < P.types.size) ->
   DataW.TrodAll enc P W 0 (fun _ => true) true ts vs ds ps -> (∀ x ∈ ps, x.block < W.heap.size) -> (∀ x ∈ ps, sp x.block = true) -> DataW.TrodAll enc P W' 0 sp true ts vs ds ps
 | [], [], [], _, _, h, _, _ => h
 | _ :: _, _ :: _, _ :: _, _, hr, ⟨p, q, h1, h2, e⟩, hlt, hs =>
   ⟨p, q, WideElems.Trod_stays hl (hr _ (List.mem_cons.2 (Or.inl rfl))).1 (hr _ (List.mem_cons.2 (Or.inl rfl))).2 h1
       (fun x hx => hb.same (hlt x (by rw [e]; exact List.mem_append_left _ hx))) (fun x hx => hs x (by rw [e]; exact List.mem_append_left _ hx)),
     zhf hl hb (fun t ht => hr t (List.mem_cons.2 (Or.inr ht))) h2 (fun x hx => hlt x (by rw [e]; exact List.mem_append_right _ hx)) (fun x hx => hs x (by rw [e]; exact List.mem_append_right _ hx)), e⟩
theorem post_law {f : Func} {s : ChangeSpec} {apart fresh handsOn again : Bool} {W W' : World} {args : Array Value} {ds : List (DataW H)} {before : List MemPlace} {tb : TypeId}
   (hl : laidOutB P = true) (hr : (f.params.toList.all fun t => P.readableRec t && decide (t < P.types.size)) = true) (hbt : f.resultTypes = #[tb]) (hub : P.underlying tb = some .bool) (hsv : s.vars = [])
   (hW : DataW.Whole enc P f.params.toList s.vars apart W args.toList ds [] before)
   (hfn : s.fn H (ds ++ []) = { results := [.lit (.bool true)], args := ds }) (hb : Below W.heap.size W W') :
   s.post enc P f apart fresh handsOn again W args (.bool true) W' := by
 have hlt : ∀ p ∈ before, p.block < W.heap.size := fun p hp => hW.lt p hp
 obtain ⟨p, q, hA, hV, hpq, _, _⟩ := id hW
 rw [hsv] at hV
 have hq : q = [] := hV
 subst hq
 rw [List.append_nil] at hpq
 subst hpq
 refine znn (pa := before) (pv := []) hW ?_ ?_ ?_ (by simp) hb ?_
 · intro _ _ _
   rw [hfn, hbt]
   exact trodAll_mk1 (shut_bool hub true)
 · intro sp hsp
   rw [hfn]
   exact zhf hl hb (fun t ht => by simpa using List.all_eq_true.1 hr t ht) hA hlt hsp
 · intro sp _
   rw [hfn, hsv]
   rfl
 · exact ok_one hbt rfl (okWide_bool_mk hub true)
end
end Go.Proofs.Ytogomcfgfnlclaa
namespace Go.Proofs.Ytogomcfgfnlclaa
open Go.RowKit
theorem i5 : (Try.prog.info? 5).map (fun i => (i.zero, i.size, i.bytes)) = some (some (.int .u8 0), 1, 1) := by kernel_rfl
def cl8 (k : Int) : Nat := (min (max k 0) 8).toNat
def yal (n : Nat) : Nat -> List UInt8
 | 0 => []
 | i+1 => UInt8.ofNat (n / 256^i) :: yal n i
theorem yq4 (k : Int) : cl8 k <= 8 := by unfold cl8; omega
theorem zkg (n c : Nat) : (yal n c).length = c := by induction c <;> simp_all [yal]
theorem yfq (n c t : Nat) (h : t < (yal n c).length) : (yal n c)[t] = UInt8.ofNat (n / 256 ^ (c - 1 - t)) := by
 induction c generalizing t with
 | zero => simp [yal] at h
 | succ c ih =>
   rcases t with _ | t
   · simp [yal]
   · simp only [yal, List.getElem_cons_succ]
     rw [ih]
     congr 3; omega
set_option maxRecDepth 100000 in
set_option maxHeartbeats 400000 in
theorem ykl (n : Nat) (k : Int) (w : World) (_hn : n < 18446744073709551616) :
   Calls Try.prog 61 #[.int .u64 n, .int .i64 k] w fun e w' => e = .returned (.string ⟨(yal n (cl8 k)).toArray⟩) /\ Below w.heap.size w w' := by
 have h8 := yq4 k
 have hmk := fun W => run_make_row' (P := Try.prog) 73 5 (.int .u8 0) 1 Try.underlying73 i5 rfl .i64 .i64 (cl8 k) (by omega) (by omega) W
 go_enter Try.func61, Try.ntmps61
 go_upto_region 1 with (fail)
 go_cut [1] (fun v wx => v = .int .i64 (cl8 k) /\ w = wx)
 case first =>
   go_wp2
   all_goals (go_meet; exact ⟨by unfold cl8; go_num, rfl⟩)
 case rest =>
   obtain ⟨rfl, rfl⟩ := hcut
   generalize hc : cl8 k = c at *
   have Hc := Lib.hid hc
   clear hc
   go_wp2
   go_loopw [0, 6] (fun m i wr => ∃ j x : Nat, j <= c /\ i = .int .i64 ((j : Int) - 1) /\ m = .int .u64 (x : Int) /\ Hid (x = n / 256 ^ (c - j)) /\
      wr.rowIs w.heap.size 5 c (fun t => if t < j then .int .u8 0 else zlh (UInt8.ofNat (n / 256 ^ (c - 1 - t)))) /\ Below w.heap.size w wr) (fun _ i _ => (intOf i + 1).toNat)
   case atStart =>
     refine ⟨c, n, by omega, by simp, by simp, Lib.hid (by simp), ?_, ?_⟩
     · exact (World.rowIs_made w (.int .u8 0) c 5).congr (fun i hi => by simp [hi])
     · exact (Below.refl _ _).alloc (Nat.le_refl _) _
   case round =>
     obtain ⟨j, x, hj, rfl, rfl, hx, hrow, hb⟩ := hrel
     rcases j with _ | j
     · have hconv := fun cc => yhl (P := Try.prog) (src := 73) (dst := 9) (cap := cc) (yal n c) Try.underlying73 Try.underlying5 Try.underlying9 hrow (zkg n c) (fun i hi => by simp [yfq])
       go_wp2
       go_ret
       exact ⟨ya8 (by rw [Hc.out]), hb⟩
     · have hc := hrow.cell (i := j) (by omega)
       have hf := hrow.frozen j
       have hs := hrow.set j (.int .u8 ((x : Int) % 256))
       have hB := hb.setCell (p := ⟨w.heap.size, j, none⟩) (Nat.le_refl _) (.int .u8 ((x : Int) % 256))
       have h0 : ((j + 1 : Nat) : Int) - 1 = j := by omega
       rw [h0]
       simp only [Nat.lt_succ_self, if_true] at hc
       clear hrow hb h0
       go_wp2
       go_roundw
       case rel =>
         refine ⟨j, x / 256, by omega, rfl, rfl, Lib.hid ?_, hs.congr fun t ht => ?_, hB⟩
         · rw [hx.out, Nat.div_div_eq_div_mul, <- Nat.pow_succ]; congr 2; omega
         · by_cases h1 : t = j
           · subst h1; rw [if_pos rfl, if_neg (by omega), zh9, hx.out, show c - (t + 1) = c - 1 - t by omega]
           · rw [if_neg h1]
             by_cases h2 : t < j
             · rw [if_pos h2, if_pos (by omega)]
             · rw [if_neg h2, if_neg (by omega)]
       case measure => simp [intOf] <;> omega
def zy5 (l : List UInt8) : Nat := l.foldl (fun n b => n * 256 + b.toNat) 0
theorem zqj (l : List UInt8) (b : UInt8) : zy5 (l ++ [b]) = zy5 l * 256 + b.toNat := by simp [zy5]
theorem zl6 (l : List UInt8) (k : Nat) (h : k < l.length) : zy5 (l.take (k + 1)) = zy5 (l.take k) * 256 + l[k].toNat := by
 rw [List.take_succ_eq_append_getElem h, zqj]
theorem ylv (l : List UInt8) : zy5 l < 256 ^ l.length := by
 rw [<- List.reverse_reverse l]
 induction l.reverse with
 | nil => simp [zy5]
 | cons b l ih =>
   rw [List.reverse_cons, zqj, List.length_append, List.length_singleton, Nat.pow_succ]
   have := b.toNat_lt
   omega
theorem yh5 (l : List UInt8) (k : Nat) (h : k < l.length) (h8 : l.length <= 8) : zy5 (l.take k) < 72057594037927936 := by
 have h1 := ylv (l.take k)
 have h2 : (l.take k).length <= 7 := by rw [List.length_take]; omega
 have h3 : 256 ^ (l.take k).length <= 256 ^ 7 := Nat.pow_le_pow_right (by omega) h2
 omega
theorem ykq (x : Nat) (b : UInt8) (h : x < 72057594037927936) : bits .or .u64 ((x : Int) * 256) (b.toNat : Int) = ((x * 256 + b.toNat : Nat) : Int) := by
 have hb := b.toNat_lt
 have := u64_or_nat (x * 256) b.toNat (by omega) (by omega)
 rw [nat_join 8 (x * 256) b.toNat (by omega) (by omega)] at this
 rw [<- this]; congr 1
set_option maxRecDepth 100000 in
set_option maxHeartbeats 400000 in
theorem ylu (l : List UInt8) (w : World) (h1 : 1 <= l.length) (h8 : l.length <= 8) :
   Calls Try.prog 92 #[.string ⟨l.toArray⟩] w fun e w' => e = .returned (.tuple #[.int .u64 (zy5 l), .int .i64 0]) /\ w = w' := by
 have hne : (l == []) = false := by cases l <;> simp_all
 have hne' : l ≠ [] := by intro h; simp [h] at h1
 go_enter Try.func92, Try.ntmps92
 go_wp2
 refine zgw 0 (fun a' w' => w = w' /\ ∃ (k x : Nat), Hid (x = zy5 (l.take k)) /\ k < l.length /\ x < 72057594037927936 /\ ∃ u1 u2 u3 u6 u7 u8 u9 u10 u11 u12 u13 u14 u15 u16 u17 u18 u19 u20 u21 u22 u23 u24 : Value, a' = ⟨#[.string ⟨l.toArray⟩, u1, u2, u3, .int .u64 (x : Int), .int .i64 (k : Int), u6, u7, u8, u9, u10, u11, u12, u13, u14, u15, u16, u17, u18, u19, u20, u21, u22, u23, u24], []⟩) (fun a' _ => l.length - (intOf (a'.tmps.getD 5 undef)).toNat) rfl ?_ ?_
 · rintro a' w' ⟨rfl, k, x, hx, hk, hx7, u1, u2, u3, u6, u7, u8, u9, u10, u11, u12, u13, u14, u15, u16, u17, u18, u19, u20, u21, u22, u23, u24, rfl⟩
   have hor := ykq x l[k] hx7
   go_wp2
   · go_step3
     exact ⟨rfl, ⟨rfl, k + 1, x * 256 + l[k].toNat, Lib.hid (by rw [zl6 l k hk, hx.out]), by omega, by have := yh5 l (k + 1) (by omega) h8; rw [zl6 l k hk, <- hx.out] at this; exact this, _, _, _, _, _, _, _, _, _, _, _, _, _, _, _, _, _, _, _, _, _, _, by go_num⟩, by simp [intOf] <;> omega⟩
   · go_ret2
     refine ⟨?_, rfl⟩
     have : zy5 l = x * 256 + l[k].toNat := by rw [hx.out, <- zl6 l k hk, List.take_of_length_le (by omega)]
     rw [this]; rfl
 · intro hP
   go_wp2
   go_step3
   simp only [Exit.then]
   apply_assumption
   exact hP.out _ _ ⟨rfl, 0, 0, Lib.hid rfl, by omega, by omega, _, _, _, _, _, _, _, _, _, _, _, _, _, _, _, _, _, _, _, _, _, _, rfl⟩
def zdv (n : Nat) : List UInt8 := if n < 128 then [UInt8.ofNat n] else UInt8.ofNat (n % 128 + 128) :: zdv (n / 128)
termination_by n
decreasing_by omega
theorem zdl {n : Nat} (h : n < 128) : zdv n = [UInt8.ofNat n] := by rw [zdv, if_pos h]
theorem zgd {n : Nat} (h : 128 <= n) : zdv n = UInt8.ofNat (n % 128 + 128) :: zdv (n / 128) := by rw [zdv, if_neg (by omega)]
theorem ys6 (x : Nat) : bits .or .u8 ((x : Int) % 256) 128 = (x : Int) % 128 + 128 := by
 have h := u8_or_nat (x % 256) 128 (by omega) (by omega)
 have h2 : x % 256 ||| 128 = x % 128 + 128 := by
   have e1 : x % 256 = x % 128 + x / 128 % 2 * 128 := by omega
   have h3 : x / 128 % 2 = 0 \/ x / 128 % 2 = 1 := by omega
   have j1 : ∀ y, y < 128 -> 128 ||| y = 128 + y := fun y hy => nat_join 7 128 y (by decide) hy
   have e2 : ∀ y, y < 128 -> (y + 128) ||| 128 = y + 128 := fun y hy => by
     rw [Nat.add_comm y 128, <- j1 y hy, Nat.or_comm 128 y, Nat.or_assoc, Nat.or_self]
   rcases h3 with h3 | h3
   · rw [e1, h3, Nat.or_comm]; simp only [Nat.zero_mul, Nat.add_zero]; rw [j1 _ (by omega)]; omega
   · rw [e1, h3, Nat.one_mul, e2 _ (by omega)]
 rw [h2] at h
 have e : (((x % 256 : Nat) : Int)) = (x : Int) % 256 := by omega
 rw [e] at h
 rw [show ((128 : Nat) : Int) = 128 from rfl] at h
 rw [h]; omega
set_option maxRecDepth 100000 in
set_option maxHeartbeats 400000 in
theorem zz0 (n : Nat) (w : World) (hn : n < 18446744073709551616) :
   Calls Try.prog 52 #[.int .u64 n] w fun e w' => e = .returned (.string ⟨(zdv n).toArray⟩) /\ Below w.heap.size w w' := by
 go_enter Try.func52, Try.ntmps52
 go_wp2
 refine zgw 0 (fun a' w' => Below w.heap.size w w' /\ ∃ (x k : Nat) (v : Value) (pre : List UInt8), Hid (pre ++ zdv x = zdv n) /\ x < 18446744073709551616 /\ k <= 10 /\ Hid (x * 128 ^ k <= n) /\ w'.ownsRow w.heap.size 5 1 v k (pre.map zlh) /\ ∃ u1 u2 u4 u5 u6 u7 u8 u9 u10 u11 u12 u13 u14 u15 u16 u17 u18 u19 : Value, a' = ⟨#[.int .u64 (x : Int), u1, u2, v, u4, u5, u6, u7, u8, u9, u10, u11, u12, u13, u14, u15, u16, u17, u18, u19], []⟩) (fun a' _ => (intOf (a'.tmps.getD 0 undef)).toNat) rfl ?_ ?_
 · rintro a' wr ⟨hb, x, k, v, pre, hpre, hx, hk, hxk, hown, u1, u2, u4, u5, u6, u7, u8, u9, u10, u11, u12, u13, u14, u15, u16, u17, u18, u19, rfl⟩
   have hor := ys6 x
   have hsz := hb.size
   by_cases hlt : x < 128
   · have hx8 : ∀ w1 : World, ∀ v1, w1.ownsRow w.heap.size 5 1 v1 (k + 1) (List.map zlh pre ++ [Value.int .u8 (x : Int)]) -> (convert 73 9 v1).run Try.prog w1 = .ok (.string ⟨(pre ++ [UInt8.ofNat x]).toArray⟩) w1 := fun w1 v1 h =>
       zxn (P := Try.prog) (src := 73) (dst := 9) (e := 5) Try.underlying73 Try.underlying5 Try.underlying9 (pre ++ [UInt8.ofNat x]) (by
         have e : (Value.int .u8 (x : Int)) = zlh (UInt8.ofNat x) := by rw [zh9]; go_num
         rw [List.map_append, List.map_singleton, <- e]; exact h)
     have Hx8 := Lib.hid hx8
     clear hx8
     go_wp2_with (at_builtin; refine zjy _ rfl _ _ 73 rfl w.heap.size 5 (.int .u8 0) 1 Try.underlying73 i5 rfl _ _ _ rfl hown _ rfl rfl (by omega) (by omega) hsz ?_; intro v1 w1 hown1 hb1; have hcv := Hx8.out w1 v1 hown1; clear hown1 hown hor)
     go_ret
     exact ⟨ya8 (by rw [<- hpre.out, zdl hlt]), hb.trans (by assumption)⟩
   · go_wp2_with (at_builtin; refine zjy _ rfl _ _ 73 rfl w.heap.size 5 (.int .u8 0) 1 Try.underlying73 i5 rfl _ _ _ rfl hown _ rfl rfl (by omega) (by omega) hsz ?_; intro v1 w1 hown1 hb1)
     go_step3
     have h128 : 128 * 128 ^ k <= n := Nat.le_trans (Nat.mul_le_mul_right _ (by omega)) hxk.out
     have hk9 : k + 1 <= 10 := by
       refine Decidable.byContradiction fun h => ?_
       have : 128 ^ 10 <= 128 ^ k := Nat.pow_le_pow_right (by decide) (by omega)
       have h3 : (128 : Nat) ^ 10 = 1180591620717411303424 := by decide
       omega
     exact ⟨rfl, ⟨hb.trans hb1, x / 128, k + 1, v1, pre ++ [UInt8.ofNat (x % 128 + 128)], Lib.hid (by rw [List.append_assoc, <- hpre.out, zgd (n := x) (by omega)]; rfl), by omega, hk9, Lib.hid (by
       rw [Nat.pow_succ]; have h4 : x / 128 * (128 ^ k * 128) <= x * 128 ^ k := by
         rw [Nat.mul_comm (128 ^ k) 128, <- Nat.mul_assoc]; exact Nat.mul_le_mul_right _ (by omega)
       exact Nat.le_trans h4 hxk.out), by
       rw [List.map_append, List.map_singleton, zh9]; rw [show (((x % 128 + 128 : Nat) : Int) % 256) = (x : Int) % 128 + 128 by omega]; exact hown1, _, _, _, _, _, _, _, _, _, _, _, _, _, _, _, _, _, _, rfl⟩, by simp [intOf]; omega⟩
 · intro hP
   go_wp2
   go_step3
   simp only [Exit.then]
   apply_assumption
   exact hP.out _ _ ⟨Below.refl _ _, n, 0, _, [], Lib.hid rfl, hn, by omega, Lib.hid (by simp), World.ownsRow_nil _ _ _ _, _, _, _, _, _, _, _, _, _, _, _, _, _, _, _, _, _, _, rfl⟩
end Go.Proofs.Ytogomcfgfnlclaa
namespace Go.Proofs.Ytogomcfgfnlclaa
open Go.RowKit
def zxy (w : World) (g : Nat) (ps : List (List UInt8)) : Prop := ∀ j (h : j < ps.length), w.cell? ⟨g, j, none⟩ = some (.string ⟨ps[j].toArray⟩)
def zy6 (ps : List (List UInt8)) : List UInt8 := ps.flatten
end Go.Proofs.Ytogomcfgfnlclaa
namespace Go.Proofs.Ytogomcfgfnlclaa
namespace Sy
open Go Go.RowKit
set_option maxRecDepth 100000
def yak (e n : Int) : List UInt8 := yal e.toNat (cl8 n)
def getZ (l : List UInt8) : Int := zy5 l
def yfp (e n : Int) : Prop := 0 <= e /\ e < 18446744073709551616 /\ -9223372036854775808 <= n /\ n <= 9223372036854775807
def yh4 (l : List UInt8) : Prop := 1 <= l.length /\ l.length <= 8
def upto (n : Nat) (l : List UInt8) : Prop := l.length <= n
def zwp (L : za9) : zf3 := (61, fun xs => match xs with | [.int .u64 e, .int .i64 n] => some (L2 L yfp e n, .str (L2 L yak e n)) | _ => none)
def ylt (L : za9) : zf3 := (92, fun xs => match xs with | [.str l] => some (L yh4 l, .tup [.int .u64 (L getZ l), .int .i64 0]) | _ => none)
theorem ynu {x y : AV} {v u : Value} (hx : ∀ h D, R h D zar x v) (hy : ∀ h D, R h D zar y u) : ∀ h D, R h D zar (.tup [x, y]) (.tuple #[v, u]) := by
 intro h D
 refine .tup _ _ rfl ?_
 intro i z t hz ht
 match i with
 | 0 => simp at hz ht; subst hz ht; exact hx h D
 | 1 => simp at hz ht; subst hz ht; exact hy h D
 | i + 2 => simp at hz
theorem ypo (k : IntKind) (n : Int) : ∀ h D, R h D zar (.int k n) (.int k n) := fun _ _ => .int k n
theorem ybb {e : Int} (h : 0 <= e) : ∃ n : Nat, e = n := ⟨e.toNat, by omega⟩
theorem zjj : zgv Try.prog (zwp std) := by
 intro xs p r h hp
 dsimp only [zwp] at h |-
 split at h <;> cases h
 rename_i e n
 obtain ⟨h0, h1, h2, h3⟩ : yfp e n := hp
 obtain ⟨k, rfl⟩ := ybb h0
 exact zdf (fn := Try.f61) rfl rfl (by kernel_rfl) (yqe (zhh _ _) (zhh _ _)) (fun h D => zvn h D _ _) (fun w => ykl k n w (by omega))
theorem yh3 : zgv Try.prog (ylt std) := by
 intro xs p r h hp
 dsimp only [ylt] at h |-
 split at h <;> cases h
 rename_i l
 obtain ⟨h1, h8⟩ : yh4 l := hp
 exact zdf (fn := Try.f92) rfl rfl (by kernel_rfl) (yht (zhg _)) (ynu (ypo _ _) (ypo _ _)) (zow fun w => ylu l w h1 h8)
end Sy
end Go.Proofs.Ytogomcfgfnlclaa
namespace Go.Proofs.Ytogomcfgfnlclaa
namespace Sy
open Go Go.RowKit
set_option maxRecDepth 100000
set_option linter.unusedSimpArgs false
set_option linter.unusedVariables false
structure Nd where
 now : List UInt8
 sure : List UInt8
structure Tn where
 kd : Int
 fr : List UInt8
 tt2 : List UInt8
 c : Bool
 k : Nat
structure Dk where
 room : Int
 nd : List Nd
 names : List (List UInt8 × Nat)
 sure : List (List UInt8 × Nat)
 pend : List Tn
 steps : Int
 fuse : Int
 down : Bool
def ndC (L : za9) (x : Nd) : Nat -> AV
 | 0 => .str (L Nd.now x)
 | _ => .str (L Nd.sure x)
def tnC (L : za9) (x : Tn) : Nat -> AV
 | 0 => .int .i64 (L Tn.kd x)
 | 1 => .str (L Tn.fr x)
 | 2 => .str (L Tn.tt2 x)
 | _ => .aep (L Tn.c x) 600100 (L Tn.k x) 2 0 0
def ndD : Nd := ⟨[], []⟩
def tnD : Tn := ⟨0, [], [], false, 0⟩
def za4 (l : List Nd) (k : Nat) : Nd := l.getD k ndD
def zc1 (l : List Tn) (k : Nat) : Tn := l.getD k tnD
def zgt (l : List Tn) : Nat := l.length
def zb5 (l : List Nd) : Nat := l.length
def ndO (L : za9) (l : List Nd) : Ob := .tab 68 2 (L zb5 l) (fun _ => 1) (fun k _ => ndC L (L (L za4 l) k))
def dpX (L : za9) (d n s p : Nat) (x : Dk) : List (Nat × Ob) :=
 [(d, .box 63 [.int .i64 (L Dk.room x), .mp n, .mp s, .sl p 4 0 (L zgt (L Dk.pend x)), .int .i64 (L Dk.steps x), .int .i64 (L Dk.fuse x), .bool (L Dk.down x)]),
  (n, .mapp 600100 2 (L Dk.names x)), (s, .mapp 600100 2 (L Dk.sure x)),
  (p, .rowp 600100 71 4 (L zgt (L Dk.pend x)) (fun q => tnC L (L (L zc1 (L Dk.pend x)) q))),
  (600100, ndO L (L Dk.nd x))]
def dpO (L : za9) (x : Dk) : List (Nat × Ob) := dpX L 500000 500001 500002 500003 x
def AV.toS : AV -> List UInt8
 | .str l => l
 | _ => []
def yqu (g : Nat -> AV) : Nd := ⟨(g 0).toS, (g 1).toS⟩
def aepC : AV -> Bool
 | .aep c _ _ _ _ _ => c
 | _ => false
def aepK : AV -> Nat
 | .aep _ _ k _ _ _ => k
 | _ => 0
def ys1 (g : Nat -> AV) : Tn := ⟨(g 0).toI, (g 1).toS, (g 2).toS, aepC (g 3), aepK (g 3)⟩
structure Dq where
 room : Int
 ln : List (List UInt8 × Nat)
 ls : List (List UInt8 × Nat)
 np : Nat
 gp : Nat -> Nat -> AV
 nn : Nat
 gn : Nat -> Nat -> Nat -> AV
 steps : Int
 fuse : Int
 down : Bool
def zpm (q : Dq) : Dk := ⟨q.room, (List.range q.nn).map (fun k => yqu (q.gn k 0)), q.ln, q.ls, (List.range q.np).map (fun i => ys1 (q.gp i)), q.steps, q.fuse, q.down⟩
theorem yoo (l : List Nd) : (List.range (zb5 l)).map (fun k => yqu (ndC std (za4 l k))) = l := by
 apply List.ext_getElem
 · simp [zb5]
 · intro i h1 h2
   simp [yqu, ndC, za4, std, AV.toS, h2]
theorem yrz (l : List Tn) : (List.range (zgt l)).map (fun i => ys1 (tnC std (zc1 l i))) = l := by
 apply List.ext_getElem
 · simp [zgt]
 · intro i h1 h2
   simp [ys1, tnC, zc1, std, AV.toS, AV.toI, aepC, aepK, h2]
theorem zjb (x : Dk) : zpm ⟨x.room, x.names, x.sure, zgt x.pend, fun q => tnC std (zc1 x.pend q), zb5 x.nd, fun k _ => ndC std (za4 x.nd k), x.steps, x.fuse, x.down⟩ = x := by
 unfold zpm
 simp only [yoo, yrz]
def yot (ob : Nat -> Option Ob) : AV -> Option (Nat × (Nat -> Nat -> AV))
 | .sl p _ _ n => match ob p with
   | some (.rowp _ _ _ _ g) => some (n, g)
   | _ => none
 | .nils => some (0, fun _ _ => .dead)
 | _ => none
def yb8 (ob : Nat -> Option Ob) : Option (Nat × (Nat -> Nat -> Nat -> AV)) := match ob 600100 with
 | some (.tab _ _ n _ g) => some (n, g)
 | _ => none
def zmj (ob : Nat -> Option Ob) (n : Nat) : Option (List (List UInt8 × Nat)) := match ob n with
 | some (.mapp _ _ l) => some l
 | _ => none
def rdS (L : za9) (ob : Nat -> Option Ob) (d : Nat) : Option Dk := match ob d with
 | some (.box _ [.int _ room, .mp n, .mp s, p, .int _ steps, .int _ fuse, .bool down]) => match zmj ob n, zmj ob s, yot ob p, yb8 ob with
   | some ln, some ls, some (np, gp), some (nn, gn) => some (L zpm ⟨room, ln, ls, np, gp, nn, gn, steps, fuse, down⟩)
   | _, _, _, _ => none
 | _ => none
def onZ (x : Dk) : Int := if x.down = true then 15 else 0
def yp0 (L : za9) : zeb := (28, fun raw ob => match raw with
 | [.ref id 0] => match rdS L ob id with
   | some x => some ⟨[.ref 500000 0], dpO L x, True, .int .i64 (L onZ x), dpO L x⟩
   | _ => none
 | _ => none)
theorem ys9 (x : Dk) : zat Try.prog 28 [.ref 500000 0] (dpO std x) (.int .i64 (onZ x)) (dpO std x) := by
 refine zad (T := tt) (S := fun L => zaz [] []) (lo := noA) (lb := noA) 8 (fn := Try.f28) (xs := fun L => [.ref 500000 0]) (rts := fun L => [.int .i64 (L onZ x)]) (O := fun L => dpO L x) (O1 := fun L => dpO L x)
   rfl rfl (by kernel_rfl) (by kernel_rfl) (by kernel_rfl) zap (za6 trivial trivial) (by kernel_rfl) ?_
 intro L P' Q' hL hP hQ
 (cbv; try simp only [syT, true_and, and_true])
 refine ⟨(fun h => by cases h), fun _ => ⟨fun h => ⟨Nat.le_refl _, ⟨fun _ _ => trivial, fun _ _ _ _ _ _ => trivial⟩, fun _ _ _ _ => trivial, ?_⟩, fun h => ⟨Nat.le_refl _, ⟨fun _ _ => trivial, fun _ _ _ _ _ _ => trivial⟩, fun _ _ _ _ => trivial, ?_⟩⟩⟩
 · subst hL
   show 15 = onZ x
   unfold onZ; rw [if_pos (show x.down = true from h)]
 · subst hL
   show 0 = onZ x
   unfold onZ; rw [if_neg (by rw [show x.down = false from h]; decide)]
theorem zns : zbt Try.prog (yp0 std) := by
 intro raw ob T hT hp
 unfold yp0 at hT
 simp only at hT
 repeat' split at hT
 all_goals first | (cases hT; done) | (cases hT; exact ys9 _)
def zas (x : Dk) : Int := if x.fuse = 0 then 15 else 0
def zal (x : Dk) : Dk := if x.fuse = 0 then { x with down := true } else { x with fuse := if 0 < x.fuse then zp3 .i64 x.fuse 1 else x.fuse, steps := zco .i64 x.steps 1 }
def zk3 (L : za9) : zeb := (30, fun raw ob => match raw with
 | [.ref id 0] => match rdS L ob id with
   | some x => some ⟨[.ref 500000 0], dpO L x, True, .int .i64 (L zas x), dpO L (L zal x)⟩
   | _ => none
 | _ => none)
theorem zby (x : Dk) : (zal x).nd = x.nd /\ (zal x).names = x.names /\ (zal x).sure = x.sure /\ (zal x).pend = x.pend /\ (zal x).room = x.room := by
 unfold zal
 split <;> exact ⟨rfl, rfl, rfl, rfl, rfl⟩
theorem yjk (x : Dk) : zat Try.prog 30 [.ref 500000 0] (dpO std x) (.int .i64 (zas x)) (dpO std (zal x)) := by
 refine zad (T := tt) (S := fun L => zaz [] []) (lo := noA) (lb := noA) 8 (fn := Try.f30) (xs := fun L => [.ref 500000 0]) (rts := fun L => [.int .i64 (L zas x)]) (O := fun L => dpO L x) (O1 := fun L => dpO L (L zal x))
   rfl rfl (by kernel_rfl) (by kernel_rfl) (by kernel_rfl) zap (za6 trivial trivial) (by kernel_rfl) ?_
 intro L P' Q' hL hP hQ
 (cbv; try simp only [syT, true_and, and_true])
 obtain ⟨e1, e2, e3, e4, e5⟩ := zby x
 have e1 : L Dk.nd (L zal x) = L Dk.nd x := by subst hL; exact e1
 have e2 : L Dk.names (L zal x) = L Dk.names x := by subst hL; exact e2
 have e3 : L Dk.sure (L zal x) = L Dk.sure x := by subst hL; exact e3
 have e4 : L Dk.pend (L zal x) = L Dk.pend x := by subst hL; exact e4
 have e5 : L Dk.room (L zal x) = L Dk.room x := by subst hL; exact e5
 simp only [e1, e2, e3, e4, e5, true_and]
 refine ⟨fun h => ⟨Nat.le_refl _, ⟨fun _ _ => trivial, fun _ _ _ _ _ _ => trivial⟩, fun _ _ _ _ => trivial, ?_⟩, fun h => ⟨fun h2 => ⟨Nat.le_refl _, ⟨fun _ _ => trivial, fun _ _ _ _ _ _ => trivial⟩, fun _ _ _ _ => trivial, ?_⟩, fun h2 => ⟨Nat.le_refl _, ⟨fun _ _ => trivial, fun _ _ _ _ _ _ => trivial⟩, fun _ _ _ _ => trivial, ?_⟩⟩⟩
 · (subst hL; subst hQ; simp only [L2, L3, std] at *; try simp only [syS, reduceCtorEq, Int.reduceToNat, Int.reduceAdd, Int.reduceSub] at *)
   unfold zal zas
   rw [if_pos h, if_pos h]
   exact ⟨rfl, rfl, rfl, rfl⟩
 · subst hL
   have h : x.fuse ≠ 0 := by simpa [ieq, std] using h
   have h2 : 0 < x.fuse := of_decide_eq_true h2
   show x.down = (zal x).down /\ zp3 .i64 x.fuse 1 = (zal x).fuse /\ zco .i64 x.steps 1 = (zal x).steps /\ 0 = zas x
   unfold zal zas
   rw [if_neg h, if_neg h]
   exact ⟨rfl, (if_pos h2).symm, rfl, rfl⟩
 · subst hL
   have h : x.fuse ≠ 0 := by simpa [ieq, std] using h
   have h2 : ¬ 0 < x.fuse := of_decide_eq_false h2
   show x.down = (zal x).down /\ x.fuse = (zal x).fuse /\ zco .i64 x.steps 1 = (zal x).steps /\ 0 = zas x
   unfold zal zas
   rw [if_neg h, if_neg h]
   exact ⟨rfl, (if_neg h2).symm, rfl, rfl⟩
theorem zep : zbt Try.prog (zk3 std) := by
 intro raw ob T hT hp
 unfold zk3 at hT
 simp only at hT
 repeat' split at hT
 all_goals first | (cases hT; done) | (cases hT; exact yjk _)
def thE (x : Dk) (s : List UInt8) : Int := if x.down = true then 15 else if zc8 x.names s = true then 0 else 12
def thB (x : Dk) (s : List UInt8) : Bool := !x.down && zc8 x.names s
def thK (x : Dk) (s : List UInt8) : Nat := zds x.names s
def zid (L : za9) : zeb := (35, fun raw ob => match raw with
 | [.ref id 0, .str s] => match rdS L ob id with
   | some x => some ⟨[.ref 500000 0, .str s], dpO L x, True, .tup [.aep (L2 L thB x s) 600100 (L2 L thK x s) 2 0 0, .int .i64 (L2 L thE x s)], dpO L x⟩
   | _ => none
 | _ => none)
theorem yer (x : Dk) (s : List UInt8) : zat Try.prog 35 [.ref 500000 0, .str s] (dpO std x) (.tup [.aep (thB x s) 600100 (thK x s) 2 0 0, .int .i64 (thE x s)]) (dpO std x) := by
 refine zad (T := tt) (S := fun L => zaz [] [yp0 L]) (lo := noA) (lb := noA) 8 (fn := Try.f35) (xs := fun L => [.ref 500000 0, .str s]) (rts := fun L => [.aep (L2 L thB x s) 600100 (L2 L thK x s) 2 0 0, .int .i64 (L2 L thE x s)]) (O := fun L => dpO L x) (O1 := fun L => dpO L x)
   rfl rfl (by kernel_rfl) (by kernel_rfl) (by kernel_rfl) zap (za6 trivial ⟨zns, trivial⟩) (by kernel_rfl) ?_
 intro L P' Q' hL hP hQ
 have hE : ∀ x : Dk, L zpm ⟨L Dk.room x, L Dk.names x, L Dk.sure x, L zgt (L Dk.pend x), fun q => tnC L (L (L zc1 (L Dk.pend x)) q), L zb5 (L Dk.nd x), fun k _ => ndC L (L (L za4 (L Dk.nd x)) k), L Dk.steps x, L Dk.fuse x, L Dk.down x⟩ = x := by subst hL; exact zjb
 (cbv; try simp only [syT, true_and, and_true])
 simp only [hE, true_and]
 refine ⟨Nat.le_refl _, ⟨fun _ _ => trivial, fun _ _ _ _ _ _ => trivial⟩, fun _ _ _ _ => trivial, fun h => ⟨Nat.le_refl _, Nat.le_refl _, ⟨fun _ _ => trivial, fun _ _ _ _ _ _ => trivial⟩, fun _ _ _ _ => trivial, ?_⟩, fun h => ⟨fun h2 => ⟨Nat.le_refl _, Nat.le_refl _, ⟨fun _ _ => trivial, fun _ _ _ _ _ _ => trivial⟩, fun _ _ _ _ => trivial, ?_⟩, fun h2 => ⟨Nat.le_refl _, Nat.le_refl _, ⟨fun _ _ => trivial, fun _ _ _ _ _ _ => trivial⟩, fun _ _ _ _ => trivial, ?_⟩⟩⟩
 · subst hL
   have hd : x.down = true := by
     have h : ine (onZ x) 0 = true := h
     unfold onZ at h
     split at h
     · assumption
     · cases h
   show onZ x = thE x s /\ false = thB x s
   unfold onZ thE thB
   rw [if_pos hd, if_pos hd, hd]
   exact ⟨rfl, rfl⟩
 · subst hL
   have hd : x.down = false := by
     have h : ine (onZ x) 0 = false := h
     unfold onZ at h
     split at h
     · cases h
     · rename_i h3; simpa using h3
   have h2 : zc8 x.names s = true := h2
   show 0 = thE x s /\ zc8 x.names s = thB x s /\ zds x.names s = thK x s
   unfold thE thB
   rw [if_neg (by rw [hd]; decide), if_pos h2, hd]
   exact ⟨rfl, rfl, rfl⟩
 · subst hL
   have hd : x.down = false := by
     have h : ine (onZ x) 0 = false := h
     unfold onZ at h
     split at h
     · cases h
     · rename_i h3; simpa using h3
   have h2 : zc8 x.names s = false := h2
   show 12 = thE x s /\ false = thB x s
   unfold thE thB
   rw [if_neg (by rw [hd]; decide), if_neg (by rw [h2]; decide), hd, h2]
   exact ⟨rfl, rfl⟩
theorem zf4 : zbt Try.prog (zid std) := by
 intro raw ob T hT hp
 unfold zid at hT
 simp only at hT
 repeat' split at hT
 all_goals first | (cases hT; done) | (cases hT; exact yer _ _)
def doL (l : List (List UInt8 × Nat)) (t : Tn) : List (List UInt8 × Nat) :=
 if t.kd = 1 then zgu l t.tt2 t.k else if zc8 l t.fr = true then (if t.kd = 2 then zgu (ziy l t.fr) t.tt2 (zds l t.fr) else ziy l t.fr) else l
def yiy (kd : Int) (c : Bool) : Prop := kd = 1 -> c = true
def ykm : AV -> Option (Bool × Nat)
 | .aep c _ k _ _ _ => some (c, k)
 | .aer _ k _ _ _ => some (true, k)
 | .nilp => some (false, 0)
 | _ => none
def doO (l : List (List UInt8 × Nat)) (tb : Ob) : List (Nat × Ob) := [(500001, .mapp 600100 2 l), (600100, tb)]
def yr5 (L : za9) : zeb := (37, fun raw ob => match raw with
 | [.mp n, .agg [.int .i64 kd, .str fr, .str tt, v]] => match ykm v, zmj ob n, ob 600100 with
   | some (c, k), some l, some (.tab _ _ nn len get) => some ⟨[.mp 500001, .agg [.int .i64 kd, .str fr, .str tt, .aep c 600100 k 2 0 0]], doO l (.tab 68 2 nn len get), L2 L yiy kd c, .tup [], doO (L2 L doL l ⟨kd, fr, tt, c, k⟩) (.tab 68 2 nn len get)⟩
   | _, _, _ => none
 | _ => none)
theorem ysz (l : List (List UInt8 × Nat)) (kd : Int) (fr tt' : List UInt8) (c : Bool) (k : Nat) (nn : Nat) (len : Nat -> Nat) (get : Nat -> Nat -> Nat -> AV) (hp : yiy kd c) :
   zat Try.prog 37 [.mp 500001, .agg [.int .i64 kd, .str fr, .str tt', .aep c 600100 k 2 0 0]] (doO l (.tab 68 2 nn len get)) (.tup []) (doO (doL l ⟨kd, fr, tt', c, k⟩) (.tab 68 2 nn len get)) := by
 refine zad (T := tt) (S := fun L => zaz [] []) (lo := noA) (lb := noA) 8 (fn := Try.f37) (xs := fun L => [.mp 500001, .agg [.int .i64 kd, .str fr, .str tt', .aep c 600100 k 2 0 0]]) (rts := fun _ => []) (O := fun L => doO l (.tab 68 2 nn len get)) (O1 := fun L => doO (L2 L doL l ⟨kd, fr, tt', c, k⟩) (.tab 68 2 nn len get))
   rfl rfl (by kernel_rfl) (by kernel_rfl) (by kernel_rfl) zap (za6 trivial trivial) (by kernel_rfl) ?_
 intro L P' Q' hL hP hQ
 (cbv; try simp only [syT, true_and, and_true])
 have tr : ∀ {p : Prop}, p -> nn.le nn /\ ((∀ (k : Nat), k < nn -> True) /\ ∀ (k i j : Nat), k < nn -> i < len k -> j < 2 -> True) /\ p := fun h => ⟨Nat.le_refl _, ⟨fun _ _ => trivial, fun _ _ _ _ _ _ => trivial⟩, h⟩
 refine ⟨fun h => ⟨?_, tr ?_⟩, fun h => ⟨fun h2 => tr ?_, fun h2 => ⟨fun h3 => ⟨?_, tr ?_⟩, fun h3 => tr ?_⟩⟩⟩
 · subst hL
   exact hp (of_decide_eq_true h)
 · subst hL
   have h : kd = 1 := of_decide_eq_true h
   show zgu l tt' k = doL l ⟨kd, fr, tt', c, k⟩
   unfold doL
   rw [if_pos h]
 · subst hL
   have h : ¬ kd = 1 := of_decide_eq_false h
   have h2 : zc8 l fr = false := by
     have h2 : (!zc8 l fr) = true := h2
     simpa using h2
   show l = doL l ⟨kd, fr, tt', c, k⟩
   unfold doL
   rw [if_neg h, if_neg (by rw [h2]; decide)]
 · subst hL
   have h2 : (!zc8 l fr) = false := h2
   show zc8 l fr = true
   simpa using h2
 · subst hL
   have h : ¬ kd = 1 := of_decide_eq_false h
   have h3 : kd = 2 := of_decide_eq_true h3
   have h2 : zc8 l fr = true := by
     have h2 : (!zc8 l fr) = false := h2
     simpa using h2
   show zgu (ziy l fr) tt' (zds l fr) = doL l ⟨kd, fr, tt', c, k⟩
   unfold doL
   rw [if_neg h, if_pos h2, if_pos h3]
 · subst hL
   have h : ¬ kd = 1 := of_decide_eq_false h
   have h3 : ¬ kd = 2 := of_decide_eq_false h3
   have h2 : zc8 l fr = true := by
     have h2 : (!zc8 l fr) = false := h2
     simpa using h2
   show ziy l fr = doL l ⟨kd, fr, tt', c, k⟩
   unfold doL
   rw [if_neg h, if_pos h2, if_neg h3]
theorem zv7 : zbt Try.prog (yr5 std) := by
 intro raw ob T hT hp
 unfold yr5 at hT
 simp only at hT
 repeat' split at hT
 all_goals first | (cases hT; done) | (cases hT; exact ysz _ _ _ _ _ _ _ _ _ hp)
def zgs (x : Dk) (t : Tn) : Dk := { x with names := doL x.names t, pend := x.pend ++ [t] }
theorem zn9 (x : Dk) (t : Tn) : zgt (zgs x t).pend = Nat.add (zgt x.pend) 1 := by
 show (x.pend ++ [t]).length = x.pend.length + 1
 simp
theorem zyn (x : Dk) (t : Tn) (i j : Nat) (hi : i < zgt (zgs x t).pend) (hj : j < 4) : zci std (L2 std zb3 i (zgt x.pend)) (tnC std (zc1 x.pend i) j) (zbl .dead [.int .i64 t.kd, .str t.fr, .str t.tt2, .aep t.c 600100 t.k 2 0 0] j) = tnC std (zc1 (zgs x t).pend i) j := by
 have e : zbl .dead [AV.int .i64 t.kd, .str t.fr, .str t.tt2, .aep t.c 600100 t.k 2 0 0] j = tnC std t j := by
   match j, hj with
   | 0, _ => rfl
   | 1, _ => rfl
   | 2, _ => rfl
   | 3, _ => rfl
 have s : ∀ (c : Bool) (a b : Tn), zci std c (tnC std a j) (tnC std b j) = tnC std (cond c a b) j := by
   intro c a b
   cases c <;> (match j, hj with
     | 0, _ => rfl
     | 1, _ => rfl
     | 2, _ => rfl
     | 3, _ => rfl)
 rw [e, s]
 rw [zn9] at hi
 have hi : i < x.pend.length + 1 := hi
 congr 1
 show cond (zb3 i x.pend.length) (zc1 x.pend i) t = zc1 (x.pend ++ [t]) i
 unfold zc1 zb3
 rw [List.getD_eq_getElem?_getD, List.getD_eq_getElem?_getD]
 by_cases h : i < x.pend.length
 · rw [decide_eq_true h, List.getElem?_append_left h]; rfl
 · rw [decide_eq_false h, List.getElem?_append_right (by omega), show i - x.pend.length = 0 by omega]; rfl
def zhe (L : za9) : zeb := (31, fun raw ob => match raw with
 | [.ref id 0, .agg [.int .i64 kd, .str fr, .str tt, v]] => match rdS L ob id, ykm v with
   | some x, some (c, k) => some ⟨[.ref 500000 0, .agg [.int .i64 kd, .str fr, .str tt, .aep c 600100 k 2 0 0]], dpO L x, L2 L yiy kd c /\ L (fun x : Dk => x.pend.length <= 1000000) x, .tup [], dpX L 500000 500001 500002 13 (L2 L zgs x ⟨kd, fr, tt, c, k⟩)⟩
   | _, _ => none
 | _ => none)
theorem zym (x : Dk) (kd : Int) (fr tt' : List UInt8) (c : Bool) (k : Nat) (hp : yiy kd c) (hl : x.pend.length <= 1000000) :
   zat Try.prog 31 [.ref 500000 0, .agg [.int .i64 kd, .str fr, .str tt', .aep c 600100 k 2 0 0]] (dpO std x) (.tup []) (dpX std 500000 500001 500002 13 (zgs x ⟨kd, fr, tt', c, k⟩)) := by
 refine zad (T := tt) (S := fun L => zaz [] [yr5 L]) (lo := noA) (lb := noA) 8 (fn := Try.f31) (xs := fun L => [.ref 500000 0, .agg [.int .i64 kd, .str fr, .str tt', .aep c 600100 k 2 0 0]]) (rts := fun _ => []) (O := fun L => dpO L x) (O1 := fun L => dpX L 500000 500001 500002 13 (L2 L zgs x ⟨kd, fr, tt', c, k⟩))
   rfl rfl (by kernel_rfl) (by kernel_rfl) (by kernel_rfl) zap (za6 trivial ⟨zv7, trivial⟩) (by kernel_rfl) ?_
 intro L P' Q' hL hP hQ
 (cbv; try simp only [syT, true_and, and_true])
 subst hL
 refine ⟨Nat.le_refl _, ⟨fun _ _ => trivial, fun _ _ _ _ _ _ => trivial⟩, hp, ?_, Nat.le_refl _, Nat.le_refl _, ⟨rfl, fun _ _ => trivial, fun _ _ _ _ _ _ => rfl⟩, ⟨(zn9 x _).symm, fun i j hi hj => zyn x ⟨kd, fr, tt', c, k⟩ i j hi hj⟩, rfl, rfl, rfl, rfl, rfl, (zn9 x _).symm, rfl⟩
 show zbx 48 (zgt x.pend) 1 = true
 unfold zbx zgt
 simp only [Bool.and_eq_true, decide_eq_true_eq]
 omega
theorem zfs : zbt Try.prog (zhe std) := by
 intro raw ob T hT hp
 unfold zhe at hT
 simp only at hT
 repeat' split at hT
 all_goals first | (cases hT; done) | (cases hT; exact zym _ _ _ _ _ _ hp.1 hp.2)
inductive DkS where
 | a (k : Int)
 | b (k : Int) (x s : List UInt8)
 | c (k : Int) (x s : List UInt8)
 | d (k : Int) (x s y t : List UInt8)
def nmA : List UInt8 := [97]
def nmB : List UInt8 := [98]
def zd1 (x s : List UInt8) : Ob := .box 68 [.str x, .str s]
def yft (key : List UInt8) : Ob := .row 71 4 1 (fun _ j => zbl .dead [.int .i64 1, .str [], .str key, .dead] j)
def zv8 (n s : Nat) (pend : AV) (k : Int) : Ob := .box 63 [.int .i64 100, .mp n, .mp s, pend, .int .i64 k, .int .i64 (-1), .bool false]
def zst (pend : AV) (k : Int) : Ob := zv8 500001 500002 pend k
def dkO (p : Nat) : DkS -> List (Nat × Ob)
 | .a k => [(500000, zst .nils k), (500001, .mapl .s []), (500002, .mapl .s [])]
 | .b k x s => [(500000, zst (.sl p 4 0 1) k), (500001, .mapl .s [(.s nmA, .ref 500003 0)]), (500002, .mapl .s []), (500003, zd1 x s), (p, yft nmA)]
 | .c k x s => [(500000, zst .nils k), (500001, .mapl .s [(.s nmA, .ref 500003 0)]), (500002, .mapl .s [(.s nmA, .ref 500003 0)]), (500003, zd1 x s)]
 | .d k x s y t => [(500000, zst (.sl p 4 0 1) k), (500001, .mapl .s [(.s nmA, .ref 500003 0), (.s nmB, .ref 500004 0)]), (500002, .mapl .s [(.s nmA, .ref 500003 0)]), (500003, zd1 x s), (500004, zd1 y t), (p, yft nmB)]
def zbj : Option Ob -> List UInt8 × List UInt8
 | some (.box _ [.str x, .str s]) => (x, s)
 | _ => ([], [])
def yd2 (ob : Nat -> Option Ob) (id : Nat) : Option DkS := match ob id with
 | some (.box _ [_, .mp n, _, .nils, .int _ k, _, _]) => match ob n with
   | some (.mapl _ []) => some (.a k)
   | some (.mapl _ [(_, .ref i _)]) => some (.c k (zbj (ob i)).1 (zbj (ob i)).2)
   | _ => none
 | some (.box _ [_, .mp n, _, .sl _ _ _ _, .int _ k, _, _]) => match ob n with
   | some (.mapl _ [(_, .ref i _)]) => some (.b k (zbj (ob i)).1 (zbj (ob i)).2)
   | some (.mapl _ [(_, .ref i _), (_, .ref j _)]) => some (.d k (zbj (ob i)).1 (zbj (ob i)).2 (zbj (ob j)).1 (zbj (ob j)).2)
   | _ => none
 | _ => none
def inc (k : Int) : Int := k + 1
def DkS.up (L : za9) : DkS -> DkS
 | .a k => .a (L inc k)
 | .b k x s => .b (L inc k) x s
 | .c k x s => .c (L inc k) x s
 | .d k x s y t => .d (L inc k) x s y t
def DkS.k : DkS -> Int
 | .a k => k
 | .b k _ _ => k
 | .c k _ _ => k
 | .d k _ _ _ _ => k
def zcq (k : Int) : Prop := 0 <= k /\ k <= 1000
theorem yem {k : Int} (h : zcq k) : zco .i64 k 1 = inc k := by
 obtain ⟨h0, h1⟩ := h
 unfold zco inc
 rw [zgr]
 omega
def ykr : zeb := (28, fun raw ob => match raw with
 | [.ref id 0] => match yd2 ob id with
   | some sh => some ⟨[.ref 500000 0], dkO 500005 sh, True, .int .i64 0, dkO 500005 sh⟩
   | _ => none
 | _ => none)
theorem ysa (sh : DkS) : zat Try.prog 28 [.ref 500000 0] (dkO 500005 sh) (.int .i64 0) (dkO 500005 sh) := by
 cases sh <;>
 · refine zad (T := tt) (S := fun L => zaz [] []) (lo := noA) (lb := noA) 8 (fn := Try.f28) (xs := fun L => [.ref 500000 0]) (rts := fun _ => [.int .i64 0]) (O := fun L => dkO 500005 _) (O1 := fun L => dkO 500005 _)
     rfl rfl (by kernel_rfl) (by kernel_rfl) (by kernel_rfl) zap (za6 trivial trivial) (by kernel_rfl) ?_
   intro L P' Q' hL hP hQ
   (cbv; try simp only [syT, true_and, and_true])
   subst hL
   simp [std]
theorem zkl : zbt Try.prog ykr := by
 intro raw ob T hT hp
 unfold ykr at hT
 simp only at hT
 repeat' split at hT
 all_goals first | (cases hT; done) | (cases hT; exact ysa _)
def ziu (L : za9) : zeb := (30, fun raw ob => match raw with
 | [.ref id 0] => match yd2 ob id with
   | some sh => some ⟨[.ref 500000 0], dkO 500005 sh, L zcq sh.k, .int .i64 0, dkO 500005 (sh.up L)⟩
   | _ => none
 | _ => none)
theorem yjm (sh : DkS) (hk : zcq sh.k) : zat Try.prog 30 [.ref 500000 0] (dkO 500005 sh) (.int .i64 0) (dkO 500005 (sh.up std)) := by
 cases sh <;>
 · refine zad (T := tt) (S := fun L => zaz [] []) (lo := noA) (lb := noA) 8 (fn := Try.f30) (xs := fun L => [.ref 500000 0]) (rts := fun _ => [.int .i64 0]) (O := fun L => dkO 500005 _) (O1 := fun L => dkO 500005 (DkS.up L _))
     rfl rfl (by kernel_rfl) (by kernel_rfl) (by kernel_rfl) zap (za6 trivial trivial) (by kernel_rfl) ?_
   intro L P' Q' hL hP hQ
   (cbv; try simp only [syT, true_and, and_true])
   subst hL
   simp only [DkS.k] at hk
   have e0 : ieq (-1) 0 = false := by decide
   have e1 : ilt 0 (-1) = false := by decide
   simp [std, e0, e1, yem hk]
theorem zgn : zbt Try.prog (ziu std) := by
 intro raw ob T hT hp
 unfold ziu at hT
 simp only at hT
 repeat' split at hT
 all_goals first | (cases hT; done) | (cases hT; exact yjm _ hp)
def ysy (L : za9) : List (Nat × Ob) := [(14, zv8 11 12 .nils 0), (11, .mapl .s []), (12, .mapl .s [])]
def yku (L : za9) : zeb := (8, fun raw ob => match raw with
 | [.int .i64 n] => some ⟨[.int .i64 100], [], True, .tup [.ref 14 0, .int .i64 0], ysy L⟩
 | _ => none)
theorem yp9 : zat Try.prog 8 [.int .i64 100] [] (.tup [.ref 14 0, .int .i64 0]) (ysy std) := by
 refine zad (T := tt) (S := fun L => zaz [] []) (lo := noA) (lb := noA) 8 (fn := Try.f8) (xs := fun L => [.int .i64 100]) (rts := fun _ => [.ref 14 0, .int .i64 0]) (O := fun L => []) (O1 := fun L => ysy L)
     rfl rfl (by kernel_rfl) (by kernel_rfl) (by kernel_rfl) zap (za6 trivial trivial) (by kernel_rfl) ?_
 intro L P' Q' hL hP hQ
 (cbv; try simp only [syT, true_and, and_true])
 subst hL
 have e0 : ilt 100 0 = false := by decide
 have e1 : ilt 65536 100 = false := by decide
 simp [std, e0, e1]
theorem yg2 : zbt Try.prog (yku std) := by
 intro raw ob T hT hp
 unfold yku at hT
 simp only at hT
 repeat' split at hT
 all_goals first | (cases hT; done) | (cases hT; exact yp9)
def zna : zeb := (35, fun raw ob => match raw with
 | [.ref id 0, .str key] => match yd2 ob id with
   | some (.a _) => none
   | some sh => some ⟨[.ref 500000 0, .str nmA], dkO 500005 sh, True, .tup [.ref 500003 0, .int .i64 0], dkO 500005 sh⟩
   | _ => none
 | _ => none)
def DkS.some : DkS -> Prop
 | .a _ => False
 | _ => True
theorem yet (sh : DkS) (hs : sh.some) : zat Try.prog 35 [.ref 500000 0, .str nmA] (dkO 500005 sh) (.tup [.ref 500003 0, .int .i64 0]) (dkO 500005 sh) := by
 cases sh
 case a => exact hs.elim
 all_goals
   refine zad (T := tt) (S := fun L => zaz [] [ykr]) (lo := noA) (lb := noA) 8 (fn := Try.f35) (xs := fun L => [.ref 500000 0, .str nmA]) (rts := fun _ => [.ref 500003 0, .int .i64 0]) (O := fun L => dkO 500005 _) (O1 := fun L => dkO 500005 _)
     rfl rfl (by kernel_rfl) (by kernel_rfl) (by kernel_rfl) zap (za6 trivial ⟨zkl, trivial⟩) (by kernel_rfl) ?_
   intro L P' Q' hL hP hQ
   (cbv; try simp only [syT, true_and, and_true])
   subst hL
   have e0 : ine 0 0 = false := by decide
   simp [std, e0]
theorem zm5 : zbt Try.prog zna := by
 intro raw ob T hT hp
 unfold zna at hT
 simp only at hT
 repeat' split at hT
 all_goals first | (cases hT; done) | skip
 rename_i sh h1 h2
 cases hT
 refine yet sh ?_
 cases sh
 · exact absurd rfl (h1 _)
 all_goals trivial
def zvk : AV := .agg [.int .i64 1, .str [], .str nmA, .ref 500003 0]
def zvj : AV := .agg [.int .i64 1, .str [], .str nmB, .ref 500004 0]
def do0 (x s : List UInt8) : List (Nat × Ob) := [(500001, .mapl .s []), (500003, zd1 x s)]
def do1 (x s : List UInt8) : List (Nat × Ob) := [(500001, .mapl .s [(.s nmA, .ref 500003 0)]), (500003, zd1 x s)]
def do2 (x s y t : List UInt8) : List (Nat × Ob) := [(500001, .mapl .s [(.s nmA, .ref 500003 0)]), (500003, zd1 x s), (500004, zd1 y t)]
def do3 (x s y t : List UInt8) : List (Nat × Ob) := [(500001, .mapl .s [(.s nmA, .ref 500003 0), (.s nmB, .ref 500004 0)]), (500003, zd1 x s), (500004, zd1 y t)]
def yq1 : zeb := (37, fun raw ob => match raw with
 | [.mp n, .agg [_, _, _, .ref i _]] => match ob n with
   | some (.mapl _ []) => some ⟨[.mp 500001, zvk], do0 (zbj (ob i)).1 (zbj (ob i)).2, True, .tup [], do1 (zbj (ob i)).1 (zbj (ob i)).2⟩
   | some (.mapl _ [(_, .ref j _)]) => some ⟨[.mp 500001, zvj], do2 (zbj (ob j)).1 (zbj (ob j)).2 (zbj (ob i)).1 (zbj (ob i)).2, True, .tup [], do3 (zbj (ob j)).1 (zbj (ob j)).2 (zbj (ob i)).1 (zbj (ob i)).2⟩
   | _ => none
 | _ => none)
theorem do_a (x s : List UInt8) : zat Try.prog 37 [.mp 500001, zvk] (do0 x s) (.tup []) (do1 x s) := by
 refine zad (T := tt) (S := fun L => zaz [] []) (lo := noA) (lb := noA) 8 (fn := Try.f37) (xs := fun L => [.mp 500001, zvk]) (rts := fun _ => []) (O := fun L => do0 x s) (O1 := fun L => do1 x s)
   rfl rfl (by kernel_rfl) (by kernel_rfl) (by kernel_rfl) zap (za6 trivial trivial) (by kernel_rfl) ?_
 intro L P' Q' hL hP hQ
 (cbv; try simp only [syT, true_and, and_true])
 subst hL
 have e0 : ieq 1 1 = true := by decide
 simp [std, e0]
theorem do_b (x s y t : List UInt8) : zat Try.prog 37 [.mp 500001, zvj] (do2 x s y t) (.tup []) (do3 x s y t) := by
 refine zad (T := tt) (S := fun L => zaz [] []) (lo := noA) (lb := noA) 8 (fn := Try.f37) (xs := fun L => [.mp 500001, zvj]) (rts := fun _ => []) (O := fun L => do2 x s y t) (O1 := fun L => do3 x s y t)
   rfl rfl (by kernel_rfl) (by kernel_rfl) (by kernel_rfl) zap (za6 trivial trivial) (by kernel_rfl) ?_
 intro L P' Q' hL hP hQ
 (cbv; try simp only [syT, true_and, and_true])
 subst hL
 have e0 : ieq 1 1 = true := by decide
 simp [std, e0]
theorem zsq : zbt Try.prog yq1 := by
 intro raw ob T hT hp
 unfold yq1 at hT
 simp only at hT
 repeat' split at hT
 all_goals first | (cases hT; done) | (cases hT; exact do_a _ _) | (cases hT; exact do_b _ _ _ _)
def zje : zeb := (31, fun raw ob => match raw with
 | [.ref id 0, .agg [_, _, _, .ref i _]] => match yd2 ob id with
   | some (.a k) => some ⟨[.ref 500000 0, zvk], zb9 (dkO 500005 (.a k)) [(500003, zd1 (zbj (ob i)).1 (zbj (ob i)).2)], True, .tup [], dkO 17 (.b k (zbj (ob i)).1 (zbj (ob i)).2)⟩
   | some (.c k x s) => some ⟨[.ref 500000 0, zvj], zb9 (dkO 500005 (.c k x s)) [(500004, zd1 (zbj (ob i)).1 (zbj (ob i)).2)], True, .tup [], dkO 17 (.d k x s (zbj (ob i)).1 (zbj (ob i)).2)⟩
   | _ => none
 | _ => none)
theorem yep (k : Int) (x s : List UInt8) : zat Try.prog 31 [.ref 500000 0, zvk] (zb9 (dkO 500005 (.a k)) [(500003, zd1 x s)]) (.tup []) (dkO 17 (.b k x s)) := by
 refine zad (T := tt) (S := fun L => zaz [] [yq1]) (lo := noA) (lb := noA) 8 (fn := Try.f31) (xs := fun L => [.ref 500000 0, zvk]) (rts := fun _ => []) (O := fun L => zb9 (dkO 500005 (.a k)) [(500003, zd1 x s)]) (O1 := fun L => dkO 17 (.b k x s))
   rfl rfl (by kernel_rfl) (by kernel_rfl) (by kernel_rfl) zap (za6 trivial ⟨zsq, trivial⟩) (by kernel_rfl) ?_
 intro L P' Q' hL hP hQ
 (cbv; try simp only [syT, true_and, and_true])
 subst hL
 simp [std]
 exact ⟨by decide, fun i j hi hj => by subst hi; simp [L2, std]⟩
theorem yeo (k : Int) (x s y t : List UInt8) : zat Try.prog 31 [.ref 500000 0, zvj] (zb9 (dkO 500005 (.c k x s)) [(500004, zd1 y t)]) (.tup []) (dkO 17 (.d k x s y t)) := by
 refine zad (T := tt) (S := fun L => zaz [] [yq1]) (lo := noA) (lb := noA) 8 (fn := Try.f31) (xs := fun L => [.ref 500000 0, zvj]) (rts := fun _ => []) (O := fun L => zb9 (dkO 500005 (.c k x s)) [(500004, zd1 y t)]) (O1 := fun L => dkO 17 (.d k x s y t))
   rfl rfl (by kernel_rfl) (by kernel_rfl) (by kernel_rfl) zap (za6 trivial ⟨zsq, trivial⟩) (by kernel_rfl) ?_
 intro L P' Q' hL hP hQ
 (cbv; try simp only [syT, true_and, and_true])
 subst hL
 simp [std]
 exact ⟨by decide, fun i j hi hj => by subst hi; simp [L2, std]⟩
theorem zk1 : zbt Try.prog zje := by
 intro raw ob T hT hp
 unfold zje at hT
 simp only at hT
 repeat' split at hT
 all_goals first | (cases hT; done) | (cases hT; exact yep _ _ _) | (cases hT; exact yeo _ _ _ _ _)
end Sy
end Go.Proofs.Ytogomcfgfnlclaa
namespace Go.Proofs.Ytogomcfgfnlclaa
open Go Go.RowKit
open Go.ChangeMaps (setBlock)
theorem zx6 (seen : Array Nat) : leftOf #[] seen = #[] := by simp [leftOf]
set_option maxRecDepth 1000000 in
theorem yri (w : World) (b bm : Nat) (clock : Nat) (hc : w.cell? ⟨b, 1, none⟩ = some (.map (some bm))) (hm : w.heap[bm]? = some (.map #[] clock)) :
   Calls Try.prog 17 #[.pointer (some ⟨b, 0, none⟩)] w fun e w' => e = .returned (.int .i64 0) /\ Below w.heap.size w w' := by
 have hrg := run_range_map (P := Try.prog) w 60 9 64 bm #[] clock Try.underlying60 hm
 have hnx : ∀ ty, (Instr.next (.pointer (some ⟨w.heap.size, 0, none⟩)) false ty).run Try.prog (w.alloc (.mapIter (some bm) clock #[] clock)) = .ok (.tuple #[.bool false]) (w.alloc (.mapIter (some bm) clock #[] clock)) := fun ty => by
   rcases run_next_map (P := Try.prog) w ty bm clock clock #[] #[] clock hm (by simp) (Nat.le_refl _) with ⟨_, h⟩ | ⟨e, he, _⟩
   · exact h
   · rw [zx6] at he; simp at he
 go_enter Try.func17, Try.ntmps17
 go_wp2
 refine wp_loop_rounds 1 ?_
 rw [rounds_succ]
 go_wp2
 go_ret
 exact ⟨rfl, (Below.refl _ w).alloc (Nat.le_refl _) _⟩
set_option maxRecDepth 1000000 in
theorem yrh (w : World) (b bm bn : Nat) (clock : Nat) (x : MapEntry) (s : ByteArray) (hc : w.cell? ⟨b, 1, none⟩ = some (.map (some bm))) (hm : w.heap[bm]? = some (.map #[x] clock)) (hst : MapKept.Stamped #[x] clock)
   (hx : x.val = .pointer (some ⟨bn, 0, none⟩)) (hn : w.cell? ⟨bn, 0, none⟩ = some (.string s)) :
   Calls Try.prog 17 #[.pointer (some ⟨b, 0, none⟩)] w fun e w' => e = .returned (.int .i64 (wrap64 s.size)) /\ Below w.heap.size w w' := by
 have hrg := run_range_map (P := Try.prog) w 60 9 64 bm #[x] clock Try.underlying60 hm
 have hbn : bn < w.heap.size := by
   rcases Nat.lt_or_ge bn w.heap.size with h | h
   · exact h
   · simp [World.cell?, Array.getElem?_eq_none h] at hn
 have hbm : bm < w.heap.size := by
   rcases Nat.lt_or_ge bm w.heap.size with h | h
   · exact h
   · simp [Array.getElem?_eq_none h] at hm
 obtain ⟨W2, hr2, hk2, hB2, hnx⟩ : ∃ W2 : World, W2.heap[w.heap.size]? = some (.mapIter (some bm) clock #[x.born] clock) /\ (∀ k, k < w.heap.size -> W2.heap[k]? = w.heap[k]?) /\ Below w.heap.size w W2 /\
     ∀ ty, (Instr.next (.pointer (some ⟨w.heap.size, 0, none⟩)) false ty).run Try.prog (w.alloc (.mapIter (some bm) clock #[] clock)) = .ok (.tuple #[.bool true, x.key, .pointer (some ⟨bn, 0, none⟩)]) W2 := by
   rcases run_next_at (P := Try.prog) (w.alloc (.mapIter (some bm) clock #[] clock)) 0 w.heap.size bm clock clock #[] #[x] clock (heap_alloc_new _ _) ((heap_alloc_old w _ hbm).trans hm) hst.1 (Nat.le_refl _) with ⟨h0, _⟩ | ⟨e, he, w1, hal, h⟩
   · simp [leftOf] at h0
   · simp [leftOf] at he
     subst he
     rw [hx] at h
     have hB : Below w.heap.size w (w.alloc (.mapIter (some bm) clock #[] clock)) := (Below.refl _ w).alloc (Nat.le_refl _) _
     have hw : w1.heap = (w.alloc (.mapIter (some bm) clock #[] clock)).heap /\ w1.os = w.os /\ w1.tape = w.tape /\ w1.output = w.output := by
       rcases hal with rfl | rfl
       · exact ⟨rfl, rfl, rfl, rfl⟩
       · exact ⟨rfl, rfl, rfl, rfl⟩
     obtain ⟨h1, h2, h3, h4⟩ := hw
     have hl : w.heap.size < (w.alloc (.mapIter (some bm) clock #[] clock)).heap.size := by
       show w.heap.size < (w.heap.push _).size
       rw [Array.size_push]
       omega
     have hne : ∀ k, k < w.heap.size -> (w1.heap.setIfInBounds w.heap.size (.mapIter (some bm) clock #[e.born] clock))[k]? = w.heap[k]? := fun k hk => by
       rw [Array.getElem?_setIfInBounds_ne (by omega), h1]
       exact heap_alloc_old w _ hk
     refine ⟨setBlock w1 w.heap.size (.mapIter (some bm) clock #[e.born] clock), ?_, hne, ⟨h2, h3, h4, ?_, hne⟩, fun ty => h⟩
     · show (w1.heap.setIfInBounds w.heap.size _)[w.heap.size]? = _
       rw [h1, Array.getElem?_setIfInBounds, if_pos rfl, if_pos hl]
     · show w.heap.size <= (w1.heap.setIfInBounds w.heap.size _).size
       rw [h1, Array.size_setIfInBounds]
       exact Nat.le_of_lt hl
 have hm2 : W2.heap[bm]? = some (.map #[x] clock) := (hk2 bm hbm).trans hm
 have hen : (Instr.entry (.pointer (some ⟨w.heap.size, 0, none⟩))).run Try.prog W2 = .ok (.tuple #[x.key, .pointer (some ⟨bn, 0, none⟩)]) W2 := by
   have hen := run_entry_at (P := Try.prog) W2 w.heap.size bm clock #[] #[x] clock x hr2 hm2 (by simp) hst.2.1
   rw [hx] at hen
   exact hen
 have hn1 : W2.cell? ⟨bn, 0, none⟩ = some (.string s) := by
   simp only [World.cell?, hk2 bn hbn]
   exact hn
 have hnx2 : ∀ ty, (Instr.next (.pointer (some ⟨w.heap.size, 0, none⟩)) false ty).run Try.prog W2 = .ok (.tuple #[.bool false]) W2 := fun ty => by
   rcases run_next_at (P := Try.prog) W2 ty w.heap.size bm clock clock #[x.born] #[x] clock hr2 hm2 hst.1 (Nat.le_refl _) with ⟨_, h⟩ | ⟨e, he, _⟩
   · exact h
   · simp [leftOf] at he
 go_enter Try.func17, Try.ntmps17
 go_wp2
 refine wp_loop_rounds 2 ?_
 rw [rounds_succ]
 go_wp2
 rw [rounds_succ]
 go_wp2
 go_ret
 exact ⟨rfl, hB2⟩
end Go.Proofs.Ytogomcfgfnlclaa
namespace Go.Proofs
open Go.Shelf
def Try.keys34_ren : Go.Shelf.Ren := ⟨fun | 7 => 34 | 10 => 48 | n => n, fun | 23 => 60 | 26 => 9 | 3 => 64 | 28 => 76 | 0 => 0 | 27 => 75 | 33 => 65 | 4 => 4 | n => n, fun | n => n⟩
theorem Try.keys34 : Go.Proofs.SlLaysZ.n7 Try.prog Try.keys34_ren := {
 mixed := by kernel_rfl
 f7 := ⟨Try.f34.name, by decide, Try.func34.trans (congrArg some (by kernel_rfl))⟩
 f10 := ⟨Try.f48.name, by decide, Try.func48.trans (congrArg some (by kernel_rfl))⟩
 t0 := Try.underlying0
 a0 := Try.isAgg0
 z0 := Try.sizeOf0
 v0 := Try.zeroValue0
 t4 := Try.underlying4
 a4 := Try.isAgg4
 z4 := Try.sizeOf4
 v4 := Try.zeroValue4
 t23 := Try.underlying60
 a23 := Try.isAgg60
 z23 := Try.sizeOf60
 v23 := Try.zeroValue60
 t26 := Try.underlying9
 a26 := Try.isAgg9
 z26 := Try.sizeOf9
 v26 := Try.zeroValue9
 t27 := Try.underlying75
 a27 := Try.isAgg75
 z27 := Try.sizeOf75
 v27 := Try.zeroValue75
 t28 := Try.underlying76
 a28 := Try.isAgg76
 z28 := Try.sizeOf76
 v28 := Try.zeroValue76
 t33 := Try.underlying65
 a33 := Try.isAgg65
 z33 := Try.sizeOf65
 v33 := Try.zeroValue65 }
def Try.sorted33_ren : Go.Shelf.Ren := ⟨fun | 6 => 33 | 8 => 46 | 9 => 47 | 11 => 56 | 13 => 58 | 12 => 57 | 23 => 72 | 24 => 73 | 14 => 63 | 15 => 64 | 16 => 65 | 17 => 66 | 18 => 67 | 19 => 68 | 20 => 69 | 21 => 70 | 22 => 71 | 25 => 80 | 26 => 81 | 27 => 82 | 28 => 83 | 29 => 84 | 30 => 85 | 31 => 94 | n => n, fun | 26 => 9 | 28 => 76 | 24 => 36 | 0 => 0 | 3 => 3 | 37 => 87 | 48 => 111 | 50 => 83 | 4 => 4 | 40 => 104 | 39 => 103 | 45 => 108 | 5 => 5 | 9 => 9 | 51 => 120 | 55 => 124 | 57 => 141 | 58 => 142 | 33 => 65 | n => n, fun | n => n⟩
theorem Try.sorted33 : Go.Proofs.SlLaysZ.n6 Try.prog Try.sorted33_ren := {
 mixed := by kernel_rfl
 f6 := ⟨Try.f33.name, by decide, Try.func33.trans (congrArg some (by kernel_rfl))⟩
 f8 := ⟨Try.f46.name, by decide, Try.func46.trans (congrArg some (by kernel_rfl))⟩
 f11 := ⟨Try.f56.name, by decide, Try.func56.trans (congrArg some (by kernel_rfl))⟩
 t0 := Try.underlying0
 a0 := Try.isAgg0
 z0 := Try.sizeOf0
 v0 := Try.zeroValue0
 t24 := Try.underlying36
 a24 := Try.isAgg36
 z24 := Try.sizeOf36
 v24 := Try.zeroValue36
 t26 := Try.underlying9
 a26 := Try.isAgg9
 z26 := Try.sizeOf9
 v26 := Try.zeroValue9
 t28 := Try.underlying76
 a28 := Try.isAgg76
 z28 := Try.sizeOf76
 v28 := Try.zeroValue76
 i26 := by kernel_rfl }
def Try.sort47_ren : Go.Shelf.Ren := ⟨fun | 6 => 47 | 8 => 58 | 9 => 57 | 19 => 72 | 20 => 73 | 21 => 63 | 22 => 64 | 23 => 65 | 24 => 66 | 25 => 67 | 26 => 68 | 27 => 69 | 28 => 70 | 29 => 71 | 36 => 80 | 31 => 81 | 32 => 82 | 37 => 83 | 38 => 84 | 39 => 85 | 41 => 94 | n => n, fun | 27 => 36 | 29 => 9 | 3 => 3 | 32 => 87 | 26 => 36 | 0 => 0 | 44 => 111 | 46 => 83 | 4 => 4 | 36 => 104 | 35 => 103 | 41 => 108 | 5 => 5 | 9 => 9 | 53 => 120 | 57 => 124 | 63 => 141 | 64 => 142 | n => n, fun | n => n⟩
theorem Try.sort47 : Go.Proofs.SlLaysM.n6 Try.prog Try.sort47_ren := {
 mixed := by kernel_rfl
 f6 := ⟨Try.f47.name, by decide, Try.func47.trans (congrArg some (by kernel_rfl))⟩
 f8 := Try.func58.trans (congrArg some (by kernel_rfl))
 f9 := ⟨Try.f57.name, by decide, Try.func57.trans (congrArg some (by kernel_rfl))⟩
 f19 := Try.func72.trans (congrArg some (by kernel_rfl))
 f20 := Try.func73.trans (congrArg some (by kernel_rfl))
 f21 := ⟨Try.f63.name, by decide, Try.func63.trans (congrArg some (by kernel_rfl))⟩
 f22 := ⟨Try.f64.name, by decide, Try.func64.trans (congrArg some (by kernel_rfl))⟩
 f23 := ⟨Try.f65.name, by decide, Try.func65.trans (congrArg some (by kernel_rfl))⟩
 f24 := ⟨Try.f66.name, by decide, Try.func66.trans (congrArg some (by kernel_rfl))⟩
 f25 := ⟨Try.f67.name, by decide, Try.func67.trans (congrArg some (by kernel_rfl))⟩
 f26 := ⟨Try.f68.name, by decide, Try.func68.trans (congrArg some (by kernel_rfl))⟩
 f27 := ⟨Try.f69.name, by decide, Try.func69.trans (congrArg some (by kernel_rfl))⟩
 f28 := ⟨Try.f70.name, by decide, Try.func70.trans (congrArg some (by kernel_rfl))⟩
 f29 := ⟨Try.f71.name, by decide, Try.func71.trans (congrArg some (by kernel_rfl))⟩
 f31 := Try.func81.trans (congrArg some (by kernel_rfl))
 f32 := Try.func82.trans (congrArg some (by kernel_rfl))
 f36 := ⟨Try.f80.name, by decide, Try.func80.trans (congrArg some (by kernel_rfl))⟩
 f37 := ⟨Try.f83.name, by decide, Try.func83.trans (congrArg some (by kernel_rfl))⟩
 f38 := ⟨Try.f84.name, by decide, Try.func84.trans (congrArg some (by kernel_rfl))⟩
 f39 := ⟨Try.f85.name, by decide, Try.func85.trans (congrArg some (by kernel_rfl))⟩
 f41 := ⟨Try.f94.name, by decide, Try.func94.trans (congrArg some (by kernel_rfl))⟩
 t0 := Try.underlying0
 a0 := Try.isAgg0
 z0 := Try.sizeOf0
 v0 := Try.zeroValue0
 t3 := Try.underlying3
 a3 := Try.isAgg3
 z3 := Try.sizeOf3
 v3 := Try.zeroValue3
 t4 := Try.underlying4
 a4 := Try.isAgg4
 z4 := Try.sizeOf4
 v4 := Try.zeroValue4
 t5 := Try.underlying5
 a5 := Try.isAgg5
 z5 := Try.sizeOf5
 v5 := Try.zeroValue5
 t9 := Try.underlying9
 a9 := Try.isAgg9
 z9 := Try.sizeOf9
 v9 := Try.zeroValue9
 t26 := Try.underlying36
 a26 := Try.isAgg36
 z26 := Try.sizeOf36
 v26 := Try.zeroValue36
 t27 := Try.underlying36
 a27 := Try.isAgg36
 z27 := Try.sizeOf36
 v27 := Try.zeroValue36
 t29 := Try.underlying9
 a29 := Try.isAgg9
 z29 := Try.sizeOf9
 v29 := Try.zeroValue9
 t32 := Try.underlying87
 a32 := Try.isAgg87
 z32 := Try.sizeOf87
 v32 := Try.zeroValue87
 t35 := Try.underlying103
 a35 := Try.isAgg103
 z35 := Try.sizeOf103
 v35 := Try.zeroValue103
 t36 := Try.underlying104
 a36 := Try.isAgg104
 z36 := Try.sizeOf104
 v36 := Try.zeroValue104
 t41 := Try.underlying108
 a41 := Try.isAgg108
 z41 := Try.sizeOf108
 v41 := Try.zeroValue108
 t44 := Try.underlying111
 a44 := Try.isAgg111
 z44 := Try.sizeOf111
 v44 := Try.zeroValue111
 t46 := Try.underlying83
 a46 := Try.isAgg83
 z46 := Try.sizeOf83
 v46 := Try.zeroValue83
 t53 := Try.underlying120
 a53 := Try.isAgg120
 z53 := Try.sizeOf120
 v53 := Try.zeroValue120
 t57 := Try.underlying124
 a57 := Try.isAgg124
 z57 := Try.sizeOf124
 v57 := Try.zeroValue124
 t63 := Try.underlying141
 a63 := Try.isAgg141
 z63 := Try.sizeOf141
 v63 := Try.zeroValue141
 t64 := Try.underlying142
 a64 := Try.isAgg142
 z64 := Try.sizeOf142
 v64 := Try.zeroValue142 }
def Try.clone36_ren : Go.Shelf.Ren := ⟨fun | 5 => 36 | 7 => 49 | n => n, fun | 23 => 60 | 25 => 9 | 3 => 64 | 4 => 4 | 20 => 20 | n => n, fun | n => n⟩
theorem Try.clone36 : Go.Proofs.SlLaysW.n5 Try.prog Try.clone36_ren := {
 mixed := by kernel_rfl
 f5 := ⟨Try.f36.name, by decide, Try.func36.trans (congrArg some (by kernel_rfl))⟩
 f7 := Try.func49.trans (congrArg some (by kernel_rfl))
 t4 := Try.underlying4
 a4 := Try.isAgg4
 z4 := Try.sizeOf4
 v4 := Try.zeroValue4
 t20 := Try.underlying20
 a20 := Try.isAgg20
 z20 := Try.sizeOf20
 v20 := Try.zeroValue20
 t23 := Try.underlying60
 a23 := Try.isAgg60
 z23 := Try.sizeOf60
 v23 := Try.zeroValue60 }
end Go.Proofs
namespace Go.Proofs.Ytogomcfgfnlclaa
open Go Go.RowKit
open Go.WideElems (Fit rd rg rg_of)
open Go.Maps
theorem ztl (m : Nat) : AnyZ.SortsIn Try.prog Try.sorted33_ren Fence.wide m :=
 ⟨fun blk off cap ss W hH hblk hsz => callsIn_wide.2 (AnyM.slices_Sort_string Try.sort47 blk off cap ss W hH hblk hsz),
  fun p cap W => callsIn_wide.2 (AnyM.slices_Sort_string_none Try.sort47 p cap W)⟩
def yb0 (_ : Value) : Option (DataW Unit × List MemPlace) := some (.lit (.bool true), [])
set_option maxHeartbeats 1000000 in
theorem yjs (w : World) (Bm b clock : Nat) (x : MapEntry) (s : ByteArray) (hB : Bm < w.heap.size) (hc : w.cell? ⟨Bm, 0, none⟩ = some (.map (some b))) (hb : w.heap[b]? = some (.map #[x] clock)) (hst : MapKept.Stamped #[x] clock)
   (hk : x.key = .string s) (hs : s.size <= 1000) :
   Calls Try.prog 33 #[.func (.func 48) #[] #[.pointer (some ⟨Bm, 0, none⟩)]] w fun e w' => ∃ v, e = .returned v /\ w'.ownsRow w.heap.size 9 1 v 1 [.string s] /\ Below w.heap.size w w' := by
 have hrd : rd Try.prog 9 yb0 x = some (.string s.data.toList, .lit (.bool true)) := by
   have hl : s.size <= maxLen := Nat.le_trans hs (by decide)
   simp [rd, yb0, Go.keyOf, hk, mapKey, Try.underlying9, hl]
 have hown : w.ownsMap Try.prog 9 yb0 b 1 (.map [(.string s.data.toList, .lit (.bool true))]) := by
   refine ⟨#[x], clock, hb, ⟨(show 1 <= maxLen by decide), hst, fun y hy => ?_⟩, by simp, ?_⟩
   · simp at hy; subst hy; exact ⟨_, hrd⟩
   · simp [rg_of hrd, DataW.insert]
 have hseq := AnyZ.keys_gives (ρ := Try.keys34_ren) (F := Fence.wide) (n := 2) { Try.keys34 with } trivial rfl (by omega) Bm b 1 _ w hB hc hown
 refine (callsIn_wide.1 (AnyZ.sorted_in Try.sorted33 Fence.wide 5 trivial trivial trivial trivial rfl (by omega) (ztl _) (enters_of Try.func47 (by kernel_rfl) rfl) 48 _ trivial (enters_of Try.func48 (by kernel_rfl) rfl) _ 1 (by decide) (by omega) w hseq)).mono ?_
 rintro e w' ⟨v, ss, rfl, hS, hrow, -, hB⟩
 have : ss = [s.data.toList] := by simpa [strKeys, strOf] using hS
 subst this
 have hrow := hrow
 simp [encStr] at hrow
 exact ⟨v, rfl, hrow, hB⟩
namespace Sy
theorem ze9 {P : Program} {f : FuncId} {fn : Func} {c : Code} {vs : Array Value} {w : World} {Q : Ending -> World -> Prop} (hf : P.funcs[f]? = some fn) (hb : fn.body = some c) (hn : (fn.name == "runtime.NumGoroutine") = false) (h : Calls P f vs w Q) : zfp P f vs w Q := by
 unfold zfp
 rw [zcz hf hn hb]
 exact h
theorem zes {D D' : Nat -> Prop} {w w' : World} {μ : Mu} {O : List (Nat × Ob)} {r : AV} {v : Value} (hD : ∀ b, D b -> b < w.heap.size)
   (hdom : ∀ n, μ n = none ↔ gx (za2 O) n = none) (hobs : ∀ n o x, gx (za2 O) n = some o -> μ n = some x -> zdg w.heap D μ o x)
   (hinj : ∀ n n' b z z', μ n = some (some (b, z)) -> μ n' = some (some (b, z')) -> n = n') (hown : ∀ n b z, μ n = some (some (b, z)) -> b < w.heap.size /\ ¬ D b)
   (B : Below w.heap.size w w') (up : ∀ b, D b -> D' b) (dn : ∀ b, D' b -> D b \/ (w.heap.size <= b /\ b < w'.heap.size)) (rv : R w'.heap D' μ r v) : yn5 D w μ O O r (.returned v) v w' D' μ :=
 { ret := rfl, os := B.os, tape := B.tape, output := B.output, size := B.size, old := fun b hb _ => B.block b hb, up := up,
   dn := fun b hb => (dn b hb).elim .inl (fun h => .inr (.inl h)), dom := hdom,
   obs := fun n o x ho hx => (hobs n o x ho hx).mono (fun b hb => B.block b (hD b hb)) up (fun _ _ h => h) (fun b z e _ => by subst e; exact B.block b (hown n b z hx).1),
   inj := hinj,
   own := fun n b z h => ⟨Nat.lt_of_lt_of_le (hown n b z h).1 B.size, fun hb => (dn b hb).elim (hown n b z h).2 (fun h2 => absurd (hown n b z h).1 (by omega)), .inr ⟨n, z, h⟩⟩,
   keep := fun _ _ _ => rfl, val := rv }
theorem zub {D : Nat -> Prop} {w w' : World} {μ : Mu} {O : List (Nat × Ob)} {r : AV} {v : Value} (id : Nat) (o : Ob) (z : Nat × Nat) (hD : ∀ b, D b -> b < w.heap.size) (hid : za2 O id = none)
   (hdom : ∀ n, μ n = none ↔ gx (za2 O) n = none) (hobs : ∀ n o x, gx (za2 O) n = some o -> μ n = some x -> zdg w.heap D μ o x)
   (hinj : ∀ n n' b z z', μ n = some (some (b, z)) -> μ n' = some (some (b, z')) -> n = n') (hown : ∀ n b z, μ n = some (some (b, z)) -> b < w.heap.size /\ ¬ D b)
   (B : Below w.heap.size w w') (hlt : w.heap.size < w'.heap.size)
   (hbig : id < zbv) (hnt : zau o = false) (ok : zdg w'.heap D (fun n => if n = id then some (some (w.heap.size, z)) else μ n) o (some (w.heap.size, z)))
   (rv : R w'.heap D (fun n => if n = id then some (some (w.heap.size, z)) else μ n) r v) :
   yn5 D w μ O (zb9 O [(id, o)]) r (.returned v) v w' D (fun n => if n = id then some (some (w.heap.size, z)) else μ n) := by
 have hgid : gx (za2 O) id = none := by rw [zab (zaw.2 hbig), hid]
 have hμ : μ id = none := (hdom id).2 hgid
 have hm : ∀ n x, μ n = some x -> (if n = id then some (some (w.heap.size, z)) else μ n) = some x := fun n x h => by
   rw [if_neg (by rintro rfl; rw [hμ] at h; cases h)]; exact h
 have ha : ∀ n, gx (za2 (zb9 O [(id, o)])) n = if n = id then some o else gx (za2 O) n := fun n => by
   have hf : za2 (zb9 O [(id, o)]) = zb7 (za2 O) [(id, o)] := by
     funext n
     rw [zea, zis]
     by_cases e : n = id
     · subst e; rw [hid, if_pos rfl]; simp [za2, za3]
     · rw [if_neg e]
       cases za2 O n with
       | some _ => rfl
       | none => simp [za2, zac (fun h => e h.symm)]
   rw [hf]
   exact zi2 hbig hnt (fun x hx => by rw [hid] at hx; cases hx) n
 refine { ret := rfl, os := B.os, tape := B.tape, output := B.output, size := B.size, old := fun b hb _ => B.block b hb, up := fun _ h => h, dn := fun b hb => .inl hb, dom := fun n => ?_, obs := fun n o' x ho hx => ?_, inj := fun n n' b z1 z2 h1 h2 => ?_, own := fun n b z1 h => ?_, keep := fun n h _ => ?_, val := rv }
 · rw [ha]
   by_cases e : n = id
   · simp [e]
   · simp only [if_neg e]; exact hdom n
 · rw [ha] at ho
   by_cases e : n = id
   · simp only [if_pos e] at ho hx
     cases ho; cases hx
     exact ok
   · simp only [if_neg e] at ho hx
     exact (hobs n o' x ho hx).mono (fun b hb => B.block b (hD b hb)) (fun _ h => h) hm (fun b z e _ => by subst e; exact B.block b (hown n b z hx).1)
 · by_cases e : n = id <;> by_cases e' : n' = id
   · rw [e, e']
   · simp only [if_pos e, if_neg e'] at h1 h2
     cases h1
     exact absurd (hown n' _ _ h2).1 (by omega)
   · simp only [if_neg e, if_pos e'] at h1 h2
     cases h2
     exact absurd (hown n _ _ h1).1 (by omega)
   · simp only [if_neg e, if_neg e'] at h1 h2
     exact hinj n n' b z1 z2 h1 h2
 · by_cases e : n = id
   · simp only [if_pos e] at h
     cases h
     exact ⟨hlt, fun hb => absurd (hD _ hb) (by omega), .inl (Nat.le_refl _)⟩
   · simp only [if_neg e] at h
     exact ⟨Nat.lt_of_lt_of_le (hown n b z1 h).1 B.size, (hown n b z1 h).2, .inr ⟨n, z1, h⟩⟩
 · exact if_neg (fun e => h (by rw [e]; exact hgid))
end Sy
end Go.Proofs.Ytogomcfgfnlclaa
namespace Go.Proofs.Ytogomcfgfnlclaa
namespace Sy
open Go Go.RowKit
set_option maxRecDepth 100000
set_option linter.unusedSimpArgs false
set_option linter.unusedVariables false
def yie (x s : List UInt8) : List (Nat × Ob) := [(500001, .mapl .s [(.s nmA, .ref 500003 0)]), (500003, zd1 x s)]
theorem zfw {h : Array Obj} {D : Nat -> Prop} {μ : Mu} {x : AV} {vs : Array Value} (hr : RL h D μ [x] vs) : ∃ v, vs = #[v] /\ R h D μ x v := by
 obtain ⟨hl, hr⟩ := hr
 obtain ⟨a, ha⟩ : ∃ a, vs.toList = [a] := List.length_eq_one_iff.1 (by simpa using hl.symm)
 have : vs = #[a] := by rw [<- Array.toArray_toList (xs := vs), ha]
 subst this
 exact ⟨a, rfl, hr 0 x a rfl rfl⟩
theorem zpw {h : Array Obj} {D : Nat -> Prop} {μ : Mu} {b z m : Nat} {v : AV} (k : zdg h D μ (.mapl .s [(.s nmA, v)]) (some (b, z, m))) :
   ∃ x clock s, h[b]? = some (.map #[x] clock) /\ MapKept.Stamped #[x] clock /\ x.key = .string s /\ s.data.toList = nmA /\ R h D μ v x.val := by
 obtain ⟨es, clock, kf, hb, hn, hks, hnd, hr⟩ := k
 have hn : es.size = 1 := hn
 obtain ⟨x, rfl⟩ : ∃ x, es = #[x] := ⟨es[0], by
   apply Array.ext
   · simpa using hn
   · intro i h1 h2
     have : i = 0 := by simp at h2; exact h2
     subst this; rfl⟩
 obtain ⟨y, hy, ry⟩ := hr 0 x rfl
 obtain ⟨k1, k2⟩ := hks.key 0 x rfl
 obtain ⟨s, k3, k4⟩ := k1
 have hkf : kf 0 = .s nmA /\ y = v := by
   simp only [zbe] at hy
   split at hy
   · rename_i h; exact ⟨(zku h).symm, by cases hy; rfl⟩
   · cases hy
 obtain ⟨h1, rfl⟩ := hkf
 rw [h1] at k4
 exact ⟨x, clock, s, hb, hks.st, k3, (Ky.s.inj k4).symm, ry⟩
def zjs : zeb := (36, fun raw ob => match raw with
 | [.mp n] => match ob n with
   | some (.mapl _ [(_, .ref i _)]) => some ⟨[.mp 500001], yie (zbj (ob i)).1 (zbj (ob i)).2, True, .mp 600000, zb9 (yie (zbj (ob i)).1 (zbj (ob i)).2) [(600000, .mapl .s [(.s nmA, .ref 500003 0)])]⟩
   | _ => none
 | _ => none)
theorem zle : zbt Try.prog zjs := by
 intro raw ob T hT hp
 unfold zjs at hT
 simp only at hT
 repeat' split at hT
 all_goals first | (cases hT; done) | skip
 cases hT
 intro D w μ vs hD hxs hdom hobs hinj hown hg hgb
 obtain ⟨v, rfl, r1⟩ := zfw hxs
 cases r1 with
 | mp _ b z m hμ =>
   obtain ⟨es, clock, kf, hb, hn, hks, hnd, hr⟩ := hobs 500001 _ _ rfl hμ
   refine ze9 (fn := Try.f36) rfl rfl (by kernel_rfl) ((AnyW.maps_Clone Try.clone36 b es clock w hb).mono ?_)
   rintro e w' ⟨rfl, rfl⟩
   have B : Below w.heap.size w (w.alloc (.map es clock)) := (Below.refl _ w).alloc (Nat.le_refl _) _
   have hm : ∀ n x, μ n = some x -> (if n = 600000 then some (some (w.heap.size, (0, 0))) else μ n) = some x := fun n x h => by
     rw [if_neg (by rintro rfl; rw [(hdom 600000).2 rfl] at h; cases h)]; exact h
   refine ⟨_, D, _, zub 600000 _ (0, 0) hD rfl hdom hobs hinj hown B (by show w.heap.size < (w.heap.push _).size; simp) (by unfold zbv; omega) rfl ⟨es, clock, kf, heap_alloc_new _ _, hn, hks, hnd, fun i x hx => ?_⟩ (.mp _ w.heap.size 0 0 (if_pos rfl))⟩
   obtain ⟨y, h1, h2⟩ := hr i x hx
   exact ⟨y, h1, h2.mono (fun b hb => B.block b (hD b hb)) (fun _ h => h) hm⟩
def seqO (x s : List UInt8) : List (Nat × Ob) := [(500010, .box 60 [.mp 500001]), (500001, .mapl .s [(.s nmA, .ref 500003 0)]), (500003, zd1 x s)]
def zjg : zeb := (33, fun raw ob => match raw with
 | [.fn _ [] [.ref c _]] => match ob c with
   | some (.box _ [.mp n]) => match ob n with
     | some (.mapl _ [(_, .ref i _)]) => some ⟨[.fn 48 [] [.ref 500010 0]], seqO (zbj (ob i)).1 (zbj (ob i)).2, True, .lst 1 1 (fun _ _ => .str nmA), seqO (zbj (ob i)).1 (zbj (ob i)).2⟩
     | _ => none
   | _ => none
 | _ => none)
theorem zk6 : zbt Try.prog zjg := by
 intro raw ob T hT hp
 unfold zjg at hT
 simp only at hT
 repeat' split at hT
 all_goals first | (cases hT; done) | skip
 cases hT
 intro D w μ vs hD hxs hdom hobs hinj hown hg hgb
 obtain ⟨v, rfl, r1⟩ := zfw hxs
 cases r1 with
 | fn _ _ _ us1 us2 e1 e2 h1 h2 =>
   obtain ⟨u, hu⟩ : ∃ u, us2.toList = [u] := List.length_eq_one_iff.1 (by simpa using e2.symm)
   have : us2 = #[u] := by rw [<- Array.toArray_toList (xs := us2), hu]
   subst this
   have : us1 = #[] := by
     apply Array.eq_empty_of_size_eq_zero
     simpa using e1.symm
   subst this
   have r2 : R w.heap D μ (.ref 500010 0) u := h2 0 _ u rfl rfl
   cases r2 with
   | ref _ _ b z m hμ =>
     obtain ⟨C, t, fr, hb, hz, hf, ho, hC⟩ := hobs 500010 _ _ rfl hμ
     obtain ⟨v0, rfl, r3⟩ := zfw hC
     cases r3 with
     | mp _ bm zm mm hμm =>
       obtain ⟨x, clock, s, hbm, hst, hk, hs, rx⟩ := zpw (hobs 500001 _ _ rfl hμm)
       have hss : s.size = 1 := by
         have := congrArg List.length hs
         simpa [nmA] using this
       refine ze9 (fn := Try.f33) rfl rfl (by kernel_rfl) ((yjs w b bm clock x s (hown _ _ _ hμ).1 (by rw [zel]; simp [zao hb]) hbm hst hk (by omega)).mono ?_)
       rintro e w' ⟨v, rfl, ⟨-, hrow⟩, B⟩
       rcases hrow with ⟨-, h0⟩ | ⟨g, cap, cur, rfl, hg0, hgb, hc1, hc2, hc3, hc4⟩
       · cases h0
       have hcur : cur[0]? = some (.string s) := by
         have := congrArg (fun l => l[0]?) hc4
         simpa using this
       have hlt : g < w'.heap.size := (Array.getElem?_eq_some_iff.1 hgb).1
       refine ⟨_, fun b => D b \/ b = g, μ, zes hD hdom hobs hinj hown B (fun b h => .inl h) (fun b h => h.elim .inl (fun e => .inr (by subst e; exact ⟨hg0, hlt⟩))) (.lst 1 1 _ g 0 cap (fun _ _ => .string s) (.inr rfl) hc1 (fun i j hi hj => ?_) (fun i j hi hj => rfl) (fun i j hi hj => .str _ s hs))⟩
       have : i = 0 := by omega
       subst this
       have : j = 0 := by omega
       subst this
       rw [zao hgb]
       exact hcur
def zbm (a : List UInt8) : Prop := a.length <= 1000
def zzb (L : za9) : zf3 := (45, fun xs => match xs with | [.str a] => some (L zbm a, .str a) | _ => none)
def yf4 (L : za9) : zf3 := (32, fun xs => match xs with | [.str a] => some (L zbm a, .str a) | _ => none)
theorem zzc : zgv Try.prog (zzb std) := by
 intro xs p r h hp
 dsimp only [zzb] at h |-
 split at h <;> cases h
 try simp only [L2, L3, std] at hp |-
 rename_i a
 have h1 : a.length <= 1000 := hp
 exact zdf (fn := Try.f45) rfl rfl (by kernel_rfl) (yht (zhg _)) (fun h D => zvn h D zar _) (fun w => Try.stringslite_Clone ⟨a.toArray⟩ w (by show a.toArray.size <= _; rw [List.size_toArray]; omega))
theorem zto : zgv Try.prog (yf4 std) := by
 intro xs p r h hp
 dsimp only [yf4] at h |-
 split at h <;> cases h
 try simp only [L2, L3, std] at hp |-
 rename_i a
 have h1 : zbm a := hp
 refine zaj (T := tt) (S := fun L => zdq [zzb L]) (lo := noA) (lb := noA) 5 (fn := Try.f32) rfl rfl (by kernel_rfl) (by kernel_rfl) rfl zap (zav ⟨zzc, trivial⟩) (by kernel_rfl) ?_
 (intro L P1 Q1 hL hP hQ; cbv; subst hL; simp only [L2, L3, std, syT]; subst hQ)
 (simp only [syS, reduceCtorEq, Int.reduceToNat, Int.reduceAdd, Int.reduceSub])
 exact h1
def zh3 (a : List UInt8) : Bool := !decide (a = []) && decide (a.length <= 32)
def zmh (L : za9) : zf3 := (29, fun xs => match xs with | [.str a] => some (L zbm a, .bool (L zh3 a)) | _ => none)
theorem zhr : zgv Try.prog (zmh std) := by
 intro xs p r h hp
 dsimp only [zmh] at h |-
 split at h <;> cases h
 try simp only [L2, L3, std] at hp |-
 rename_i a
 have h1 : a.length <= 1000 := hp
 refine zaj (T := tt) (S := noS) (lo := noA) (lb := noA) 5 (fn := Try.f29) rfl rfl (by kernel_rfl) (by kernel_rfl) rfl zap (zix _) (by kernel_rfl) ?_
 (intro L P1 Q1 hL hP hQ; cbv; subst hL; simp only [L2, L3, std, syT]; subst hQ)
 (simp only [syS, reduceCtorEq, Int.reduceToNat, Int.reduceAdd, Int.reduceSub])
 refine ⟨fun h => ?_, fun h => ?_⟩
 · unfold zh3
   rw [decide_eq_false h]
   unfold ile
   simp
   omega
 · subst h; rfl
def zhy (s : List UInt8) (i q : Nat) : Int := if q < i then zng s q else 0
def ysk (L : za9) (s : List UInt8) : Nat -> St -> Option Ann := fun id st => match id with
 | 0 => some ⟨Nat, fun i => [(27, .int .i64 (L za7 i))], fun i => [(24, .row 5 1 (L yqz s) (fun q _ => .int .u8 (L3 L zhy s i q)))], [0, 1, 6, 26], [500003],
     fun i => L2 L (fun (s : List UInt8) i => i <= s.length) s i, fun i => L2 L (fun (s : List UInt8) (i : Nat) => s.length - i) s i⟩
 | _ => none
theorem zr0 (s : List UInt8) : zay s.length (fun k => zng s k) = s := by
 apply List.ext_getElem
 · simp [zay]
 · intro i h1 h2
   simp [zay, zng, h2]
theorem shr0 (k : IntKind) (b : Int) : zra k 0 b = 0 := by unfold zra; simp
theorem yo6 {i : Nat} (h : i <= 1000) : ile 0 (Int.tmod (yj8 .i64 (za7 i) 64) 63) = true := by
 have e1 : (za7 i).tdiv 64 = ((i / 64 : Nat) : Int) := by
   unfold za7
   exact (Int.ofNat_tdiv i 64).symm
 unfold yj8
 rw [zgr, e1]
 have e2 : ((i / 64 : Nat) : Int) + 9223372036854775808 < 18446744073709551616 := by omega
 rw [Int.emod_eq_of_lt (by omega) e2]
 unfold ile
 rw [decide_eq_true_eq]
 exact Int.tmod_nonneg _ (by omega)
def yc5 (L : za9) : zeb := (38, fun raw ob => match raw with
 | [.ref i 0, .int .u64 _] => some ⟨[.ref 500003 0, .int .u64 0], [(500003, zd1 (zbj (ob i)).1 (zbj (ob i)).2)], L zbm (zbj (ob i)).2, .str (zbj (ob i)).2, [(500003, zd1 (zbj (ob i)).1 (zbj (ob i)).2)]⟩
 | _ => none)
theorem ylb (x s : List UInt8) (hs : zbm s) : zat Try.prog 38 [.ref 500003 0, .int .u64 0] [(500003, zd1 x s)] (.str s) [(500003, zd1 x s)] := by
 have hs : s.length <= 1000 := hs
 refine zad (T := tt) (S := fun L => zaz [] []) (lo := fun L => ysk L s) (lb := noA) 8 (fn := Try.f38) (xs := fun L => [.ref 500003 0, .int .u64 0]) (rts := fun _ => [.str s]) (O := fun L => [(500003, zd1 x s)]) (O1 := fun L => [(500003, zd1 x s)])
   rfl rfl (by kernel_rfl) (by kernel_rfl) (by kernel_rfl) zap (za6 trivial trivial) (by kernel_rfl) ?_
 intro L P' Q' hL hP hQ
 (cbv; try simp only [syT, true_and, and_true])
 refine ⟨?_, fun h1 => ?_, fun h1 => ⟨?_, ⟨0, ?_⟩, fun i hi => ?_⟩⟩
 · subst hL; decide
 · exfalso
   subst hL
   revert h1
   simp only [std, L2]
   decide
 · subst hL
   show yl1 1 (slen s) (slen s) = true
   rw [zu9]
   unfold slen
   omega
 · (cbv; try simp only [syT, true_and, and_true])
   subst hL
   refine ⟨⟨rfl, fun a b ha hb => ?_⟩, rfl, Nat.zero_le _⟩
   have : b = 0 := by omega
   subst this
   simp [zbl, L3, std, zhy]
 · (cbv; try simp only [syT, true_and, and_true])
   refine ⟨fun h2 => ⟨?_, ?_, ?_, fun h3 => ?_, fun h3 => ⟨fun h4 => ⟨?_, ?_, ⟨i + 1, ?_⟩⟩, fun h4 => ?_⟩⟩, fun h2 => ?_⟩
   · subst hL; decide
   · subst hL; decide
   · subst hL
     have hi : i <= s.length := hi
     exact yo6 (by omega)
   · exfalso
     subst hL
     revert h3
     simp only [std, shr0]
     decide
   · subst hL
     have h4 : ilt (za7 i) (slen s) = true := h4
     rw [zfr] at h4
     show inR (za7 i) (slen s) = true
     rw [zoi]
     exact ⟨Int.natCast_nonneg _, h4⟩
   · subst hL
     have h4 : ilt (za7 i) (slen s) = true := h4
     rw [zfr] at h4
     show inR (za7 i) (za7 (Int.toNat (slen s))) = true
     rw [zoi]
     exact ⟨Int.natCast_nonneg _, h4⟩
   · (cbv; try simp only [syT, true_and, and_true])
     subst hL
     have hi : i <= s.length := hi
     have h4 : ilt (za7 i) (slen s) = true := h4
     rw [zfr] at h4
     have h4 : (i : Int) < (s.length : Int) := h4
     refine ⟨fun a b ha hb => ?_, ?_, ?_, ?_⟩
     · refine (yko _ .u8 _ (zhy s i) a b hb).trans (congrArg (AV.int .u8) ?_)
       show (if a = 0 + (za7 i).toNat then zng s (za7 i) else zhy s i a) = zhy s (i + 1) a
       have e1 : 0 + (za7 i).toNat = i := by unfold za7; omega
       rw [e1]
       unfold zhy
       by_cases e : a = i
       · subst e
         rw [if_pos rfl, if_pos (by omega)]; rfl
       · rw [if_neg e]
         by_cases e2 : a < i
         · rw [if_pos e2, if_pos (by omega)]
         · rw [if_neg e2, if_neg (by omega)]
     · show zco .i64 (za7 i) 1 = za7 (i + 1)
       unfold zco za7
       rw [zgr]
       omega
     · show i + 1 <= s.length
       omega
     · show s.length - (i + 1) < s.length - i
       omega
   · exfalso
     subst hL
     have h2 : ilt (za7 i) (za7 (Int.toNat (slen s))) = true := h2
     have h4 : ilt (za7 i) (slen s) = false := h4
     have e : za7 (Int.toNat (slen s)) = slen s := by unfold za7 slen; omega
     rw [e, h4] at h2
     cases h2
   · subst hL
     have hi : i <= s.length := hi
     have h2 : ilt (za7 i) (za7 (Int.toNat (slen s))) = false := h2
     rw [zl3] at h2
     have e : i = s.length := by unfold za7 slen at h2; omega
     subst e
     refine ⟨⟨?_, fun k _ => ⟨_, rfl⟩⟩, ?_⟩
     · show 0 + s.length <= s.length
       omega
     · show zay s.length (fun k => zhy s s.length (0 + k)) = s
       refine Eq.trans ?_ (zr0 s)
       unfold zay
       refine List.map_congr_left fun k hk => ?_
       have hk : k < s.length := by simpa using hk
       show UInt8.ofNat (zhy s s.length (0 + k)).toNat = UInt8.ofNat (zng s k).toNat
       unfold zhy
       rw [if_pos (by omega), Nat.zero_add]
theorem yc7 : zbt Try.prog (yc5 std) := by
 intro raw ob T hT hp
 unfold yc5 at hT
 simp only at hT
 repeat' split at hT
 all_goals first | (cases hT; done) | (cases hT; exact ylb _ _ hp)
theorem zhq (l : List Nd) (k q : Nat) (v : Nd) : za4 (l.set k v) q = if q = k /\ k < l.length then v else za4 l q := by
 unfold za4
 rw [List.getD_eq_getElem?_getD, List.getD_eq_getElem?_getD, List.getElem?_set]
 by_cases h : k = q
 · subst h
   by_cases h2 : k < l.length
   · simp [h2]
   · simp [h2]
 · rw [if_neg h, if_neg (fun e => h e.1.symm)]
theorem yi8 (l : List Nd) (k : Nat) (a : List UInt8) {q j : Nat} (hq : q < l.length) (hj : j < 2) : zry std k 0 0 1 [AV.str a] (fun q _ => ndC std (za4 l q)) q 0 j = ndC std (za4 (l.set k ⟨a, (za4 l k).sure⟩) q) j := by
 rw [zhq]
 match j, hj with
 | 0, _ =>
   show zci std (za5 q k && za5 0 0) (.str a) (.str (za4 l q).now) = _
   by_cases h : q = k
   · subst h; rw [if_pos ⟨rfl, hq⟩, za3, za3]; rfl
   · rw [if_neg (fun e => h e.1), zac h]; rfl
 | 1, _ =>
   show AV.str (za4 l q).sure = _
   by_cases h : q = k
   · subst h; rw [if_pos ⟨rfl, hq⟩]; rfl
   · rw [if_neg (fun e => h e.1)]; rfl
theorem ykp (l : List Nd) (k : Nat) (a : List UInt8) {q j : Nat} (hq : q < l.length) (hj : j < 2) : zry std k 0 1 1 [AV.str a] (fun q _ => ndC std (za4 l q)) q 0 j = ndC std (za4 (l.set k ⟨(za4 l k).now, a⟩) q) j := by
 rw [zhq]
 match j, hj with
 | 0, _ =>
   show AV.str (za4 l q).now = _
   by_cases h : q = k
   · subst h; rw [if_pos ⟨rfl, hq⟩]; rfl
   · rw [if_neg (fun e => h e.1)]; rfl
 | 1, _ =>
   show zci std (za5 q k && za5 0 0) (.str a) (.str (za4 l q).sure) = _
   by_cases h : q = k
   · subst h; rw [if_pos ⟨rfl, hq⟩, za3, za3]; rfl
   · rw [if_neg (fun e => h e.1), zac h]; rfl
theorem ynw {x : Dk} {s : List UInt8} (h : thE x s = 0) : thB x s = true /\ x.down = false /\ zc8 x.names s = true := by
 unfold thE at h
 unfold thB
 split at h
 · cases h
 · rename_i h1
   split at h
   · rename_i h2
     have h1 : x.down = false := by simpa using h1
     rw [h1, h2]; exact ⟨rfl, rfl, rfl⟩
   · cases h
def zd5 (x : Dk) (n : Int) : Dk := { x with fuse := max n (-1) }
def ych (L : za9) : zeb := (21, fun raw ob => match raw with
 | [.ref id 0, .int .i64 n] => match rdS L ob id with
   | some x => some ⟨[.ref 500000 0, .int .i64 n], dpO L x, True, .tup [], dpO L (L2 L zd5 x n)⟩
   | _ => none
 | _ => none)
theorem ylx (x : Dk) (n : Int) : zat Try.prog 21 [.ref 500000 0, .int .i64 n] (dpO std x) (.tup []) (dpO std (zd5 x n)) := by
 refine zad (T := tt) (S := fun L => zaz [] []) (lo := noA) (lb := noA) 8 (fn := Try.f21) (xs := fun L => [.ref 500000 0, .int .i64 n]) (rts := fun L => []) (O := fun L => dpO L x) (O1 := fun L => dpO L (L2 L zd5 x n))
   rfl rfl (by kernel_rfl) (by kernel_rfl) (by kernel_rfl) zap (za6 trivial trivial) (by kernel_rfl) ?_
 intro L P' Q' hL hP hQ
 (cbv; try simp only [syT, true_and, and_true])
 subst hL
 simp only [std]
 refine ⟨fun _ => ?_, fun h => by cases h⟩
 repeat' (first | exact Nat.le_refl _ | exact trivial | exact rfl | refine And.intro ?_ ?_ | intro _)
theorem zxe : zbt Try.prog (ych std) := by
 intro raw ob T hT hp
 unfold ych at hT
 simp only at hT
 repeat' split at hT
 all_goals first | (cases hT; done) | (cases hT; exact ylx _ _)
def yd1 (L : za9) : zeb := (26, fun raw ob => match raw with
 | [.ref id 0] => match rdS L ob id with
   | some x => some ⟨[.ref 500000 0], dpO L x, True, .bool (L Dk.down x), dpO L x⟩
   | _ => none
 | _ => none)
theorem ym5 (x : Dk) : zat Try.prog 26 [.ref 500000 0] (dpO std x) ((fun L : za9 => .bool (L Dk.down x)) std) (dpO std x) := by
 refine zad (T := tt) (S := fun L => zaz [] []) (lo := noA) (lb := noA) 8 (fn := Try.f26) (xs := fun L => [.ref 500000 0]) (rts := fun L => [.bool (L Dk.down x)]) (O := fun L => dpO L x) (O1 := fun L => dpO L x)
   rfl rfl (by kernel_rfl) (by kernel_rfl) (by kernel_rfl) zap (za6 trivial trivial) (by kernel_rfl) ?_
 intro L P' Q' hL hP hQ
 (cbv; try simp only [syT, true_and, and_true])
 subst hL
 simp only [std]
 refine ⟨fun h => ?_, fun h => ?_⟩
 · try cases h
   repeat' (first | exact Nat.le_refl _ | exact trivial | exact rfl | refine And.intro ?_ ?_ | intro _)
 · try cases h
   repeat' (first | exact Nat.le_refl _ | exact trivial | exact rfl | refine And.intro ?_ ?_ | intro _)
theorem zxl : zbt Try.prog (yd1 std) := by
 intro raw ob T hT hp
 unfold yd1 at hT
 simp only at hT
 repeat' split at hT
 all_goals first | (cases hT; done) | (cases hT; exact ym5 _)
def zij (x : Dk) (s : List UInt8) : List UInt8 := if thE x s = 0 then (za4 x.nd (thK x s)).now else []
def yai (L : za9) : zeb := (14, fun raw ob => match raw with
 | [.ref id 0, .str s] => match rdS L ob id with
   | some x => some ⟨[.ref 500000 0, .str s], dpO L x, True, .tup [.str (L2 L zij x s), .int .i64 (L2 L thE x s)], dpO L x⟩
   | _ => none
 | _ => none)
theorem ykk (x : Dk) (s : List UInt8) : zat Try.prog 14 [.ref 500000 0, .str s] (dpO std x) (.tup [.str (zij x s), .int .i64 (thE x s)]) (dpO std x) := by
 refine zad (T := tt) (S := fun L => zaz [] [zid L]) (lo := noA) (lb := noA) 8 (fn := Try.f14) (xs := fun L => [.ref 500000 0, .str s]) (rts := fun L => [.str (L2 L zij x s), .int .i64 (L2 L thE x s)]) (O := fun L => dpO L x) (O1 := fun L => dpO L x)
   rfl rfl (by kernel_rfl) (by kernel_rfl) (by kernel_rfl) zap (za6 trivial ⟨zf4, trivial⟩) (by kernel_rfl) ?_
 intro L P' Q' hL hP hQ
 have hE : ∀ x : Dk, L zpm ⟨L Dk.room x, L Dk.names x, L Dk.sure x, L zgt (L Dk.pend x), fun q => tnC L (L (L zc1 (L Dk.pend x)) q), L zb5 (L Dk.nd x), fun k _ => ndC L (L (L za4 (L Dk.nd x)) k), L Dk.steps x, L Dk.fuse x, L Dk.down x⟩ = x := by subst hL; exact zjb
 (cbv; try simp only [syT, true_and, and_true])
 simp only [hE, true_and]
 subst hL
 simp only [std]
 refine ⟨Nat.le_refl _, ⟨fun _ _ => trivial, fun _ _ _ _ _ _ => trivial⟩, fun _ _ _ _ => trivial, fun h => ?_, fun h => ?_⟩
 · have h : ¬ thE x s = 0 := by simpa [ine] using h
   have hx : zij x s = [] := if_neg h
   rw [hx]
   repeat' (first | exact Nat.le_refl _ | exact trivial | exact rfl | refine And.intro ?_ ?_ | intro _)
 · have h : thE x s = 0 := by simpa [ine] using h
   have hx : zij x s = (za4 x.nd (thK x s)).now := if_pos h
   rw [hx, (ynw h).1, h]
   repeat' (first | exact Nat.le_refl _ | exact trivial | exact rfl | refine And.intro ?_ ?_ | intro _)
theorem zwo : zbt Try.prog (yai std) := by
 intro raw ob T hT hp
 unfold yai at hT
 simp only at hT
 repeat' split at hT
 all_goals first | (cases hT; done) | (cases hT; exact ykk _ _)
def zcg (x : Dk) (s : List UInt8) : Dk := if thE x s = 0 then (if zas x = 0 then { zal x with nd := x.nd.set (thK x s) ⟨(za4 x.nd (thK x s)).now, (za4 x.nd (thK x s)).now⟩ } else zal x) else x
def zcp (x : Dk) (s : List UInt8) : Int := if thE x s = 0 then zas x else thE x s
def zyr (L : za9) : zeb := (13, fun raw ob => match raw with
 | [.ref id 0, .str s] => match rdS L ob id with
   | some x => some ⟨[.ref 500000 0, .str s], dpO L x, True, .int .i64 (L2 L zcp x s), dpO L (L2 L zcg x s)⟩
   | _ => none
 | _ => none)
theorem yjg (x : Dk) (s : List UInt8) : zat Try.prog 13 [.ref 500000 0, .str s] (dpO std x) (.int .i64 (zcp x s)) (dpO std (zcg x s)) := by
 refine zad (T := tt) (S := fun L => zaz [] [zid L, zk3 L]) (lo := noA) (lb := noA) 8 (fn := Try.f13) (xs := fun L => [.ref 500000 0, .str s]) (rts := fun L => [.int .i64 (L2 L zcp x s)]) (O := fun L => dpO L x) (O1 := fun L => dpO L (L2 L zcg x s))
   rfl rfl (by kernel_rfl) (by kernel_rfl) (by kernel_rfl) zap (za6 trivial ⟨zf4, zep, trivial⟩) (by kernel_rfl) ?_
 intro L P' Q' hL hP hQ
 have hE : ∀ x : Dk, L zpm ⟨L Dk.room x, L Dk.names x, L Dk.sure x, L zgt (L Dk.pend x), fun q => tnC L (L (L zc1 (L Dk.pend x)) q), L zb5 (L Dk.nd x), fun k _ => ndC L (L (L za4 (L Dk.nd x)) k), L Dk.steps x, L Dk.fuse x, L Dk.down x⟩ = x := by subst hL; exact zjb
 (cbv; try simp only [syT, true_and, and_true])
 simp only [hE, true_and]
 subst hL
 simp only [std]
 obtain ⟨e1, e2, e3, e4, e5⟩ := zby x
 refine ⟨Nat.le_refl _, ⟨fun _ _ => trivial, fun _ _ _ _ _ _ => trivial⟩, fun _ _ _ _ => trivial, fun h => ⟨?_, ⟨fun _ _ => trivial, fun _ _ _ _ _ _ => trivial⟩, fun _ _ _ _ => trivial, fun h2 => ?_, fun h2 => ?_⟩, fun h => ?_⟩
 · rw [e1]; exact Nat.le_refl _
 · have h : thE x s = 0 := of_decide_eq_true h
   have h2 : zas x = 0 := of_decide_eq_true h2
   have hx : zcg x s = { zal x with nd := x.nd.set (thK x s) ⟨(za4 x.nd (thK x s)).now, (za4 x.nd (thK x s)).now⟩ } := by
     unfold zcg; rw [if_pos h, if_pos h2]
   have hz : zcp x s = zas x := if_pos h
   have hl : zb5 (x.nd.set (thK x s) ⟨(za4 x.nd (thK x s)).now, (za4 x.nd (thK x s)).now⟩) = zb5 x.nd := List.length_set
   rw [hx, hz, (ynw h).1]
   simp only [e1, hl]
   refine ⟨trivial, trivial, Nat.le_refl _, Nat.le_refl _, Nat.le_refl _, Nat.le_refl _, ⟨trivial, fun _ _ => trivial, fun q i j hq hi hj => ?_⟩, ⟨trivial, fun _ _ _ _ => trivial⟩, trivial, trivial, trivial, trivial, trivial, trivial, trivial, trivial⟩
   obtain rfl : i = 0 := by omega
   exact ykp x.nd (thK x s) _ hq hj
 · have h : thE x s = 0 := of_decide_eq_true h
   have h2 : ¬ zas x = 0 := of_decide_eq_false h2
   have hx : zcg x s = zal x := by
     unfold zcg; rw [if_pos h, if_neg h2]
   have hz : zcp x s = zas x := if_pos h
   rw [hx, hz]
   simp only [e1]
   repeat' (first | exact Nat.le_refl _ | exact trivial | exact rfl | refine And.intro ?_ ?_ | intro _)
 · have h : ¬ thE x s = 0 := of_decide_eq_false h
   have hx : zcg x s = x := if_neg h
   have hz : zcp x s = thE x s := if_neg h
   rw [hx, hz]
   repeat' (first | exact Nat.le_refl _ | exact trivial | exact rfl | refine And.intro ?_ ?_ | intro _)
theorem zvl : zbt Try.prog (zyr std) := by
 intro raw ob T hT hp
 unfold zyr at hT
 simp only at hT
 repeat' split at hT
 all_goals first | (cases hT; done) | (cases hT; exact yjg _ _)
end Sy
end Go.Proofs.Ytogomcfgfnlclaa
namespace Go.Proofs.Ytogomcfgfnlclaa
open Go Go.RowKit
open Go.ChangeMaps (setBlock)
def yfy (f : MapEntry -> Int) (e : MapEntry) : MapEntry := { e with val := .int .i64 (f e) }
theorem yfx (f : MapEntry -> Int) (l : List MapEntry) : ((l.map (yfy f)).map fun e => valOf e.val) = l.map f := by
 rw [List.map_map]; rfl
theorem yb1 (f : MapEntry -> Int) (l : List MapEntry) : (l.map (yfy f)).map (·.born) = l.map (·.born) := by
 rw [List.map_map]; rfl
theorem yj9 (x : Int) (n : Nat) : wrap64 (wrap64 x + (n : Int)) = wrap64 (x + n) := by
 unfold wrap64
 omega
set_option maxRecDepth 1000000 in
theorem yrg (w : World) (b bm : Nat) (clock : Nat) (es : Array MapEntry) (f : MapEntry -> Int) (hc : w.cell? ⟨b, 1, none⟩ = some (.map (some bm))) (hm : w.heap[bm]? = some (.map es clock)) (hst : MapKept.Stamped es clock)
   (hv : ∀ x ∈ es.toList, ∃ (bn : Nat) (s : ByteArray), x.val = .pointer (some ⟨bn, 0, none⟩) /\ w.cell? ⟨bn, 0, none⟩ = some (.string s) /\ f x = s.size) :
   Calls Try.prog 17 #[.pointer (some ⟨b, 0, none⟩)] w fun e w' => e = .returned (.int .i64 (wrap64 ((es.toList.map f).sum))) /\ Below w.heap.size w w' := by
 have hrg := run_range_map (P := Try.prog) w 60 9 64 bm es clock Try.underlying60 hm
 have hbm : bm < w.heap.size := by
   rcases Nat.lt_or_ge bm w.heap.size with h | h
   · exact h
   · simp [Array.getElem?_eq_none h] at hm
 go_enter Try.func17, Try.ntmps17
 go_wp2
 go_loopw [3] (fun s w' => ∃ seen : Array Nat, w'.heap[w.heap.size]? = some (.mapIter (some bm) clock seen clock) /\ (∀ k, k < w.heap.size -> w'.heap[k]? = w.heap[k]?) /\ Below w.heap.size w w' /\ s = .int .i64 (wrap64 (seenSum (es.toList.map (yfy f)) seen))) (fun _ w' => (leftOf es (w'.iterSeen w.heap.size)).size)
 case atStart =>
   exact ⟨#[], heap_alloc_new _ _, fun k hk => heap_alloc_old _ _ hk, (Below.refl _ w).alloc (Nat.le_refl _) _, by rw [seenSum_none]; unfold wrap64; rfl⟩
 case round =>
   obtain ⟨seen, hr, hk, hB, rfl⟩ := hrel
   have hmr : wr.heap[bm]? = some (.map es clock) := (hk bm hbm).trans hm
   rcases run_next_at (P := Try.prog) wr 0 w.heap.size bm clock clock seen es clock hr hmr hst.1 (Nat.le_refl _) with ⟨h0, hrun⟩ | ⟨e, he, w1, hal, hrun⟩
   · have hnx : ∀ ty, (Instr.next (.pointer (some ⟨w.heap.size, 0, none⟩)) false ty).run Try.prog wr = _ := fun _ => hrun
     go_wp2
     go_ret
     rw [seenSum_full seen _ (fun x hx => by
       obtain ⟨y, hy, rfl⟩ := List.mem_map.1 hx
       exact all_seen es seen h0 y hy), yfx]
     exact ⟨rfl, hB⟩
   · obtain ⟨bn, s, hx, hn, hf⟩ := hv e (mem_left he).1
     rw [hx] at hrun
     have hbn : bn < w.heap.size := by
       rcases Nat.lt_or_ge bn w.heap.size with h | h
       · exact h
       · simp [World.cell?, Array.getElem?_eq_none h] at hn
     obtain ⟨W2, hr2, hk2, hB2, hrun2⟩ : ∃ W2 : World, W2.heap[w.heap.size]? = some (.mapIter (some bm) clock (seen.push e.born) clock) /\ (∀ k, k < w.heap.size -> W2.heap[k]? = w.heap[k]?) /\ Below w.heap.size w W2 /\ (Instr.next (.pointer (some ⟨w.heap.size, 0, none⟩)) false 0).run Try.prog wr = .ok (.tuple #[.bool true, e.key, .pointer (some ⟨bn, 0, none⟩)]) W2 := by
       have hw : w1.heap = wr.heap /\ w1.os = wr.os /\ w1.tape = wr.tape /\ w1.output = wr.output := by
         rcases hal with rfl | rfl
         · exact ⟨rfl, rfl, rfl, rfl⟩
         · exact ⟨rfl, rfl, rfl, rfl⟩
       obtain ⟨h1, h2, h3, h4⟩ := hw
       have hl : w.heap.size < wr.heap.size := (Array.getElem?_eq_some_iff.1 hr).1
       have hne : ∀ k, k < w.heap.size -> (w1.heap.setIfInBounds w.heap.size (.mapIter (some bm) clock (seen.push e.born) clock))[k]? = w.heap[k]? := fun k hk' => by
         rw [Array.getElem?_setIfInBounds_ne (by omega), h1]
         exact hk k hk'
       refine ⟨setBlock w1 w.heap.size (.mapIter (some bm) clock (seen.push e.born) clock), ?_, hne, ⟨h2.trans hB.os, h3.trans hB.tape, h4.trans hB.output, ?_, hne⟩, hrun⟩
       · show (w1.heap.setIfInBounds w.heap.size _)[w.heap.size]? = _
         rw [h1, Array.getElem?_setIfInBounds, if_pos rfl, if_pos hl]
       · show w.heap.size <= (w1.heap.setIfInBounds w.heap.size _).size
         rw [h1, Array.size_setIfInBounds]
         exact Nat.le_of_lt hl
     clear hrun hal
     have hnx : ∀ ty, (Instr.next (.pointer (some ⟨w.heap.size, 0, none⟩)) false ty).run Try.prog wr = _ := fun _ => hrun2
     have hm2 : W2.heap[bm]? = some (.map es clock) := (hk2 bm hbm).trans hm
     have hen := run_entry_at (P := Try.prog) W2 w.heap.size bm clock seen es clock e hr2 hm2 (mem_left he).1 hst.2.1
     rw [hx] at hen
     have hn1 : W2.cell? ⟨bn, 0, none⟩ = some (.string s) := by
       simp only [World.cell?, hk2 bn hbn]
       exact hn
     go_wp2
     go_roundw
     case rel =>
       refine ⟨seen.push e.born, hr2, hk2, hB2, ?_⟩
       have hmem : yfy f e ∈ es.toList.map (yfy f) := List.mem_map.2 ⟨e, (mem_left he).1, rfl⟩
       have hs := seenSum_push seen (yfy f e) (mem_left he).2 (es.toList.map (yfy f)) (by rw [yb1]; exact hst.2.1) hmem
       have hs : seenSum (es.toList.map (yfy f)) (seen.push e.born) = seenSum (es.toList.map (yfy f)) seen + f e := hs
       rw [hs, hf, yj9]
     case measure =>
       have e1 : W2.iterSeen w.heap.size = seen.push e.born := by unfold World.iterSeen; rw [hr2]
       have e2 : wr.iterSeen w.heap.size = seen := by unfold World.iterSeen; rw [hr]
       rw [e1, e2]
       exact left_shrinks es seen e he
end Go.Proofs.Ytogomcfgfnlclaa
namespace Go.Proofs.Ytogomcfgfnlclaa
open Go Go.RowKit
open Go.WideElems (Fit rd rg rg_of)
open Go.Maps
theorem zl9 {H : Type} : ∀ l : List (Lit × DataW H), (l.foldr DataW.insert []).Perm l
 | [] => .refl _
 | x :: l => by
   have ins : ∀ r : List (Lit × DataW H), (DataW.insert x r).Perm (x :: r) := by
     intro r
     induction r with
     | nil => exact .refl _
     | cons y r ih =>
       unfold DataW.insert
       split
       · exact .refl _
       · exact (ih.cons y).trans (.swap x y r)
   exact (ins _).trans ((zl9 l).cons x)
theorem yjr (w : World) (Bm b clock : Nat) (es : Array MapEntry) (ks : List (List UInt8)) (hB : Bm < w.heap.size) (hc : w.cell? ⟨Bm, 0, none⟩ = some (.map (some b))) (hb : w.heap[b]? = some (.map es clock)) (hst : MapKept.Stamped es clock)
   (hk : ∀ x ∈ es.toList, ∃ s : ByteArray, x.key = .string s /\ s.data.toList ∈ ks) (hks : ∀ k ∈ ks, ∃ x ∈ es.toList, ∃ s : ByteArray, x.key = .string s /\ s.data.toList = k) (hri : ks.Pairwise (fun a b => Op.bytesLess a b = true)) (hl : ks.length <= 1000000) (hs : ∀ k ∈ ks, k.length <= maxLen) :
   Calls Try.prog 33 #[.func (.func 48) #[] #[.pointer (some ⟨Bm, 0, none⟩)]] w fun e w' => ∃ v, e = .returned v /\ w'.ownsRow w.heap.size 9 1 v ks.length (ks.map encStr) /\ Below w.heap.size w w' := by
 have hrd : ∀ x ∈ es.toList, ∃ s : ByteArray, x.key = .string s /\ s.data.toList ∈ ks /\ rd Try.prog 9 yb0 x = some (.string s.data.toList, .lit (.bool true)) := fun x hx => by
   obtain ⟨s, h1, h2⟩ := hk x hx
   have hl : s.size <= maxLen := by have := hs _ h2; simpa using this
   exact ⟨s, h1, h2, by simp [rd, yb0, Go.keyOf, h1, mapKey, Try.underlying9, hl]⟩
 let g : MapEntry -> List UInt8 := fun x => match x.key with | .string s => s.data.toList | _ => []
 have hnd : (es.toList.map g).Nodup := by
   have h := hst.2.2
   rw [List.Nodup, List.pairwise_map] at h |-
   refine h.imp_of_mem fun {x y} hx hy hne he => ?_
   obtain ⟨s, h1, _⟩ := hk x hx
   obtain ⟨t, h2, _⟩ := hk y hy
   apply hne
   have he : s.data.toList = t.data.toList := by
     have e1 : g x = s.data.toList := by simp only [g, h1]
     have e2 : g y = t.data.toList := by simp only [g, h2]
     rw [<- e1, <- e2]; exact he
   rw [h1, h2]
   congr 1
   exact ByteArray.ext (Array.ext' he)
 have hlt : ∀ a b : List UInt8, Op.bytesLess a b = true -> a < b := fun a b h => by rw [bytesLess_eq] at h; exact of_decide_eq_true h
 have hknd : ks.Nodup := hri.imp fun {a b} h he => by
   subst he
   exact absurd (hlt _ _ h) (List.lt_irrefl a)
 have hperm : (es.toList.map g).Perm ks := by
   refine (List.perm_ext_iff_of_nodup hnd hknd).2 fun k => ⟨fun hm => ?_, fun hm => ?_⟩
   · obtain ⟨x, hx, rfl⟩ := List.mem_map.1 hm
     obtain ⟨s, h1, h2⟩ := hk x hx
     simp only [g, h1]; exact h2
   · obtain ⟨x, hx, s, h1, h2⟩ := hks k hm
     exact List.mem_map.2 ⟨x, hx, by simp only [g, h1]; exact h2⟩
 have hesl : es.size = ks.length := by have := hperm.length_eq; simpa using this
 have hmx : (1000000 : Nat) <= maxLen := by decide
 have hown : w.ownsMap Try.prog 9 yb0 b es.size (.map ((es.toList.map (rg Try.prog 9 yb0)).foldr DataW.insert [])) :=
   ⟨es, clock, hb, ⟨by omega, hst, fun y hy => by obtain ⟨s, _, _, h⟩ := hrd y hy; exact ⟨_, h⟩⟩, Nat.le_refl _, rfl⟩
 have hsk : (strKeys (.map ((es.toList.map (rg Try.prog 9 yb0)).foldr DataW.insert []) : DataW Unit)).Perm ks := by
   refine List.Perm.trans ?_ hperm
   refine ((zl9 _).map _).trans (List.Perm.of_eq ?_)
   rw [List.map_map]
   refine List.map_congr_left fun x hx => ?_
   obtain ⟨s, h1, _, h3⟩ := hrd x hx
   simp only [Function.comp, rg_of h3, strOf, g, h1]
 have hsize : Maps.size (.map ((es.toList.map (rg Try.prog 9 yb0)).foldr DataW.insert []) : DataW Unit) <= 1000000 := by
   have := (zl9 (es.toList.map (rg Try.prog 9 yb0))).length_eq
   show (List.foldr DataW.insert [] (es.toList.map (rg Try.prog 9 yb0))).length <= 1000000
   rw [this, List.length_map, Array.length_toList]
   omega
 have hseq := AnyZ.keys_gives (ρ := Try.keys34_ren) (F := Fence.wide) (n := 2) { Try.keys34 with } trivial rfl (by omega) Bm b es.size _ w hB hc hown
 refine (callsIn_wide.1 (AnyZ.sorted_in Try.sorted33 Fence.wide 5 trivial trivial trivial trivial rfl (by omega) (ztl _) (enters_of Try.func47 (by kernel_rfl) rfl) 48 _ trivial (enters_of Try.func48 (by kernel_rfl) rfl) _ _ (by omega) (by omega) w hseq)).mono ?_
 rintro e w' ⟨v, ss, rfl, hS, hrow, -, hB⟩
 have hS : ss.Perm ks := hS.trans hsk
 have hsort : ss.mergeSort (fun x y => decide (x <= y)) = ks := by
   have hp := List.pairwise_mergeSort (le := fun x y : List UInt8 => decide (x <= y)) (fun a b c h1 h2 => decide_eq_true (List.le_trans (of_decide_eq_true h1) (of_decide_eq_true h2))) (fun a b => by
     rcases List.le_total a b with h | h
     · rw [decide_eq_true h]; rfl
     · rw [decide_eq_true h, Bool.or_true]) ss
   exact List.Perm.eq_of_pairwise (le := fun a b : List UInt8 => decide (a <= b) = true) (fun a b _ _ h1 h2 => List.le_antisymm (of_decide_eq_true h1) (of_decide_eq_true h2)) hp (hri.imp fun {a b} h => decide_eq_true (List.le_of_lt (hlt _ _ h))) ((List.mergeSort_perm _ _).trans hS)
 have hl2 : ss.length = ks.length := hS.length_eq
 rw [hsort, hl2] at hrow
 exact ⟨v, rfl, hrow, hB⟩
end Go.Proofs.Ytogomcfgfnlclaa
namespace Go.Proofs.Ytogomcfgfnlclaa
namespace Sy
open Go Go.RowKit
set_option maxRecDepth 100000
set_option linter.unusedSimpArgs false
set_option linter.unusedVariables false
def zjt : zeb := (36, fun raw ob => match raw with
 | [.mp n] => match zmj ob n, ob 600100 with
   | some l, some (.tab _ _ nn len get) => some ⟨[.mp 500001], doO l (.tab 68 2 nn len get), True, .mp 21, zb9 (doO l (.tab 68 2 nn len get)) [(21, .mapp 600100 2 l)]⟩
   | _, _ => none
 | _ => none)
theorem zj2 : zbt Try.prog zjt := by
 intro raw ob T hT hp
 unfold zjt at hT
 simp only at hT
 repeat' split at hT
 all_goals first | (cases hT; done) | skip
 cases hT
 rename_i l _ _ nn len get _ _
 intro D w μ vs hD hxs hdom hobs hinj hown hg hgb
 obtain ⟨v, rfl, r1⟩ := zfw hxs
 cases r1 with
 | mp _ b z m hμ =>
   obtain ⟨hq, es, clock, kf, hb, hn, hks, hri, hr⟩ := hobs 500001 _ _ (by rw [zab (zaw.2 (by unfold zbv; omega))]; rfl) hμ
   refine ze9 (fn := Try.f36) rfl rfl (by kernel_rfl) ((AnyW.maps_Clone Try.clone36 b es clock w hb).mono ?_)
   rintro e w' ⟨rfl, rfl⟩
   have B : Below w.heap.size w (w.alloc (.map es clock)) := (Below.refl _ w).alloc (Nat.le_refl _) _
   have h21 : gx (za2 (doO l (.tab 68 2 nn len get))) 21 = none := by rw [zab (zaw.2 (by unfold zbv; omega))]; rfl
   have hm : ∀ n x, μ n = some x -> (if n = 21 then some (some (w.heap.size, (0, 0))) else μ n) = some x := fun n x h => by
     rw [if_neg (by rintro rfl; rw [(hdom 21).2 h21] at h; cases h)]; exact h
   refine ⟨_, D, _, zub 21 _ (0, 0) hD rfl hdom hobs hinj hown B (by show w.heap.size < (w.heap.push _).size; simp) (by unfold zbv; omega) rfl ⟨hq, es, clock, kf, heap_alloc_new _ _, hn, hks, hri, fun i x hx => ?_⟩ (.mp _ w.heap.size 0 0 (if_pos rfl))⟩
   exact (hr i x hx).mono (fun b hb => B.block b (hD b hb)) (fun _ h => h) (zno hm)
def kyO (l : List (List UInt8 × Nat)) (tb : Ob) : List (Nat × Ob) := [(500010, .box 60 [.mp 500001]), (500001, .mapp 600100 2 l), (600100, tb)]
def zss : zeb := (34, fun raw ob => match raw with
 | [.mp n] => match zmj ob n, ob 600100 with
   | some l, some (.tab _ _ nn len get) => some ⟨[.mp 500001], doO l (.tab 68 2 nn len get), True, .fn 48 [] [.ref 1 0], zb9 [(1, .box 60 [.mp 500001])] (doO l (.tab 68 2 nn len get))⟩
   | _, _ => none
 | _ => none)
theorem yhi (l : List (List UInt8 × Nat)) (nn : Nat) (len : Nat -> Nat) (get : Nat -> Nat -> Nat -> AV) : zat Try.prog 34 [.mp 500001] (doO l (.tab 68 2 nn len get)) (.fn 48 [] [.ref 1 0]) (zb9 [(1, .box 60 [.mp 500001])] (doO l (.tab 68 2 nn len get))) := by
 refine zad (T := tt) (S := fun L => zaz [] []) (lo := noA) (lb := noA) 8 (fn := Try.f34) (xs := fun L => [.mp 500001]) (rts := fun _ => [.fn 48 [] [.ref 1 0]]) (O := fun L => doO l (.tab 68 2 nn len get)) (O1 := fun L => zb9 [(1, .box 60 [.mp 500001])] (doO l (.tab 68 2 nn len get)))
   rfl rfl (by kernel_rfl) (by kernel_rfl) (by kernel_rfl) zap (za6 trivial trivial) (by kernel_rfl) ?_
 intro L P' Q' hL hP hQ
 (cbv; try simp only [syT, true_and, and_true])
 repeat' (first | exact Nat.le_refl _ | exact trivial | exact rfl | refine And.intro ?_ ?_ | intro _)
theorem zsr : zbt Try.prog zss := by
 intro raw ob T hT hp
 unfold zss at hT
 simp only at hT
 repeat' split at hT
 all_goals first | (cases hT; done) | (cases hT; exact yhi _ _ _ _)
def zhs (l : List (List UInt8 × Nat)) (i : Nat) : List UInt8 := (l.map Prod.fst).getD i []
def zuv (l : List (List UInt8 × Nat)) : Prop := l.length <= 1000000 /\ ∀ y ∈ l, y.1.length <= maxLen
def znd (L : za9) : zeb := (33, fun raw ob => match raw with
 | [.fn _ [] [.ref c _]] => match ob c, ob 600100 with
   | some (.box _ [.mp n]), some (.tab _ _ nn len get) => match zmj ob n with
     | some l => some ⟨[.fn 48 [] [.ref 500010 0]], kyO l (.tab 68 2 nn len get), L zuv l, .lst 1 (L mlen l) (fun i _ => .str (L2 L zhs l i)), kyO l (.tab 68 2 nn len get)⟩
     | _ => none
   | _, _ => none
 | _ => none)
theorem zp9 : zbt Try.prog (znd std) := by
 intro raw ob T hT hp
 unfold znd at hT
 simp only at hT
 repeat' split at hT
 all_goals first | (cases hT; done) | skip
 cases hT
 rename_i c _ _ n _ nn len get _ _ _ l _
 have hp : zuv l := hp
 intro D w μ vs hD hxs hdom hobs hinj hown hg hgb
 obtain ⟨v, rfl, r1⟩ := zfw hxs
 cases r1 with
 | fn _ _ _ us1 us2 e1 e2 h1 h2 =>
   obtain ⟨u, hu⟩ : ∃ u, us2.toList = [u] := List.length_eq_one_iff.1 (by simpa using e2.symm)
   have : us2 = #[u] := by rw [<- Array.toArray_toList (xs := us2), hu]
   subst this
   have : us1 = #[] := by
     apply Array.eq_empty_of_size_eq_zero
     simpa using e1.symm
   subst this
   have r2 : R w.heap D μ (.ref 500010 0) u := h2 0 _ u rfl rfl
   cases r2 with
   | ref _ _ b z m hμ =>
     obtain ⟨C, t, fr, hb, hz, hf, ho, hC⟩ := hobs 500010 _ _ (by rw [zab (zaw.2 (by unfold zbv; omega))]; rfl) hμ
     obtain ⟨v0, rfl, r3⟩ := zfw hC
     cases r3 with
     | mp _ bm zm mm hμm =>
       obtain ⟨hq, es, clock, kf, hbm, hn, hks, hri, hr⟩ := hobs 500001 _ _ (by rw [zab (zaw.2 (by unfold zbv; omega))]; rfl) hμm
       have hkk : ∀ x ∈ es.toList, ∃ s : ByteArray, x.key = .string s /\ s.data.toList ∈ l.map Prod.fst := fun x hx => by
         obtain ⟨i, hi⟩ := List.getElem?_of_mem hx
         obtain ⟨⟨s, k1, k2⟩, k3⟩ := hks.key i x (by simpa using hi)
         rw [k2] at k3
         exact ⟨s, k1, zfc.1 k3⟩
       have hkk2 : ∀ k ∈ l.map Prod.fst, ∃ x ∈ es.toList, ∃ s : ByteArray, x.key = .string s /\ s.data.toList = k := fun k hk => by
         obtain ⟨i, i1, i2⟩ := hks.all (.s k) (zfc.2 hk)
         obtain ⟨⟨s, k1, k2⟩, _⟩ := hks.key i es[i] (by simp [i1])
         rw [i2] at k2
         exact ⟨es[i], by simp, s, k1, (Ky.s.inj k2).symm⟩
       refine ze9 (fn := Try.f33) rfl rfl (by kernel_rfl) ((yjr w b bm clock es (l.map Prod.fst) (hown _ _ _ hμ).1 (by rw [zel]; simp [zao hb]) hbm hks.st hkk hkk2 (List.pairwise_map.2 hri) (by rw [List.length_map]; exact hp.1) (fun k hk => by obtain ⟨y, hy, rfl⟩ := List.mem_map.1 hk; exact hp.2 y hy)).mono ?_)
       rintro e w' ⟨v, rfl, ⟨-, hrow⟩, B⟩
       have hml : mlen l = (l.map Prod.fst).length := by unfold mlen; simp
       rcases hrow with ⟨rfl, h0⟩ | ⟨g, cap, cur, rfl, hg0, hgb, hc1, hc2, hc3, hc4⟩
       · refine ⟨_, D, μ, zes hD hdom hobs hinj hown B (fun b h => h) (fun b h => .inl h) ?_⟩
         have h0 : mlen l = 0 := by rw [hml]; exact h0
         show R _ _ _ (.lst 1 (mlen l) _) _
         rw [h0]
         exact .lst0 _ _ _ _ (fun _ => rfl)
       · have hlt : g < w'.heap.size := (Array.getElem?_eq_some_iff.1 hgb).1
         rw [<- hml] at hc1 hc4 |-
         refine ⟨_, fun b => D b \/ b = g, μ, zes hD hdom hobs hinj hown B (fun b h => .inl h) (fun b h => h.elim .inl (fun e => .inr (by subst e; exact ⟨hg0, hlt⟩))) (.lst 1 (mlen l) _ g 0 cap (fun i _ => .string ⟨(zhs l i).toArray⟩) (.inr rfl) hc1 (fun i j hi hj => ?_) (fun i j hi hj => rfl) (fun i j hi hj => .str _ _ (by show (zhs l i).toArray.toList = zhs l i; simp)))⟩
         have : j = 0 := by omega
         subst this
         rw [zao hgb]
         have h1 := congrArg (fun l => l[i]?) hc4
         simp only [List.getElem?_take, Nat.mul_one, if_pos hi, List.getElem?_map] at h1
         have hi2 : i < (l.map Prod.fst).length := by rw [<- hml]; exact hi
         rw [show 0 + i * 1 + 0 = i by omega, <- Array.getElem?_toList, h1, <- List.getElem?_map, List.getElem?_eq_getElem hi2]
         unfold zhs
         rw [List.getD_eq_getElem?_getD, List.getElem?_eq_getElem hi2]; rfl
def yb9 (nd : List Nd) (y : List UInt8 × Nat) : Int := ((za4 nd y.2).now.length : Int)
def zlq (x : Dk) : Int := wrap64 ((x.names.map (yb9 x.nd)).sum)
theorem yfs {l l' : List Int} (h : l.Perm l') : l.sum = l'.sum := by
 induction h with
 | nil => rfl
 | cons x _ ih => simp [ih]
 | swap x y l => simp; omega
 | trans _ _ h1 h2 => exact h1.trans h2
def zqd (x : MapEntry) : List UInt8 := match x.key with | .string s => s.data.toList | _ => []
theorem yc4 {l : List (List UInt8 × Nat)} {es : Array MapEntry} {clock : Nat} {kf : Nat -> Ky} (hks : zd0 .s (ylr l) es clock kf) (hri : zin l) : (es.toList.map zqd).Perm (l.map Prod.fst) /\ ∀ i e, es[i]? = some e -> kf i = .s (zqd e) := by
 have hk : ∀ (i : Nat) e, es[i]? = some e -> ∃ s : ByteArray, e.key = .string s /\ kf i = .s s.data.toList /\ zc8 l s.data.toList = true := fun i e he => by
   obtain ⟨⟨s, k1, k2⟩, k3⟩ := hks.key i e he
   rw [k2] at k3
   exact ⟨s, k1, k2, k3⟩
 refine ⟨(List.perm_ext_iff_of_nodup ?_ ?_).2 fun k => ⟨fun hm => ?_, fun hm => ?_⟩, fun i e he => ?_⟩
 · have h := hks.st.2.2
   rw [List.Nodup, List.pairwise_map] at h |-
   refine h.imp_of_mem fun {x y} hx hy hne he => ?_
   obtain ⟨i, hi⟩ := List.getElem?_of_mem hx
   obtain ⟨j, hj⟩ := List.getElem?_of_mem hy
   obtain ⟨s, h1, _⟩ := hk i x (by simpa using hi)
   obtain ⟨t, h2, _⟩ := hk j y (by simpa using hj)
   apply hne
   simp only [zqd, h1, h2] at he
   rw [h1, h2]
   congr 1
   exact ByteArray.ext (Array.ext' he)
 · rw [List.Nodup, List.pairwise_map]
   refine List.Pairwise.imp (fun {a b} h he => ?_) (show l.Pairwise (fun a b => slt a.1 b.1 = true) from hri)
   rw [he, zif] at h; cases h
 · obtain ⟨x, hx, rfl⟩ := List.mem_map.1 hm
   obtain ⟨i, hi⟩ := List.getElem?_of_mem hx
   obtain ⟨s, h1, _, h3⟩ := hk i x (by simpa using hi)
   simp only [zqd, h1]
   exact zfc.1 h3
 · obtain ⟨i, i1, i2⟩ := hks.all (.s k) (zfc.2 hm)
   obtain ⟨s, h1, h2, _⟩ := hk i es[i] (by simp [i1])
   rw [i2] at h2
   exact List.mem_map.2 ⟨es[i], by simp, by simp only [zqd, h1]; exact (Ky.s.inj h2).symm⟩
 · obtain ⟨s, h1, h2, _⟩ := hk i e he
   rw [h2]
   simp only [zqd, h1]
theorem zu4 : ∀ {l : List (List UInt8 × Nat)}, zin l -> ∀ y ∈ l, zds l y.1 = y.2
 | [], _, y, hy => by cases hy
 | x :: l, h, y, hy => by
   have h' := List.pairwise_cons.1 h
   unfold zds
   rcases List.mem_cons.1 hy with rfl | hy
   · rw [decide_eq_true rfl]; rfl
   · have hne : ¬ x.1 = y.1 := fun e => by
       have := h'.1 y hy
       rw [e, zif] at this; cases this
     rw [decide_eq_false hne, cond_false]
     exact zu4 h'.2 y hy
def zyk (L : za9) : zeb := (17, fun raw ob => match raw with
 | [.ref id 0] => match rdS L ob id with
   | some x => some ⟨[.ref 500000 0], dpO L x, True, .int .i64 (L zlq x), dpO L x⟩
   | _ => none
 | _ => none)
theorem yjd (x : Dk) : zat Try.prog 17 [.ref 500000 0] (dpO std x) (.int .i64 (zlq x)) (dpO std x) := by
 intro D w μ vs hD hxs hdom hobs hinj hown hg hgb
 obtain ⟨v, rfl, r1⟩ := zfw hxs
 cases r1 with
 | ref _ _ b z m hμ =>
   obtain ⟨C, t, fr, hb, hz, hf, ho, hC1, hC2⟩ := hobs 500000 _ _ (by rw [zab (zaw.2 (by unfold zbv; omega))]; rfl) hμ
   obtain ⟨v1, hv1⟩ : ∃ v1, C[1]? = some v1 := ⟨C[1]'(by rw [<- hC1]; simp), by simp⟩
   have r2 : R w.heap D μ (.mp 500001) v1 := hC2 1 _ v1 rfl hv1
   cases r2 with
   | mp _ bm zm mm hμm =>
     obtain ⟨hq, es, clock, kf, hbm, hn, hks, hri, hr⟩ := hobs 500001 _ _ (by rw [zab (zaw.2 (by unfold zbv; omega))]; rfl) hμm
     have hri : zin x.names := hri
     obtain ⟨kp1, kp2⟩ := yc4 (l := x.names) hks hri
     have hv : ∀ e ∈ es.toList, ∃ (bn : Nat) (s : ByteArray), e.val = .pointer (some ⟨bn, 0, none⟩) /\ w.cell? ⟨bn, 0, none⟩ = some (.string s) /\ ((za4 x.nd (zds x.names (zqd e))).now.length : Int) = s.size := fun e he => by
       obtain ⟨i, hi⟩ := List.getElem?_of_mem he
       have hi : es[i]? = some e := by simpa using hi
       have re := hr i e hi
       rw [kp2 i e hi] at re
       have re : R w.heap D (pm 600100 μ) (.aer 600100 (zds x.names (zqd e)) 2 0 0) e.val := re
       generalize e.val = ev at re
       cases re with
       | aer _ _ _ _ _ bn zn mn hμn hin =>
         have hμn := yas hμn
         have hgx : gx (za2 (dpO std x)) (mid 600100 (zds x.names (zqd e))) = zdx (za2 (dpO std x) 600100) (zds x.names (zqd e)) := yis (by unfold zbv; omega) _
         have hmem : zdx (za2 (dpO std x) 600100) (zds x.names (zqd e)) = if zds x.names (zqd e) < zb5 x.nd then some (.row 68 2 1 (fun _ => ndC std (za4 x.nd (zds x.names (zqd e))))) else none := rfl
         have hlt : zds x.names (zqd e) < zb5 x.nd := by
           rcases Nat.lt_or_ge (zds x.names (zqd e)) (zb5 x.nd) with h | h
           · exact h
           · rw [hmem, if_neg (by omega)] at hgx
             rw [(hdom _).2 hgx] at hμn; cases hμn
         rw [hmem, if_pos hlt] at hgx
         obtain ⟨_, C', t', fr', hb', hz', hf', ho', hC'⟩ := hobs _ _ _ hgx hμn
         obtain ⟨v2, hv2, _, r3⟩ := hC' 0 0 Nat.one_pos (by omega)
         obtain ⟨s2, rfl, hs2⟩ := r3.inv_str
         refine ⟨bn, s2, by simp, ?_, ?_⟩
         · rw [zel, zao hb']; exact hv2
         · have := congrArg List.length hs2
           have h3 : s2.data.toList.length = s2.size := by simp
           rw [h3] at this
           rw [this]; rfl
     refine ze9 (fn := Try.f17) rfl rfl (by kernel_rfl) ((yrg w b bm clock es (fun e => ((za4 x.nd (zds x.names (zqd e))).now.length : Int)) (by rw [zel, zao hb]; exact hv1) hbm hks.st hv).mono ?_)
     rintro e w' ⟨rfl, B⟩
     have hs : (es.toList.map fun e => ((za4 x.nd (zds x.names (zqd e))).now.length : Int)).sum = (x.names.map (yb9 x.nd)).sum := by
       have h1 : _ = _ := yfs (kp1.map fun k => ((za4 x.nd (zds x.names k)).now.length : Int))
       rw [List.map_map, List.map_map] at h1
       have h2 : (x.names.map ((fun k => ((za4 x.nd (zds x.names k)).now.length : Int)) ∘ Prod.fst)) = x.names.map (yb9 x.nd) := List.map_congr_left fun y hy => by
         show ((za4 x.nd (zds x.names y.1)).now.length : Int) = _
         rw [zu4 hri y hy]; rfl
       rw [h2] at h1
       exact h1
     rw [hs]
     exact ⟨_, D, μ, zes hD hdom hobs hinj hown B (fun b h => h) (fun b h => .inl h) (.int _ _)⟩
theorem zvh : zbt Try.prog (zyk std) := by
 intro raw ob T hT hp
 unfold zyk at hT
 simp only at hT
 repeat' split at hT
 all_goals first | (cases hT; done) | (cases hT; exact yjd _)
def ypa (room : Int) : Dk := ⟨room, [], [], [], [], 0, -1, false⟩
def newO (L : za9) (x : Dk) : List (Nat × Ob) := dpX L 10 11 12 13 x
def tab0 : List (Nat × Ob) := [(600100, .tab 68 2 0 (fun _ => 0) (fun _ _ _ => .dead))]
def ykv (L : za9) : zeb := (8, fun raw ob => match raw with
 | [.int .i64 n] => match ob 600100 with
   | some (.tab _ _ nn len get) => some ⟨[.int .i64 n], [(600100, .tab 68 2 nn len get)], L (fun n : Int => 0 <= n /\ n <= 65536) n /\ L (fun n : Nat => n = 0) nn, .tup [.ref 10 0, .int .i64 0], newO L (L ypa n)⟩
   | _ => none
 | _ => none)
theorem yp8 (n : Int) (hn : 0 <= n /\ n <= 65536) (len : Nat -> Nat) (get : Nat -> Nat -> Nat -> AV) : zat Try.prog 8 [.int .i64 n] [(600100, .tab 68 2 0 len get)] (.tup [.ref 10 0, .int .i64 0]) (newO std (ypa n)) := by
 refine zad (T := tt) (S := fun L => zaz [] []) (lo := noA) (lb := noA) 8 (fn := Try.f8) (xs := fun L => [.int .i64 n]) (rts := fun L => [.ref 10 0, .int .i64 0]) (O := fun L => [(600100, .tab 68 2 0 len get)]) (O1 := fun L => newO L (L ypa n))
   rfl rfl (by kernel_rfl) (by kernel_rfl) (by kernel_rfl) zap (za6 trivial trivial) (by kernel_rfl) ?_
 intro L P' Q' hL hP hQ
 (cbv; try simp only [syT, true_and, and_true])
 subst hL
 simp only [std]
 refine ⟨fun h => ?_, fun _ => ⟨fun h => ?_, fun _ => ?_⟩⟩
 · have h : n < 0 := of_decide_eq_true h
   omega
 · have h : 65536 < n := of_decide_eq_true h
   omega
 · refine ⟨Nat.zero_le _, ⟨rfl, fun k hk => absurd hk (Nat.not_lt_zero k), fun k i j hk => absurd hk (Nat.not_lt_zero k)⟩, ?_⟩
   repeat' (first | exact Nat.le_refl _ | exact trivial | exact rfl | refine And.intro ?_ ?_ | intro _)
theorem yba : zbt Try.prog (ykv std) := by
 intro raw ob T hT hp
 unfold ykv at hT
 simp only at hT
 repeat' split at hT
 all_goals first | (cases hT; done) | skip
 cases hT
 obtain ⟨h1, rfl⟩ : (0 <= _ /\ _ <= 65536) /\ _ = 0 := hp
 exact yp8 _ h1 _ _
def ze4 (x : Dk) : Dk := if x.down = true then x else if zas x = 0 then { zal x with sure := x.names, pend := [] } else zal x
def zj7 (x : Dk) : Int := if x.down = true then 15 else zas x
def ztm (L : za9) : zeb := (15, fun raw ob => match raw with
 | [.ref id 0] => match rdS L ob id with
   | some x => some ⟨[.ref 500000 0], dpO L x, True, .int .i64 (L zj7 x), dpX L 500000 500001 12 13 (L ze4 x)⟩
   | _ => none
 | _ => none)
theorem yk1 (x : Dk) : zat Try.prog 15 [.ref 500000 0] (dpO std x) (.int .i64 (zj7 x)) (dpX std 500000 500001 12 13 (ze4 x)) := by
 refine zad (T := tt) (S := fun L => zaz [] [yp0 L, zk3 L, zjt]) (lo := noA) (lb := noA) 8 (fn := Try.f15) (xs := fun L => [.ref 500000 0]) (rts := fun L => [.int .i64 (L zj7 x)]) (O := fun L => dpO L x) (O1 := fun L => dpX L 500000 500001 12 13 (L ze4 x))
   rfl rfl (by kernel_rfl) (by kernel_rfl) (by kernel_rfl) zap (za6 trivial ⟨zns, zep, zj2, trivial⟩) (by kernel_rfl) ?_
 intro L P' Q' hL hP hQ
 have hE : ∀ x : Dk, L zpm ⟨L Dk.room x, L Dk.names x, L Dk.sure x, L zgt (L Dk.pend x), fun q => tnC L (L (L zc1 (L Dk.pend x)) q), L zb5 (L Dk.nd x), fun k _ => ndC L (L (L za4 (L Dk.nd x)) k), L Dk.steps x, L Dk.fuse x, L Dk.down x⟩ = x := by subst hL; exact zjb
 (cbv; try simp only [syT, true_and, and_true])
 simp only [hE, true_and]
 subst hL
 simp only [std]
 obtain ⟨e1, e2, e3, e4, e5⟩ := zby x
 refine ⟨Nat.le_refl _, ⟨fun _ _ => trivial, fun _ _ _ _ _ _ => trivial⟩, fun _ _ _ _ => trivial, fun h => ⟨?_, ⟨fun _ _ => trivial, fun _ _ _ _ _ _ => trivial⟩, fun _ _ _ _ => trivial, fun h2 => ?_, fun h2 => ?_⟩, fun h => ?_⟩
 · rw [e1]; exact Nat.le_refl _
 · have hd : ¬ x.down = true := by
     unfold onZ at h
     split at h
     · cases h
     · assumption
   have h2 : zas x = 0 := of_decide_eq_true h2
   have hx : ze4 x = { zal x with sure := x.names, pend := [] } := by
     unfold ze4; rw [if_neg hd, if_pos h2]
   have hz : zj7 x = zas x := if_neg hd
   rw [hx, hz]
   simp only [e1, e2]
   repeat' (first | exact Nat.le_refl _ | exact trivial | exact rfl | refine And.intro ?_ ?_ | intro _)
 · have hd : ¬ x.down = true := by
     unfold onZ at h
     split at h
     · cases h
     · assumption
   have h2 : ¬ zas x = 0 := of_decide_eq_false h2
   have hx : ze4 x = zal x := by
     unfold ze4; rw [if_neg hd, if_neg h2]
   have hz : zj7 x = zas x := if_neg hd
   rw [hx, hz]
   simp only [e1]
   repeat' (first | exact Nat.le_refl _ | exact trivial | exact rfl | refine And.intro ?_ ?_ | intro _)
 · have hd : x.down = true := by
     unfold onZ at h
     split at h
     · assumption
     · cases h
   have hx : ze4 x = x := if_pos hd
   have hz : zj7 x = 15 := if_pos hd
   have ho : onZ x = 15 := if_pos hd
   rw [hx, hz, ho]
   repeat' (first | exact Nat.le_refl _ | exact trivial | exact rfl | refine And.intro ?_ ?_ | intro _)
theorem zma : zbt Try.prog (ztm std) := by
 intro raw ob T hT hp
 unfold ztm at hT
 simp only at hT
 repeat' split at hT
 all_goals first | (cases hT; done) | (cases hT; exact yk1 _)
theorem yfw {a b : List UInt8} (h : seq a b = true) : a = b := by simpa [seq] using h
theorem zu0 {a b : List UInt8} (h : seq a b = false) : a ≠ b := by
 intro e
 subst e
 have e : seq a a = true := by simp [seq]
 rw [e] at h
 cases h
def zke (x : Dk) (fr to_ : List UInt8) : Dk := if thE x fr = 0 /\ zh3 to_ = true /\ fr ≠ to_ then (if zas x = 0 then zgs (zal x) ⟨2, fr, to_, false, 0⟩ else zal x) else x
def zp0 (x : Dk) (fr to_ : List UInt8) : Int := if thE x fr = 0 then (if zh3 to_ = true then (if fr = to_ then 0 else zas x) else 2) else thE x fr
def zgx (x : Dk) : Prop := x.pend.length <= 1000000
def yki (L : za9) : zeb := (19, fun raw ob => match raw with
 | [.ref id 0, .str fr, .str to_] => match rdS L ob id with
   | some x => some ⟨[.ref 500000 0, .str fr, .str to_], dpO L x, L zgx x /\ L zbm to_, .int .i64 (L3 L zp0 x fr to_), dpX L 500000 500001 500002 13 (L3 L zke x fr to_)⟩
   | _ => none
 | _ => none)
theorem yoi (x : Dk) (fr to_ : List UInt8) (hp : zgx x) (hs : zbm to_) : zat Try.prog 19 [.ref 500000 0, .str fr, .str to_] (dpO std x) (.int .i64 (zp0 x fr to_)) (dpX std 500000 500001 500002 13 (zke x fr to_)) := by
 refine zad (T := tt) (S := fun L => zaz [zmh L] [zid L, zk3 L, zhe L]) (lo := noA) (lb := noA) 8 (fn := Try.f19) (xs := fun L => [.ref 500000 0, .str fr, .str to_]) (rts := fun L => [.int .i64 (L3 L zp0 x fr to_)]) (O := fun L => dpO L x) (O1 := fun L => dpX L 500000 500001 500002 13 (L3 L zke x fr to_))
   rfl rfl (by kernel_rfl) (by kernel_rfl) (by kernel_rfl) zap (za6 ⟨zhr, trivial⟩ ⟨zf4, zep, zfs, trivial⟩) (by kernel_rfl) ?_
 intro L P' Q' hL hP hQ
 have hE : ∀ x : Dk, L zpm ⟨L Dk.room x, L Dk.names x, L Dk.sure x, L zgt (L Dk.pend x), fun q => tnC L (L (L zc1 (L Dk.pend x)) q), L zb5 (L Dk.nd x), fun k _ => ndC L (L (L za4 (L Dk.nd x)) k), L Dk.steps x, L Dk.fuse x, L Dk.down x⟩ = x := by subst hL; exact zjb
 (cbv; try simp only [syT, true_and, and_true])
 simp only [hE, true_and]
 subst hL
 simp only [std]
 obtain ⟨e1, e2, e3, e4, e5⟩ := zby x
 refine ⟨Nat.le_refl _, ⟨fun _ _ => trivial, fun _ _ _ _ _ _ => trivial⟩, fun _ _ _ _ => trivial, fun h => ⟨hs, fun hn => ⟨fun _ => ?_, fun h2 => absurd h2 (by decide)⟩, fun hn => ⟨fun h3 => absurd (of_decide_eq_true h : thE x fr = 0) (by simpa [ine] using h3), fun _ => ⟨fun hq => ?_, fun hq => ⟨?_, ⟨fun _ _ => trivial, fun _ _ _ _ _ _ => trivial⟩, fun _ _ _ _ => trivial, fun h2 => ⟨?_, ⟨fun _ _ => trivial, fun _ _ _ _ _ _ => trivial⟩, fun _ _ _ _ => trivial, ⟨fun e => absurd e (by decide), ?_⟩, ?_⟩, fun h2 => ?_⟩⟩⟩⟩, fun h => ⟨fun _ => ?_, fun h3 => absurd (show thE x fr = 0 by simpa [ine] using h3) (of_decide_eq_false h : ¬ thE x fr = 0)⟩⟩
 · have h : thE x fr = 0 := of_decide_eq_true h
   have hn : ¬ zh3 to_ = true := by
     intro e
     rw [e] at hn
     cases hn
   have hx : zke x fr to_ = x := if_neg (fun e => hn e.2.1)
   have hz : zp0 x fr to_ = 2 := by
     unfold zp0; rw [if_pos h, if_neg hn]
   rw [hx, hz]
   repeat' (first | exact Nat.le_refl _ | exact trivial | exact rfl | refine And.intro ?_ ?_ | intro _)
 · have h : thE x fr = 0 := of_decide_eq_true h
   have hn : zh3 to_ = true := by
     cases e : zh3 to_
     · rw [e] at hn; cases hn
     · rfl
   have hq : fr = to_ := yfw hq
   have hx : zke x fr to_ = x := if_neg (fun e => e.2.2 hq)
   have hz : zp0 x fr to_ = 0 := by
     unfold zp0; rw [if_pos h, if_pos hn, if_pos hq]
   rw [hx, hz, h]
   repeat' (first | exact Nat.le_refl _ | exact trivial | exact rfl | refine And.intro ?_ ?_ | intro _)
 · rw [e1]; exact Nat.le_refl _
 · exact Nat.le_refl _
 · show (zal x).pend.length <= 1000000
   rw [e4]; exact hp
 · have h : thE x fr = 0 := of_decide_eq_true h
   have hn : zh3 to_ = true := by
     cases e : zh3 to_
     · rw [e] at hn; cases hn
     · rfl
   have hq : fr ≠ to_ := zu0 hq
   have h2 : zas x = 0 := of_decide_eq_true h2
   have hx : zke x fr to_ = zgs (zal x) ⟨2, fr, to_, false, 0⟩ := by
     unfold zke; rw [if_pos ⟨h, hn, hq⟩, if_pos h2]
   have hz : zp0 x fr to_ = zas x := by
     unfold zp0; rw [if_pos h, if_pos hn, if_neg hq]
   have hl : ∀ t, (zgs (zal x) t).nd = x.nd := fun t => e1
   rw [hx, hz]
   simp only [hl, e1]
   repeat' (first | exact Nat.le_refl _ | exact trivial | exact rfl | refine And.intro ?_ ?_ | intro _)
 · have h : thE x fr = 0 := of_decide_eq_true h
   have hn : zh3 to_ = true := by
     cases e : zh3 to_
     · rw [e] at hn; cases hn
     · rfl
   have hq : fr ≠ to_ := zu0 hq
   have h2 : ¬ zas x = 0 := of_decide_eq_false h2
   have hx : zke x fr to_ = zal x := by
     unfold zke; rw [if_pos ⟨h, hn, hq⟩, if_neg h2]
   have hz : zp0 x fr to_ = zas x := by
     unfold zp0; rw [if_pos h, if_pos hn, if_neg hq]
   rw [hx, hz]
   simp only [e1]
   repeat' (first | exact Nat.le_refl _ | exact trivial | exact rfl | refine And.intro ?_ ?_ | intro _)
 · have h : ¬ thE x fr = 0 := of_decide_eq_false h
   have hx : zke x fr to_ = x := if_neg (fun e => h e.1)
   have hz : zp0 x fr to_ = thE x fr := if_neg h
   rw [hx, hz]
   repeat' (first | exact Nat.le_refl _ | exact trivial | exact rfl | refine And.intro ?_ ?_ | intro _)
theorem yad : zbt Try.prog (yki std) := by
 intro raw ob T hT hp
 unfold yki at hT
 simp only at hT
 repeat' split at hT
 all_goals first | (cases hT; done) | (cases hT; exact yoi _ _ _ hp.1 hp.2)
def zja (x : Dk) (s : List UInt8) : Dk := if thE x s = 0 then (if zas x = 0 then zgs (zal x) ⟨3, s, [], false, 0⟩ else zal x) else x
def ykj (L : za9) : zeb := (20, fun raw ob => match raw with
 | [.ref id 0, .str s] => match rdS L ob id with
   | some x => some ⟨[.ref 500000 0, .str s], dpO L x, L zgx x, .int .i64 (L2 L zcp x s), dpX L 500000 500001 500002 13 (L2 L zja x s)⟩
   | _ => none
 | _ => none)
theorem yol (x : Dk) (s : List UInt8) (hp : zgx x) : zat Try.prog 20 [.ref 500000 0, .str s] (dpO std x) (.int .i64 (zcp x s)) (dpX std 500000 500001 500002 13 (zja x s)) := by
 refine zad (T := tt) (S := fun L => zaz [] [zid L, zk3 L, zhe L]) (lo := noA) (lb := noA) 8 (fn := Try.f20) (xs := fun L => [.ref 500000 0, .str s]) (rts := fun L => [.int .i64 (L2 L zcp x s)]) (O := fun L => dpO L x) (O1 := fun L => dpX L 500000 500001 500002 13 (L2 L zja x s))
   rfl rfl (by kernel_rfl) (by kernel_rfl) (by kernel_rfl) zap (za6 trivial ⟨zf4, zep, zfs, trivial⟩) (by kernel_rfl) ?_
 intro L P' Q' hL hP hQ
 have hE : ∀ x : Dk, L zpm ⟨L Dk.room x, L Dk.names x, L Dk.sure x, L zgt (L Dk.pend x), fun q => tnC L (L (L zc1 (L Dk.pend x)) q), L zb5 (L Dk.nd x), fun k _ => ndC L (L (L za4 (L Dk.nd x)) k), L Dk.steps x, L Dk.fuse x, L Dk.down x⟩ = x := by subst hL; exact zjb
 (cbv; try simp only [syT, true_and, and_true])
 simp only [hE, true_and]
 subst hL
 simp only [std]
 obtain ⟨e1, e2, e3, e4, e5⟩ := zby x
 refine ⟨Nat.le_refl _, ⟨fun _ _ => trivial, fun _ _ _ _ _ _ => trivial⟩, fun _ _ _ _ => trivial, fun h => ⟨?_, ⟨fun _ _ => trivial, fun _ _ _ _ _ _ => trivial⟩, fun _ _ _ _ => trivial, fun h2 => ⟨?_, ⟨fun _ _ => trivial, fun _ _ _ _ _ _ => trivial⟩, fun _ _ _ _ => trivial, ⟨fun e => absurd e (by decide), ?_⟩, ?_⟩, fun h2 => ?_⟩, fun h => ?_⟩
 · rw [e1]; exact Nat.le_refl _
 · exact Nat.le_refl _
 · show (zal x).pend.length <= 1000000
   rw [e4]; exact hp
 · have h : thE x s = 0 := of_decide_eq_true h
   have h2 : zas x = 0 := of_decide_eq_true h2
   have hx : zja x s = zgs (zal x) ⟨3, s, [], false, 0⟩ := by
     unfold zja; rw [if_pos h, if_pos h2]
   have hz : zcp x s = zas x := if_pos h
   have hl : ∀ t, (zgs (zal x) t).nd = x.nd := fun t => e1
   rw [hx, hz]
   simp only [hl, e1]
   repeat' (first | exact Nat.le_refl _ | exact trivial | exact rfl | refine And.intro ?_ ?_ | intro _)
 · have h : thE x s = 0 := of_decide_eq_true h
   have h2 : ¬ zas x = 0 := of_decide_eq_false h2
   have hx : zja x s = zal x := by
     unfold zja; rw [if_pos h, if_neg h2]
   have hz : zcp x s = zas x := if_pos h
   rw [hx, hz]
   simp only [e1]
   repeat' (first | exact Nat.le_refl _ | exact trivial | exact rfl | refine And.intro ?_ ?_ | intro _)
 · have h : ¬ thE x s = 0 := of_decide_eq_false h
   have hx : zja x s = x := if_neg h
   have hz : zcp x s = thE x s := if_neg h
   rw [hx, hz]
   repeat' (first | exact Nat.le_refl _ | exact trivial | exact rfl | refine And.intro ?_ ?_ | intro _)
theorem yae : zbt Try.prog (ykj std) := by
 intro raw ob T hT hp
 unfold ykj at hT
 simp only at hT
 repeat' split at hT
 all_goals first | (cases hT; done) | (cases hT; exact yol _ _ hp)
def yq9 (a : List UInt8) : Prop := a.length <= 100000
def zrk (L : za9) : zf3 := (45, fun xs => match xs with | [.str a] => some (L yq9 a, .str a) | _ => none)
def zz9 (L : za9) : zf3 := (32, fun xs => match xs with | [.str a] => some (L yq9 a, .str a) | _ => none)
theorem zvu : zgv Try.prog (zrk std) := by
 intro xs p r h hp
 dsimp only [zrk] at h |-
 split at h <;> cases h
 try simp only [L2, L3, std] at hp |-
 rename_i a
 have h1 : a.length <= 100000 := hp
 exact zdf (fn := Try.f45) rfl rfl (by kernel_rfl) (yht (zhg _)) (fun h D => zvn h D zar _) (fun w => Try.stringslite_Clone ⟨a.toArray⟩ w (by show a.toArray.size <= _; rw [List.size_toArray]; omega))
theorem zza : zgv Try.prog (zz9 std) := by
 intro xs p r h hp
 dsimp only [zz9] at h |-
 split at h <;> cases h
 try simp only [L2, L3, std] at hp |-
 rename_i a
 have h1 : yq9 a := hp
 refine zaj (T := tt) (S := fun L => zdq [zrk L]) (lo := noA) (lb := noA) 5 (fn := Try.f32) rfl rfl (by kernel_rfl) (by kernel_rfl) rfl zap (zav ⟨zvu, trivial⟩) (by kernel_rfl) ?_
 (intro L P1 Q1 hL hP hQ; cbv; subst hL; simp only [L2, L3, std, syT]; subst hQ)
 (simp only [syS, reduceCtorEq, Int.reduceToNat, Int.reduceAdd, Int.reduceSub])
 exact h1
def oldT (x : Dk) (s : List UInt8) : List UInt8 := (za4 x.nd (zds x.names s)).now
def zk7 (x : Dk) (s t : List UInt8) : Int := if zc8 x.names s = true then zp3 .i64 (zco .i64 (slen t) (zlq x)) (slen (oldT x s)) else zco .i64 (slen t) (zlq x)
def zkh (x : Dk) (s t : List UInt8) : Int :=
 if x.down = true then 15 else if zh3 s = true then (if zc8 x.names s = false /\ 16 <= mlen x.names then 17 else if x.room < zk7 x s t then 16 else 0) else 2
def zm9 (x : Dk) (k : Nat) (t : List UInt8) : Dk := { x with nd := x.nd.set k ⟨t, (za4 x.nd k).sure⟩ }
def zlt (x : Dk) : Dk := { x with nd := x.nd ++ [ndD] }
def zf0 (x : Dk) (s t : List UInt8) : Dk :=
 if zkh x s t = 0 then (if zas x = 0 then (if zc8 x.names s = true then zm9 (zal x) (zds x.names s) t else zm9 (zgs (zlt (zal x)) ⟨1, [], s, true, x.nd.length⟩) x.nd.length t) else zal x) else x
def zp4 (x : Dk) (s t : List UInt8) : Int := if zkh x s t = 0 then zas x else zkh x s t
theorem zmg (l : List Nd) (q : Nat) (v : Nd) : za4 (l ++ [v]) q = if q = l.length then v else za4 l q := by
 unfold za4
 rw [List.getD_eq_getElem?_getD, List.getD_eq_getElem?_getD]
 by_cases h : q < l.length
 · rw [List.getElem?_append_left h, if_neg (by omega)]
 · rw [List.getElem?_append_right (by omega)]
   by_cases h2 : q = l.length
   · subst h2; simp
   · rw [if_neg h2, List.getElem?_eq_none (by simp; omega), List.getElem?_eq_none (by omega)]
theorem znt (l : List Nd) (q j : Nat) (hj : j < 2) : zci std (za5 q (zb5 l)) (zbl .dead (AV.agg [AV.str [], AV.str []]).cells j) (ndC std (za4 l q) j) = ndC std (za4 (l ++ [ndD]) q) j := by
 rw [zmg]
 by_cases h : q = l.length
 · subst h
   rw [if_pos rfl, show za5 l.length (zb5 l) = true from za3 _]
   match j, hj with
   | 0, _ => rfl
   | 1, _ => rfl
 · rw [if_neg h, show za5 q (zb5 l) = false from zac h]
   match j, hj with
   | 0, _ => rfl
   | 1, _ => rfl
theorem yon (x : Dk) : zpm ⟨x.room, x.names, x.sure, zgt x.pend, fun q => tnC std (zc1 x.pend q), Nat.add (zb5 x.nd) 1, fun k _ j => zci std (za5 k (zb5 x.nd)) (zbl .dead (AV.agg [AV.str [], AV.str []]).cells j) (ndC std (za4 x.nd k) j), x.steps, x.fuse, x.down⟩ = zlt x := by
 refine Eq.trans ?_ (zjb (zlt x))
 have e : Nat.add (zb5 x.nd) 1 = zb5 (zlt x).nd := by
   show x.nd.length + 1 = (x.nd ++ [ndD]).length
   simp
 rw [e]
 unfold zpm
 congr 1
 refine List.map_congr_left fun k hk => ?_
 show (⟨_, _⟩ : Nd) = ⟨_, _⟩
 congr 1
 · exact congrArg AV.toS (znt x.nd k 0 (by decide))
 · exact congrArg AV.toS (znt x.nd k 1 (by decide))
theorem yp1 {x : Dk} (h : ine (onZ x) 0 = true) : x.down = true := by
 unfold onZ at h
 split at h
 · assumption
 · cases h
theorem zpx {x : Dk} (h : ine (onZ x) 0 = false) : x.down = false := by
 unfold onZ at h
 split at h
 · cases h
 · rename_i h1
   simpa using h1
theorem yb6 {b : Bool} (h : (!b) = true) : b = false := by simpa using h
theorem zlr {b : Bool} (h : (!b) = false) : b = true := by simpa using h
def yj7 (L : za9) : zeb := (10, fun raw ob => match raw with
 | [.ref id 0, .str s, .str t] => match rdS L ob id with
   | some x => some ⟨[.ref 500000 0, .str s, .str t], dpO L x, L zgx x /\ L zbm s /\ L yq9 t, .int .i64 (L3 L zp4 x s t), dpX L 500000 500001 500002 13 (L3 L zf0 x s t)⟩
   | _ => none
 | _ => none)
theorem ynq (x : Dk) (s t : List UInt8) (hp : zgx x) (hs : zbm s) (ht : yq9 t) : zat Try.prog 10 [.ref 500000 0, .str s, .str t] (dpO std x) (.int .i64 (zp4 x s t)) (dpX std 500000 500001 500002 13 (zf0 x s t)) := by
 refine zad (T := tt) (S := fun L => zaz [zmh L, zz9 L] [yp0 L, zk3 L, zhe L, zyk L]) (lo := noA) (lb := noA) 8 (fn := Try.f10) (xs := fun L => [.ref 500000 0, .str s, .str t]) (rts := fun L => [.int .i64 (L3 L zp4 x s t)]) (O := fun L => dpO L x) (O1 := fun L => dpX L 500000 500001 500002 13 (L3 L zf0 x s t))
   rfl rfl (by kernel_rfl) (by kernel_rfl) (by kernel_rfl) zap (za6 ⟨zhr, zza, trivial⟩ ⟨zns, zep, zfs, zvh, trivial⟩) (by kernel_rfl) ?_
 intro L P' Q' hL hP hQ
 have hE : ∀ x : Dk, L zpm ⟨L Dk.room x, L Dk.names x, L Dk.sure x, L zgt (L Dk.pend x), fun q => tnC L (L (L zc1 (L Dk.pend x)) q), L zb5 (L Dk.nd x), fun k _ => ndC L (L (L za4 (L Dk.nd x)) k), L Dk.steps x, L Dk.fuse x, L Dk.down x⟩ = x := by subst hL; exact zjb
 (cbv; try simp only [syT, true_and, and_true])
 have hN : ∀ x : Dk, L zpm ⟨L Dk.room x, L Dk.names x, L Dk.sure x, L zgt (L Dk.pend x), fun q => tnC L (L (L zc1 (L Dk.pend x)) q), L (L Nat.add (L zb5 (L Dk.nd x))) 1, fun k _ j => zci L (L2 L za5 k (L zb5 (L Dk.nd x))) (zbl .dead (AV.agg [AV.str [], AV.str []]).cells j) (ndC L (L (L za4 (L Dk.nd x)) k) j), L Dk.steps x, L Dk.fuse x, L Dk.down x⟩ = L zlt x := by subst hL; exact yon
 simp only [hE, hN, true_and]
 subst hL
 simp only [std]
 obtain ⟨e1, e2, e3, e4, e5⟩ := zby x
 refine ⟨Nat.le_refl _, ⟨fun _ _ => trivial, fun _ _ _ _ _ _ => trivial⟩, fun _ _ _ _ => trivial, fun h => ?_, fun h => ⟨hs, fun h2 => ?_, fun h2 => ⟨fun h3 => ⟨fun h4 => ?_, fun h4 => ⟨Nat.le_refl _, ⟨fun _ _ => trivial, fun _ _ _ _ _ _ => trivial⟩, fun _ _ _ _ => trivial, fun h5 => ?_, fun h5 => ?_⟩⟩, fun h3 => ⟨Nat.le_refl _, ⟨fun _ _ => trivial, fun _ _ _ _ _ _ => trivial⟩, fun _ _ _ _ => trivial, fun h5 => ?_, fun h5 => ?_⟩⟩⟩⟩
 · have hz0 : zkh x s t = 15 := if_pos (yp1 h)
   have hz1 : onZ x = 15 := if_pos (yp1 h)
   have hx : zf0 x s t = x := if_neg (by rw [hz0]; decide)
   have hz : zp4 x s t = 15 := (if_neg (by rw [hz0]; decide)).trans hz0
   rw [hx, hz]
   rw [hz1]
   repeat' (first | exact Nat.le_refl _ | exact trivial | exact rfl | refine And.intro ?_ ?_ | intro _)
 · have hz0 : zkh x s t = 2 := by
     unfold zkh; rw [if_neg (by rw [zpx h]; decide), if_neg (by rw [yb6 h2]; decide)]
   have hx : zf0 x s t = x := if_neg (by rw [hz0]; decide)
   have hz : zp4 x s t = 2 := (if_neg (by rw [hz0]; decide)).trans hz0
   rw [hx, hz]
   repeat' (first | exact Nat.le_refl _ | exact trivial | exact rfl | refine And.intro ?_ ?_ | intro _)
 · have h4 : 16 <= mlen x.names := by
     have h4 : (16 : Int) <= (mlen x.names : Int) := of_decide_eq_true h4
     omega
   have hz0 : zkh x s t = 17 := by
     unfold zkh; rw [if_neg (by rw [zpx h]; decide), if_pos (zlr h2), if_pos ⟨yb6 h3, h4⟩]
   have hx : zf0 x s t = x := if_neg (by rw [hz0]; decide)
   have hz : zp4 x s t = 17 := (if_neg (by rw [hz0]; decide)).trans hz0
   rw [hx, hz]
   repeat' (first | exact Nat.le_refl _ | exact trivial | exact rfl | refine And.intro ?_ ?_ | intro _)
 · exact absurd h5 (by rw [yb6 h3]; decide)
 · have h4 : ¬ 16 <= mlen x.names := by
     have h4 : ¬ (16 : Int) <= (mlen x.names : Int) := of_decide_eq_false h4
     omega
   have hw : zk7 x s t = zco .i64 (slen t) (zlq x) := if_neg (by rw [h5]; decide)
   refine ⟨fun h6 => ?_, fun h6 => ⟨?_, ⟨fun _ _ => trivial, fun _ _ _ _ _ _ => trivial⟩, fun _ _ _ _ => trivial, fun h7 => ?_, fun h7 => ⟨fun h8 => ?_, fun h8 => absurd (zlr h8) (by rw [h5]; decide)⟩⟩⟩
   · have h6 : x.room < zk7 x s t := by
       rw [hw]; exact of_decide_eq_true h6
     have hz0 : zkh x s t = 16 := by
       unfold zkh; rw [if_neg (by rw [zpx h]; decide), if_pos (zlr h2), if_neg (fun e => h4 e.2), if_pos h6]
     have hx : zf0 x s t = x := if_neg (by rw [hz0]; decide)
     have hz : zp4 x s t = 16 := (if_neg (by rw [hz0]; decide)).trans hz0
     rw [hx, hz]
     repeat' (first | exact Nat.le_refl _ | exact trivial | exact rfl | refine And.intro ?_ ?_ | intro _)
   · rw [e1]; exact Nat.le_refl _
   · have h6 : ¬ x.room < zk7 x s t := by
       rw [hw]; exact of_decide_eq_false h6
     have hz0 : zkh x s t = 0 := by
       unfold zkh; rw [if_neg (by rw [zpx h]; decide), if_pos (zlr h2), if_neg (fun e => h4 e.2), if_neg h6]
     have h7 : ¬ zas x = 0 := by simpa [ine] using h7
     have hx : zf0 x s t = zal x := by
       unfold zf0; rw [if_pos hz0, if_neg h7]
     have hz : zp4 x s t = zas x := if_pos hz0
     rw [hx, hz]
     simp only [e1]
     repeat' (first | exact Nat.le_refl _ | exact trivial | exact rfl | refine And.intro ?_ ?_ | intro _)
   · have h6 : ¬ x.room < zk7 x s t := by
       rw [hw]; exact of_decide_eq_false h6
     have hz0 : zkh x s t = 0 := by
       unfold zkh; rw [if_neg (by rw [zpx h]; decide), if_pos (zlr h2), if_neg (fun e => h4 e.2), if_neg h6]
     have h7 : zas x = 0 := by simpa [ine] using h7
     have hx : zf0 x s t = zm9 (zgs (zlt (zal x)) ⟨1, [], s, true, x.nd.length⟩) x.nd.length t := by
       unfold zf0; rw [if_pos hz0, if_pos h7, if_neg (by rw [h5]; decide)]
     have hz : zp4 x s t = zas x := if_pos hz0
     rw [hx, hz]
     have hk : zb5 (zal x).nd = x.nd.length := congrArg List.length e1
     have hk2 : zb5 x.nd = x.nd.length := rfl
     have hk3 : zb5 (zlt (zal x)).nd = x.nd.length + 1 := by
       show ((zal x).nd ++ [ndD]).length = _
       rw [e1]; simp
     have hk4 : ∀ u, zb5 (zgs (zlt (zal x)) u).nd = x.nd.length + 1 := fun u => hk3
     have hk5 : ∀ u, zb5 (zm9 (zgs (zlt (zal x)) u) x.nd.length t).nd = x.nd.length + 1 := fun u => List.length_set.trans hk3
     simp only [hk, hk2, hk3, hk4, hk5]
     refine ⟨Nat.le_refl _, ⟨trivial, fun q hq => ?_, fun q i j hq hi hj => ?_⟩, ⟨rfl, fun _ _ _ _ => rfl⟩, rfl, rfl, rfl, rfl, rfl, rfl, rfl, ⟨fun _ => rfl, ?_⟩, ht, Nat.le_refl _, Nat.le_refl _, Nat.le_refl _, Nat.le_succ _, Nat.le_succ _, Nat.le_succ _, Nat.le_succ _, ⟨trivial, fun _ _ => trivial, fun q i j hq hi hj => ?_⟩, ⟨rfl, fun _ _ _ _ => rfl⟩, rfl, rfl, rfl, rfl, rfl, rfl, rfl, trivial⟩
     · show yf2 (za5 q x.nd.length) 1 1 = 1
       cases za5 q x.nd.length <;> rfl
     · have := znt (zal x).nd q j hj
       rw [hk] at this
       exact this
     · show (zal x).pend.length <= 1000000
       rw [e4]; exact hp
     · obtain rfl : i = 0 := by omega
       exact yi8 (zlt (zal x)).nd x.nd.length t (by rw [<- hk3] at hq; exact hq) hj
 · have hw : zk7 x s t = zp3 .i64 (zco .i64 (slen t) (zlq x)) (slen (oldT x s)) := if_pos h5
   refine ⟨h5, fun h6 => ?_, fun h6 => ⟨?_, ⟨fun _ _ => trivial, fun _ _ _ _ _ _ => trivial⟩, fun _ _ _ _ => trivial, fun h7 => ?_, fun h7 => ⟨fun h8 => absurd (yb6 h8) (by rw [h5]; decide), fun h8 => ?_⟩⟩⟩
   · have h6 : x.room < zk7 x s t := by
       rw [hw]; exact of_decide_eq_true h6
     have hz0 : zkh x s t = 16 := by
       unfold zkh; rw [if_neg (by rw [zpx h]; decide), if_pos (zlr h2), if_neg (fun e => by rw [h5] at e; cases e.1), if_pos h6]
     have hx : zf0 x s t = x := if_neg (by rw [hz0]; decide)
     have hz : zp4 x s t = 16 := (if_neg (by rw [hz0]; decide)).trans hz0
     rw [hx, hz]
     repeat' (first | exact Nat.le_refl _ | exact trivial | exact rfl | refine And.intro ?_ ?_ | intro _)
   · rw [e1]; exact Nat.le_refl _
   · have h6 : ¬ x.room < zk7 x s t := by
       rw [hw]; exact of_decide_eq_false h6
     have hz0 : zkh x s t = 0 := by
       unfold zkh; rw [if_neg (by rw [zpx h]; decide), if_pos (zlr h2), if_neg (fun e => by rw [h5] at e; cases e.1), if_neg h6]
     have h7 : ¬ zas x = 0 := by simpa [ine] using h7
     have hx : zf0 x s t = zal x := by
       unfold zf0; rw [if_pos hz0, if_neg h7]
     have hz : zp4 x s t = zas x := if_pos hz0
     rw [hx, hz]
     simp only [e1]
     repeat' (first | exact Nat.le_refl _ | exact trivial | exact rfl | refine And.intro ?_ ?_ | intro _)
   · have h6 : ¬ x.room < zk7 x s t := by
       rw [hw]; exact of_decide_eq_false h6
     have hz0 : zkh x s t = 0 := by
       unfold zkh; rw [if_neg (by rw [zpx h]; decide), if_pos (zlr h2), if_neg (fun e => by rw [h5] at e; cases e.1), if_neg h6]
     have h7 : zas x = 0 := by simpa [ine] using h7
     have hx : zf0 x s t = zm9 (zal x) (zds x.names s) t := by
       unfold zf0; rw [if_pos hz0, if_pos h7, if_pos h5]
     have hz : zp4 x s t = zas x := if_pos hz0
     rw [hx, hz]
     have hk5 : zb5 (zm9 (zal x) (zds x.names s) t).nd = zb5 x.nd := List.length_set.trans (congrArg List.length e1)
     simp only [hk5, e1]
     refine ⟨ht, h5, Nat.le_refl _, Nat.le_refl _, Nat.le_refl _, Nat.le_refl _, Nat.le_refl _, ⟨trivial, fun _ _ => trivial, fun q i j hq hi hj => ?_⟩, ⟨rfl, fun _ _ _ _ => rfl⟩, rfl, rfl, rfl, rfl, rfl, rfl, rfl, trivial⟩
     obtain rfl : i = 0 := by omega
     have := yi8 (zal x).nd (zds x.names s) t (q := q) (by rw [e1]; exact hq) hj
     rw [e1] at this
     refine this.trans ?_
     show ndC std (za4 (x.nd.set _ _) q) j = ndC std (za4 ((zal x).nd.set _ ⟨t, (za4 (zal x).nd _).sure⟩) q) j
     rw [e1]
 · exact absurd h5 (by rw [zlr h3]; decide)
theorem zy9 : zbt Try.prog (yj7 std) := by
 intro raw ob T hT hp
 unfold yj7 at hT
 simp only at hT
 repeat' split at hT
 all_goals first | (cases hT; done) | (cases hT; exact ynq _ _ _ hp.1 hp.2.1 hp.2.2)
structure Nq where
 nn : Nat
 gn : Nat -> Nat -> Nat -> AV
def yna (q : Nq) : List Nd := (List.range q.nn).map (fun k => yqu (q.gn k 0))
theorem ys0 (l : List Nd) : yna ⟨zb5 l, fun k _ => ndC std (za4 l k)⟩ = l := yoo l
def yng (m k : Int) : Bool := ieq (zxs .u64 (zra .u64 m k) 1) 1
def zhc (x : Nd) (m : Int) : Nat := if yng m 63 = true then x.now.length else x.sure.length
def zod (x : Nd) (m : Int) (i : Nat) : List UInt8 := if yng m (((i / 64 % 63 : Nat)) : Int) = true then x.now else x.sure
def kAt (x : Nd) (m : Int) (i : Nat) : Int := if i < (zod x m i).length then zng (zod x m i) i else 0
def yc9 (x : Nd) (m : Int) (i q : Nat) : Int := if q < i then kAt x m q else 0
def kF (x : Nd) (m : Int) : List UInt8 := zay (zhc x m) (kAt x m)
def zrd (x : Nd) : Prop := x.now.length <= 100000 /\ x.sure.length <= 100000
def ndAt (l : List Nd) (k : Nat) : Prop := zrd (za4 l k)
def ygw (l : List Nd) (k : Nat) (m : Int) : Nat := zhc (za4 l k) m
def ypk (l : List Nd) (k : Nat) (m : Int) (i : Nat) : List UInt8 := zod (za4 l k) m i
def kAtL (l : List Nd) (k : Nat) (m : Int) (i q : Nat) : Int := yc9 (za4 l k) m i q
def kFL (l : List Nd) (k : Nat) (m : Int) : List UInt8 := kF (za4 l k) m
def isT (b : Bool) : Prop := b = true
def kptA (L : za9) (l : List Nd) (k : Nat) (m : Int) : Nat -> St -> Option Ann := fun id st => match id with
 | 0 => some ⟨Nat, fun i => [(27, .int .i64 (L za7 i))], fun i => [(24, .row 5 1 (L3 L ygw l k m) (fun q _ => .int .u8 (L (L (L3 L kAtL l k m) i) q)))], [0, 1, 6, 26], [600100],
     fun i => L2 L Nat.le i (L3 L ygw l k m), fun i => L2 L Nat.sub (L3 L ygw l k m) i⟩
 | 1000017 => some ⟨Nat, fun _ => [(5, .int .i64 (L za7 (L3 L ygw l k m)))], fun _ => [], [0, 1], [600100], fun _ => True, fun _ => 0⟩
 | 1000040 => zh0 st 27 fun i => some ⟨Nat, fun _ => [(8, .str (L (L3 L ypk l k m) (L Int.toNat i)))], fun _ => [], [0, 1, 6, 7, 26, 27], [24, 600100], fun _ => True, fun _ => 0⟩
 | _ => none
theorem zkx {x : Nd} (h : zrd x) (m : Int) : zhc x m <= 100000 := by
 unfold zhc
 split
 · exact h.1
 · exact h.2
theorem za8 (n : Nat) : (za7 n).toNat = n := by unfold za7; omega
theorem yo7 {i : Nat} (h : i <= 100000) : Int.tmod (yj8 .i64 (za7 i) 64) 63 = ((i / 64 % 63 : Nat) : Int) := by
 have e1 : (za7 i).tdiv 64 = ((i / 64 : Nat) : Int) := by
   unfold za7
   exact (Int.ofNat_tdiv i 64).symm
 have e3 : yj8 .i64 (za7 i) 64 = ((i / 64 : Nat) : Int) := by
   unfold yj8
   rw [zgr, e1]
   have e2 : ((i / 64 : Nat) : Int) + 9223372036854775808 < 18446744073709551616 := by omega
   rw [Int.emod_eq_of_lt (by omega) e2]
   omega
 rw [e3]
 exact (Int.ofNat_tmod _ _).symm
theorem zd2 (i : Nat) (h : i <= 1000000) : zco .i64 (za7 i) 1 = za7 (i + 1) := by
 unfold zco za7
 rw [zgr]
 omega
def yc6 (L : za9) : zeb := (38, fun raw ob => match raw with
 | [v, .int .u64 m] => match ykm v, yb8 ob with
   | some (c, k), some (nn, gn) => some ⟨[.aep c 600100 k 2 0 0, .int .u64 m], [(600100, ndO L (L yna ⟨nn, gn⟩))], L isT c /\ L2 L ndAt (L yna ⟨nn, gn⟩) k, .str (L3 L kFL (L yna ⟨nn, gn⟩) k m), [(600100, ndO L (L yna ⟨nn, gn⟩))]⟩
   | _, _ => none
 | _ => none)
theorem ylc (l : List Nd) (c : Bool) (k : Nat) (m : Int) (hc : c = true) (hn : ndAt l k) : zat Try.prog 38 [.aep c 600100 k 2 0 0, .int .u64 m] [(600100, ndO std l)] (.str (kFL l k m)) [(600100, ndO std l)] := by
 refine zad (T := tt) (S := fun L => zaz [] []) (lo := fun L => kptA L l k m) (lb := noA) 8 (fn := Try.f38) (xs := fun L => [.aep c 600100 k 2 0 0, .int .u64 m]) (rts := fun L => [.str (L3 L kFL l k m)]) (O := fun L => [(600100, ndO L l)]) (O1 := fun L => [(600100, ndO L l)])
   rfl rfl (by kernel_rfl) (by kernel_rfl) (by kernel_rfl) zap (za6 trivial trivial) (by kernel_rfl) ?_
 intro L P' Q' hL hP hQ
 (cbv; try simp only [syT, true_and, and_true])
 have h63 : L (L ile 0) 63 = true := by subst hL; rfl
 refine ⟨hc, h63, ⟨fun h1 => ⟨hc, 0, ?_⟩, fun h1 => ⟨0, ?_⟩⟩, fun y hy => ?_⟩
 · (cbv; try simp only [syT, true_and, and_true])
   subst hL
   refine ⟨Nat.le_refl _, ⟨fun _ _ => trivial, fun _ _ _ _ _ _ => trivial⟩, ?_⟩
   have h1 : yng m 63 = true := h1
   show slen (za4 l k).now = za7 (zhc (za4 l k) m)
   unfold zhc; rw [if_pos h1]; rfl
 · (cbv; try simp only [syT, true_and, and_true])
   subst hL
   refine ⟨Nat.le_refl _, ⟨fun _ _ => trivial, fun _ _ _ _ _ _ => trivial⟩, ?_⟩
   have h1 : yng m 63 = false := h1
   show slen (za4 l k).sure = za7 (zhc (za4 l k) m)
   unfold zhc; rw [if_neg (by rw [h1]; decide)]; rfl
 · (cbv; try simp only [syT, true_and, and_true])
   refine ⟨?_, ⟨0, ?_⟩, fun i hi => ?_⟩
   · subst hL
     have := zkx hn m
     show yl1 1 (za7 (zhc (za4 l k) m)) (za7 (zhc (za4 l k) m)) = true
     rw [zu9]
     unfold za7
     omega
   · (cbv; try simp only [syT, true_and, and_true])
     subst hL
     refine ⟨Nat.le_refl _, ⟨fun _ _ => trivial, fun _ _ _ _ _ _ => trivial⟩, ⟨za8 _, fun q j hq hj => ?_⟩, rfl, Nat.zero_le _⟩
     obtain rfl : j = 0 := by omega
     rfl
   · (cbv; try simp only [syT, true_and, and_true])
     have hsh : L (L Int.tmod (L (L (yj8 IntKind.i64) (L za7 i)) 64)) 63 = ((i / 64 % 63 : Nat) : Int) := by
       subst hL
       have hi : i <= zhc (za4 l k) m := hi
       exact yo7 (Nat.le_trans hi (zkx hn m))
     refine ⟨fun h1 => ⟨hc, ?_, ?_, ?_, ⟨fun h2 => ⟨hc, 0, ?_⟩, fun h2 => ⟨0, ?_⟩⟩, fun y hy => ?_⟩, fun h1 => ?_⟩
     · subst hL; rfl
     · subst hL; rfl
     · rw [hsh]
       subst hL
       exact decide_eq_true (show (0 : Int) <= ((i / 64 % 63 : Nat) : Int) from Int.natCast_nonneg _)
     · rw [hsh] at h2
       (cbv; try simp only [syT, true_and, and_true])
       subst hL
       refine ⟨Nat.le_refl _, ⟨fun _ _ => trivial, fun _ _ _ _ _ _ => trivial⟩, fun _ _ _ _ => trivial, ?_⟩
       have h2 : yng m ((i / 64 % 63 : Nat) : Int) = true := h2
       show (za4 l k).now = zod (za4 l k) m (za7 i).toNat
       rw [za8]
       unfold zod; rw [if_pos h2]
     · rw [hsh] at h2
       (cbv; try simp only [syT, true_and, and_true])
       subst hL
       refine ⟨Nat.le_refl _, ⟨fun _ _ => trivial, fun _ _ _ _ _ _ => trivial⟩, fun _ _ _ _ => trivial, ?_⟩
       have h2 : yng m ((i / 64 % 63 : Nat) : Int) = false := h2
       show (za4 l k).sure = zod (za4 l k) m (za7 i).toNat
       rw [za8]
       unfold zod; rw [if_neg (by rw [h2]; decide)]
     · (cbv; try simp only [syT, true_and, and_true])
       have hlt : i < zhc (za4 l k) m := by
         subst hL
         have h1 : ilt (za7 i) (za7 (za7 (zhc (za4 l k) m)).toNat) = true := h1
         rw [za8, zfr] at h1
         unfold za7 at h1
         omega
       have hs : L (L3 L ypk l k m) (L Int.toNat (L za7 i)) = zod (za4 l k) m i := by
         subst hL
         show zod (za4 l k) m (za7 i).toNat = _
         rw [za8]
       refine ⟨fun h3 => ⟨?_, ?_, i + 1, ?_⟩, fun h3 => ⟨i + 1, ?_⟩⟩
       · rw [hs] at h3 |-
         subst hL
         have h3 : ilt (za7 i) (slen (zod (za4 l k) m i)) = true := h3
         rw [zfr] at h3
         show inR (za7 i) (slen (zod (za4 l k) m i)) = true
         rw [zoi]
         exact ⟨Int.natCast_nonneg _, h3⟩
       · subst hL
         show inR (za7 i) (za7 (za7 (zhc (za4 l k) m)).toNat) = true
         rw [zoi, za8]
         refine ⟨Int.natCast_nonneg _, ?_⟩
         unfold za7; omega
       · (cbv; try simp only [syT, true_and, and_true])
         rw [hs] at h3 |-
         subst hL
         have h3 : ilt (za7 i) (slen (zod (za4 l k) m i)) = true := h3
         rw [zfr] at h3
         have h3 : (i : Int) < ((zod (za4 l k) m i).length : Int) := h3
         refine ⟨Nat.le_refl _, ⟨fun _ _ => trivial, fun _ _ _ _ _ _ => trivial⟩, fun q j hq hj => ?_, zd2 i (by have := zkx hn m; omega), hlt, ?_⟩
         · refine (yko _ .u8 _ (yc9 (za4 l k) m i) q j hj).trans (congrArg (AV.int .u8) ?_)
           show (if q = 0 + (za7 i).toNat then zng (zod (za4 l k) m i) (za7 i) else yc9 (za4 l k) m i q) = yc9 (za4 l k) m (i + 1) q
           rw [za8, Nat.zero_add]
           unfold yc9
           by_cases e : q = i
           · subst e
             rw [if_pos rfl, if_pos (by omega)]
             unfold kAt
             rw [if_pos (by omega)]; rfl
           · rw [if_neg e]
             by_cases e2 : q < i
             · rw [if_pos e2, if_pos (by omega)]
             · rw [if_neg e2, if_neg (by omega)]
         · show zhc (za4 l k) m - (i + 1) + 1 <= zhc (za4 l k) m - i
           omega
       · (cbv; try simp only [syT, true_and, and_true])
         rw [hs] at h3
         subst hL
         have h3 : ilt (za7 i) (slen (zod (za4 l k) m i)) = false := h3
         rw [zl3] at h3
         have h3 : ¬ (i : Int) < ((zod (za4 l k) m i).length : Int) := by
           have h3 : ((zod (za4 l k) m i).length : Int) <= (i : Int) := h3
           omega
         refine ⟨Nat.le_refl _, ⟨fun _ _ => trivial, fun _ _ _ _ _ _ => trivial⟩, fun q j hq hj => congrArg (AV.int .u8) ?_, zd2 i (by have := zkx hn m; omega), hlt, ?_⟩
         · show yc9 (za4 l k) m i q = yc9 (za4 l k) m (i + 1) q
           unfold yc9
           by_cases e : q = i
           · subst e
             rw [if_neg (by omega), if_pos (by omega)]
             unfold kAt
             rw [if_neg (by omega)]
           · by_cases e2 : q < i
             · rw [if_pos e2, if_pos (by omega)]
             · rw [if_neg e2, if_neg (by omega)]
         · show zhc (za4 l k) m - (i + 1) + 1 <= zhc (za4 l k) m - i
           omega
     · have h1 : i = zhc (za4 l k) m := by
         subst hL
         have h1 : ilt (za7 i) (za7 (za7 (zhc (za4 l k) m)).toNat) = false := h1
         rw [za8, zl3] at h1
         have hi : i <= zhc (za4 l k) m := hi
         unfold za7 at h1
         omega
       subst hL
       simp only [std, L3, za8]
       refine ⟨⟨?_, fun q _ => ⟨_, rfl⟩⟩, Nat.le_refl _, ⟨fun _ _ => trivial, fun _ _ _ _ _ _ => trivial⟩, ?_⟩
       · show 0 + zhc (za4 l k) m <= zhc (za4 l k) m
         omega
       · show zay (zhc (za4 l k) m) (fun q => yc9 (za4 l k) m i (0 + q)) = zay (zhc (za4 l k) m) (kAt (za4 l k) m)
         unfold zay
         refine List.map_congr_left fun q hq => ?_
         have hq : q < zhc (za4 l k) m := by simpa using hq
         show UInt8.ofNat (yc9 (za4 l k) m i (0 + q)).toNat = UInt8.ofNat (kAt (za4 l k) m q).toNat
         unfold yc9
         rw [if_pos (by omega), Nat.zero_add]
theorem zx9 : zbt Try.prog (yc6 std) := by
 intro raw ob T hT hp
 unfold yc6 at hT
 simp only at hT
 repeat' split at hT
 all_goals first | (cases hT; done) | (cases hT; exact ylc _ _ _ _ hp.1 hp.2)
structure Lq where
 n : Nat
 g : Nat -> Nat -> AV
def AV.toB : AV -> Bool
 | .bool b => b
 | _ => false
def rdB (q : Lq) : List Bool := (List.range q.n).map (fun i => (q.g i 0).toB)
def rdM (q : Lq) : List Int := (List.range q.n).map (fun i => (q.g i 0).toI)
def ymx (l : List Bool) : Nat := l.length
def yln (l : List Int) : Nat := l.length
def zej (l : List Bool) (i : Nat) : Bool := l.getD i false
def zh4 (l : List Int) (i : Nat) : Int := l.getD i 0
theorem rd_b (l : List Bool) : rdB ⟨ymx l, fun i _ => .bool (zej l i)⟩ = l := by
 apply List.ext_getElem
 · simp [rdB, ymx]
 · intro i h1 h2
   simp [rdB, zej, AV.toB, h2]
theorem rd_m (l : List Int) : rdM ⟨yln l, fun i _ => .int .u64 (zh4 l i)⟩ = l := by
 apply List.ext_getElem
 · simp [rdM, yln]
 · intro i h1 h2
   simp [rdM, zh4, AV.toI, h2]
def ytc (L : za9) : AV -> Option (List Bool)
 | .lst _ n g => some (L rdB ⟨n, g⟩)
 | .nils => some []
 | _ => none
def ysd (L : za9) : AV -> Option (List Int)
 | .lst _ n g => some (L rdM ⟨n, g⟩)
 | .nils => some []
 | _ => none
def zgy (L : za9) (h : List Bool) : AV := .lst 1 (L ymx h) (fun i _ => .bool (L2 L zej h i))
def zlu (L : za9) (m : List Int) : AV := .lst 1 (L yln m) (fun i _ => .int .u64 (L2 L zh4 m i))
def crS (x : Dk) (h : List Bool) : Nat -> List (List UInt8 × Nat)
 | 0 => x.sure
 | i + 1 => if zej h i = true then doL (crS x h i) (zc1 x.pend i) else crS x h i
structure Cr where
 nd : List Nd
 seen : List Nat
 i : Nat
def crK (s : List (List UInt8 × Nat)) (j : Nat) : Nat := zds s (zhs s j)
def crP (c : Cr) (k : Nat) (m : List Int) : Cr := if zwy c.seen k = true then c else ⟨c.nd.set k ⟨kFL c.nd k (zh4 m c.i), kFL c.nd k (zh4 m c.i)⟩, yei c.seen k, c.i + 1⟩
def zv9 (nd : List Nd) (s : List (List UInt8 × Nat)) (m : List Int) : Nat -> Cr
 | 0 => ⟨nd, [], 0⟩
 | j + 1 => crP (zv9 nd s m j) (crK s j) m
def crSu (x : Dk) (h : List Bool) : List (List UInt8 × Nat) := crS x h (zgt x.pend)
def zg8 (x : Dk) (h : List Bool) (m : List Int) (j : Nat) : Cr := zv9 x.nd (crSu x h) m j
def crD (x : Dk) (h : List Bool) (m : List Int) : Dk := ⟨x.room, (zg8 x h m (mlen (crSu x h))).nd, crSu x h, crSu x h, [], x.steps, -1, false⟩
def ym8 (x : Dk) (h : List Bool) : Prop := (∀ i, i < x.pend.length -> yiy (zc1 x.pend i).kd (zc1 x.pend i).c) /\ zgx x /\ zuv (crSu x h) /\ ∀ k, zrd (za4 x.nd k)
def crX1 (x : Dk) (h : List Bool) (i : Nat) : Dk := { x with sure := crS x h i }
def zlz (x : Dk) (h : List Bool) (m : List Int) (j : Nat) : Dk := { x with sure := crSu x h, nd := (zg8 x h m j).nd }
theorem zg3 {i n : Nat} (h : ilt (za7 i) (za7 n) = true) : inR (za7 i) (za7 n) = true := by
 rw [zfr] at h
 rw [zoi]
 exact ⟨Int.natCast_nonneg _, h⟩
theorem ze8 {i n : Nat} (h : ilt (za7 i) (za7 n) = true) : i < n := by
 rw [zfr] at h
 unfold za7 at h
 omega
theorem zc3 {i n : Nat} (h : ilt (za7 i) (za7 n) = false) : n <= i := by
 rw [zl3] at h
 unfold za7 at h
 omega
theorem zft {n i : Nat} (h : i < n) : n - (i + 1) + 1 <= n - i := by omega
theorem zio {l : List (List UInt8 × Nat)} {j : Nat} (h : j < mlen l) : zc8 l (zhs l j) = true := by
 have h : j < l.length := h
 refine zfc.2 ?_
 unfold zhs
 rw [List.getD_eq_getElem?_getD, List.getElem?_eq_getElem (by simpa using h)]
 exact List.getElem_mem _
theorem yc8 (x : Nd) (m : Int) : (kF x m).length = zhc x m := by simp [kF, zay]
theorem yq2 {x : Dk} {h : List Bool} {m : List Int} (o : ∀ k, zrd (za4 x.nd k)) : ∀ j k, zrd (za4 (zg8 x h m j).nd k)
 | 0, k => o k
 | j + 1, k => by
   have ih := yq2 (h := h) (m := m) o j
   show zrd (za4 (crP (zg8 x h m j) (crK (crSu x h) j) m).nd k)
   unfold crP
   split
   · exact ih k
   · rw [zhq]
     split
     · have := zkx (ih (crK (crSu x h) j)) (zh4 m (zg8 x h m j).i)
       refine ⟨?_, ?_⟩
       · show (kF (za4 (zg8 x h m j).nd (crK (crSu x h) j)) (zh4 m (zg8 x h m j).i)).length <= _
         rw [yc8]; exact this
       · show (kF (za4 (zg8 x h m j).nd (crK (crSu x h) j)) (zh4 m (zg8 x h m j).i)).length <= _
         rw [yc8]; exact this
     · exact ih k
theorem cr_i (x : Dk) (h : List Bool) (m : List Int) : ∀ j, (zg8 x h m j).i <= j
 | 0 => Nat.le_refl _
 | j + 1 => by
   have ih := cr_i x h m j
   show (crP (zg8 x h m j) (crK (crSu x h) j) m).i <= j + 1
   unfold crP
   split
   · omega
   · show (zg8 x h m j).i + 1 <= j + 1
     omega
theorem yow (l : List Nd) (k : Nat) (a b : List UInt8) {q j : Nat} (hq : q < l.length) (hj : j < 2) : zry std k 0 1 1 [AV.str (cond (za5 k k && za5 0 0) a b)] (zry std k 0 0 1 [AV.str a] (fun q _ => ndC std (za4 l q))) q 0 j = ndC std (za4 (l.set k ⟨a, a⟩) q) j := by
 rw [zhq, show (za5 k k && za5 0 0) = true by rw [za3, za3]; rfl]
 match j, hj with
 | 0, _ =>
   show zci std (za5 q k && za5 0 0) (.str a) (.str (za4 l q).now) = _
   by_cases h : q = k
   · subst h; rw [if_pos ⟨rfl, hq⟩, za3, za3]; rfl
   · rw [if_neg (fun e => h e.1), zac h]; rfl
 | 1, _ =>
   show zci std (za5 q k && za5 0 0) (.str a) (.str (za4 l q).sure) = _
   by_cases h : q = k
   · subst h; rw [if_pos ⟨rfl, hq⟩, za3, za3]; rfl
   · rw [if_neg (fun e => h e.1), zac h]; rfl
def dcrA (L : za9) (x : Dk) (h : List Bool) (m : List Int) : Nat -> St -> Option Ann := fun id st => match id with
 | 0 => some ⟨Nat, fun i => [(21, .int .i64 (L za7 i))], fun i => dpO L (L3 L crX1 x h i), [0, 1, 2, 19, 20], [],
     fun i => L2 L Nat.le i (L zgt (L Dk.pend x)), fun i => L2 L Nat.sub (L zgt (L Dk.pend x)) i⟩
 | 2 => some ⟨Nat, fun j => [(51, .int .i64 (L za7 j)), (9, .int .i64 (L za7 (L Cr.i (L (L3 L zg8 x h m) j))))], fun j => zb9 (dpO L (L (L3 L zlz x h m) j)) [(43, .mapr 600100 2 (L Cr.seen (L (L3 L zg8 x h m) j)))], [0, 2, 8, 49, 50], [],
     fun j => L2 L Nat.le j (L mlen (L2 L crSu x h)), fun j => L2 L Nat.sub (L mlen (L2 L crSu x h)) j⟩
 | 1000067 => zh0 st 9 fun i => some ⟨Nat, fun _ => [(13, .int .u64 (L2 L zh4 m (L Int.toNat i)))], fun _ => [], [0, 2, 8, 9, 11, 12, 49, 50, 51], [43, 500000, 500001, 500002, 500003, 600100], fun _ => True, fun _ => 0⟩
 | _ => none
def zsw (L : za9) : zeb := (18, fun raw ob => match raw with
 | [.ref id 0, hv, mv] => match rdS L ob id, ytc L hv, ysd L mv with
   | some x, some h, some m => some ⟨[.ref 500000 0, zgy L h, zlu L m], dpO L x, L2 L ym8 x h, .tup [], dpX L 500000 11 500002 13 (L3 L crD x h m)⟩
   | _, _, _ => none
 | _ => none)
theorem yhj (x : Dk) (h : List Bool) (m : List Int) (hok : ym8 x h) : zat Try.prog 18 [.ref 500000 0, zgy std h, zlu std m] (dpO std x) (.tup []) (dpX std 500000 11 500002 13 (crD x h m)) := by
 refine zad (T := tt) (S := fun L => zaz [] [yr5 L, zss, znd L, yc6 L, zjt]) (lo := fun L => dcrA L x h m) (lb := noA) 8 (fn := Try.f18) (xs := fun L => [.ref 500000 0, zgy L h, zlu L m]) (rts := fun L => []) (O := fun L => dpO L x) (O1 := fun L => dpX L 500000 11 500002 13 (L3 L crD x h m))
   rfl rfl (by kernel_rfl) (by kernel_rfl) (by kernel_rfl) zap (za6 trivial ⟨zv7, zsr, zp9, zx9, zj2, trivial⟩) (by kernel_rfl) ?_
 intro L P' Q' hL hP hQ
 (cbv; try simp only [syT, true_and, and_true])
 obtain ⟨o1, o2, o3, o4⟩ := hok
 refine ⟨fun h1 => (by cases h1), fun _ => ⟨⟨0, ?_⟩, fun i hi => ?_⟩⟩
 · (cbv; try simp only [syT, true_and, and_true])
   subst hL
   simp only [std]
   exact ⟨Nat.le_refl _, ⟨rfl, fun _ _ => trivial, fun _ _ _ _ _ _ => rfl⟩, ⟨rfl, fun _ _ _ _ => rfl⟩, rfl, rfl, rfl, rfl, rfl, rfl, rfl, fun _ _ _ _ => trivial, fun _ _ _ _ => trivial, rfl, Nat.zero_le _⟩
 · (cbv; try simp only [syT, true_and, and_true])
   have tr : ∀ {n : Nat} {p : Prop}, p -> n.le n /\ ((∀ (k : Nat), k < n -> True) /\ ∀ (k i j : Nat), k < n -> i < 1 -> j < 2 -> True) /\ p := fun h => ⟨Nat.le_refl _, ⟨fun _ _ => trivial, fun _ _ _ _ _ _ => trivial⟩, h⟩
   refine ⟨fun h1 => ⟨?_, fun h2 => ⟨?_, fun h3 => tr ⟨?_, i + 1, ?_⟩, fun h3 => ⟨i + 1, ?_⟩⟩, fun h2 => ⟨i + 1, ?_⟩⟩, fun h1 => tr (tr ⟨?_, ⟨0, ?_⟩, fun j hj => ?_⟩)⟩
   · subst hL; exact zg3 h1
   · subst hL; exact zg3 h2
   · subst hL
     simp only [std, za8]
     have h1 : i < zgt x.pend := ze8 h1
     show yiy (zc1 x.pend (0 + i)).kd (zc1 x.pend (0 + i)).c
     rw [Nat.zero_add]
     exact o1 i h1
   · (cbv; try simp only [syT, true_and, and_true])
     subst hL
     simp only [std, za8] at h1 h3 |-
     have hlt := ze8 h1
     have hS : doL (crS x h i) (zc1 x.pend (0 + i)) = crS x h (i + 1) := by
       rw [Nat.zero_add]; exact (if_pos h3).symm
     exact ⟨Nat.le_refl _, Nat.le_refl _, ⟨rfl, fun _ _ => trivial, fun _ _ _ _ _ _ => rfl⟩, ⟨rfl, fun _ _ _ _ => rfl⟩, hS, rfl, rfl, rfl, rfl, rfl, rfl, fun _ _ _ _ => trivial, fun _ _ _ _ => trivial, zd2 i (Nat.le_trans (Nat.le_of_lt hlt) o2), hlt, zft hlt⟩
   · (cbv; try simp only [syT, true_and, and_true])
     subst hL
     simp only [std, za8] at h1 h3 |-
     have hlt := ze8 h1
     have hS : crS x h i = crS x h (i + 1) := (if_neg (by rw [h3]; decide)).symm
     exact ⟨Nat.le_refl _, ⟨rfl, fun _ _ => trivial, fun _ _ _ _ _ _ => rfl⟩, ⟨rfl, fun _ _ _ _ => rfl⟩, hS, rfl, rfl, rfl, rfl, rfl, rfl, fun _ _ _ _ => trivial, fun _ _ _ _ => trivial, zd2 i (Nat.le_trans (Nat.le_of_lt hlt) o2), hlt, zft hlt⟩
   · (cbv; try simp only [syT, true_and, and_true])
     subst hL
     simp only [std, za8] at h1 h2 |-
     have hlt := ze8 h1
     have h3 : zej h i = false := by
       have h2 := zc3 h2
       unfold zej
       have h2 : h.length <= i := h2
       rw [List.getD_eq_getElem?_getD, List.getElem?_eq_none h2]; rfl
     have hS : crS x h i = crS x h (i + 1) := (if_neg (by rw [h3]; decide)).symm
     exact ⟨Nat.le_refl _, ⟨rfl, fun _ _ => trivial, fun _ _ _ _ _ _ => rfl⟩, ⟨rfl, fun _ _ _ _ => rfl⟩, hS, rfl, rfl, rfl, rfl, rfl, rfl, fun _ _ _ _ => trivial, fun _ _ _ _ => trivial, zd2 i (Nat.le_trans (Nat.le_of_lt hlt) o2), hlt, zft hlt⟩
   · have hie : i = zgt x.pend := by
       subst hL
       exact Nat.le_antisymm hi (zc3 h1)
     subst hie
     subst hL
     exact o3
   · have hie : i = zgt x.pend := by
       subst hL
       exact Nat.le_antisymm hi (zc3 h1)
     (cbv; try simp only [syT, true_and, and_true])
     subst hie
     subst hL
     simp only [std, za8]
     exact ⟨Nat.le_refl _, Nat.le_refl _, Nat.le_refl _, rfl, ⟨rfl, fun _ _ => trivial, fun _ _ _ _ _ _ => rfl⟩, ⟨rfl, fun _ _ _ _ => rfl⟩, rfl, rfl, rfl, rfl, rfl, rfl, rfl, fun _ _ _ _ => trivial, fun _ _ _ _ => trivial, rfl, rfl, Nat.zero_le _⟩
   · have hie : i = zgt x.pend := by
       subst hL
       exact Nat.le_antisymm hi (zc3 h1)
     (cbv; try simp only [syT, true_and, and_true])
     have hsu : L Dk.sure (L (L (L crX1 x) h) i) = L2 L crSu x h := by
       subst hL; subst hie; rfl
     have hs2 : ∀ j, L Dk.sure (L (L3 L zlz x h m) j) = L2 L crSu x h := by
       subst hL; intro j; rfl
     simp only [hsu, hs2]
     refine ⟨fun g1 => ⟨?_, ?_, fun g2 => ⟨j + 1, ?_⟩, fun g2 => ⟨⟨fun g3 => ⟨?_, 0, ?_⟩, fun g3 => ⟨0, ?_⟩⟩, fun y hy => ?_⟩⟩, fun g1 => ?_⟩
     · subst hL; exact zg3 g1
     · subst hL
       simp only [std, L2, za8] at g1 |-
       exact zio (ze8 g1)
     · (cbv; try simp only [syT, true_and, and_true])
       subst hL
       simp only [std, L2, L3, za8] at g1 g2 |-
       have hlt := ze8 g1
       have hS : zg8 x h m j = zg8 x h m (j + 1) := (if_pos g2).symm
       have hX : zlz x h m j = zlz x h m (j + 1) := by unfold zlz; rw [hS]
       show (zb5 (zlz x h m j).nd).le (zb5 (zlz x h m (j + 1)).nd) /\ _
       rw [<- hX, <- hS]
       exact ⟨Nat.le_refl _, rfl, ⟨rfl, fun _ _ => trivial, fun _ _ _ _ _ _ => rfl⟩, ⟨rfl, fun _ _ _ _ => rfl⟩, rfl, rfl, rfl, rfl, rfl, rfl, rfl, fun _ _ _ _ => trivial, fun _ _ _ _ => trivial, rfl, zd2 j (Nat.le_trans (Nat.le_of_lt hlt) o3.1), hlt, zft hlt⟩
     · subst hL; exact zg3 g3
     · (cbv; try simp only [syT, true_and, and_true])
       exact tr ⟨fun _ _ _ _ => trivial, fun _ _ _ _ => trivial, fun _ _ _ _ => trivial⟩
     · (cbv; try simp only [syT, true_and, and_true])
       refine tr ⟨fun _ _ _ _ => trivial, fun _ _ _ _ => trivial, fun _ _ _ _ => trivial, ?_⟩
       subst hL
       simp only [std, L2, L3, za8] at g3 |-
       have g3 := zc3 g3
       have g3 : m.length <= (zg8 x h m j).i := g3
       unfold zh4
       rw [List.getD_eq_getElem?_getD, List.getElem?_eq_none g3]; rfl
     · (cbv; try simp only [syT, true_and, and_true])
       have hns : ∀ X : Dk, L yna ⟨L zb5 (L Dk.nd X), fun k _ => ndC L (L (L za4 (L Dk.nd X)) k)⟩ = L Dk.nd X := by
         subst hL; intro X; exact ys0 _
       simp only [hns]
       have hhas : L (L zc8 (L2 L crSu x h)) (L (L zhs (L2 L crSu x h)) (L Int.toNat (L za7 j))) = true := by
         subst hL
         simp only [std, L2, za8] at g1 |-
         exact zio (ze8 g1)
       refine ⟨Nat.le_refl _, ⟨trivial, fun _ _ => trivial, fun _ _ _ _ _ _ => trivial⟩, ⟨?_, ?_⟩, hhas, hhas, hhas, hhas, j + 1, ?_⟩
       · subst hL; exact hhas
       · subst hL; exact yq2 o4 j _
       · (cbv; try simp only [syT, true_and, and_true])
         subst hL
         simp only [std, L2, L3, za8] at g1 g2 |-
         have hlt := ze8 g1
         have hS : zg8 x h m (j + 1) = ⟨(zg8 x h m j).nd.set (crK (crSu x h) j) ⟨kFL (zg8 x h m j).nd (crK (crSu x h) j) (zh4 m (zg8 x h m j).i), kFL (zg8 x h m j).nd (crK (crSu x h) j) (zh4 m (zg8 x h m j).i)⟩, yei (zg8 x h m j).seen (crK (crSu x h) j), (zg8 x h m j).i + 1⟩ := if_neg (by show ¬ zwy (zg8 x h m j).seen (crK (crSu x h) j) = true; rw [show zwy (zg8 x h m j).seen (crK (crSu x h) j) = false from g2]; decide)
         have hl : zb5 (zlz x h m (j + 1)).nd = zb5 (zlz x h m j).nd := by
           show (zg8 x h m (j + 1)).nd.length = (zg8 x h m j).nd.length
           rw [hS]; exact List.length_set
         have hi1 : (zg8 x h m j).i <= 1000000 := Nat.le_trans (cr_i x h m j) (Nat.le_trans (Nat.le_of_lt hlt) o3.1)
         have hw : zco .i64 (za7 (zg8 x h m j).i) 1 = za7 (zg8 x h m (j + 1)).i := by
           rw [hS]; exact zd2 _ hi1
         show (zb5 (zlz x h m j).nd).le (zb5 (zlz x h m (j + 1)).nd) /\ (zb5 (zlz x h m j).nd).le (zb5 (zlz x h m (j + 1)).nd) /\ (zb5 (zlz x h m j).nd).le (zb5 (zlz x h m (j + 1)).nd) /\ (zb5 (zlz x h m j).nd).le (zb5 (zlz x h m (j + 1)).nd) /\ _ = (zg8 x h m (j + 1)).seen /\ (zb5 (zlz x h m j).nd = zb5 (zlz x h m (j + 1)).nd /\ (∀ k, k < zb5 (zlz x h m (j + 1)).nd -> True) /\ ∀ k i c, k < zb5 (zlz x h m (j + 1)).nd -> i < 1 -> c < 2 -> _ = ndC std (za4 (zg8 x h m (j + 1)).nd k) c) /\ _
         rw [hl]
         refine ⟨Nat.le_refl _, Nat.le_refl _, Nat.le_refl _, Nat.le_refl _, ?_, ⟨rfl, fun _ _ => trivial, fun q i c hq hi hc => ?_⟩, ⟨rfl, fun _ _ _ _ => rfl⟩, rfl, rfl, rfl, rfl, rfl, rfl, rfl, fun _ _ _ _ => trivial, fun _ _ _ _ => trivial, hw, zd2 j (Nat.le_trans (Nat.le_of_lt hlt) o3.1), hlt, zft hlt⟩
         · rw [hS]; rfl
         · rw [hS]
           obtain rfl : i = 0 := by omega
           exact yow (zg8 x h m j).nd (crK (crSu x h) j) _ _ hq hc
     · have hje : j = mlen (crSu x h) := by
         subst hL
         simp only [std, L2, za8] at g1
         exact Nat.le_antisymm hj (zc3 g1)
       subst hL
       subst hje
       exact tr ⟨Nat.le_refl _, Nat.le_refl _, ⟨rfl, fun _ _ => trivial, fun _ _ _ _ _ _ => rfl⟩, rfl, rfl, rfl, rfl, rfl, rfl, rfl, rfl⟩
theorem zsv : zbt Try.prog (zsw std) := by
 intro raw ob T hT hp
 unfold zsw at hT
 simp only at hT
 repeat' split at hT
 all_goals first | (cases hT; done) | (cases hT; exact yhj _ _ _ hp)
end Sy
end Go.Proofs.Ytogomcfgfnlclaa
namespace Go.Proofs.Ytogomcfgfnlclaa
namespace Sy
open Go Go.RowKit
set_option linter.unusedVariables false
def DW (W : World) : Nat -> Prop := fun b => b < W.heap.size
structure zfj {H : Type} (enc : TypeId × Value -> H) (P : Program) (W : World) (t : TypeId) (α : Type) (sz : Nat) (av : α -> Nat -> AV) (ok : α -> Prop) : Prop where
 size : P.cellsOf t = sz
 go : ∀ fuel cs x, DataW.trod enc P W 0 (fun _ => true) true fuel t cs = some x -> ∃ y : α, ok y /\ cs.length = sz /\ ∀ j, j < sz -> ∃ v, cs[j]? = some v /\ one v /\ R W.heap (DW W) zar (av y j) v
structure zve {H : Type} (enc : TypeId × Value -> H) (P : Program) (W : World) (fs : List Field) (off : Nat) (α : Type) (sz : Nat) (av : α -> Nat -> AV) (ok : α -> Prop) : Prop where
 go : ∀ fuel (cs : List Value) (xs : List (DataW H × List MemPlace)), (∀ (i : Nat) (f : Field), fs[i]? = some f -> ∃ x, DataW.trod enc P W 0 (fun _ => true) true fuel f.type ((cs.drop f.offset).take (P.cellsOf f.type)) = some x) -> ∃ y : α, ok y /\ ∀ j, j < sz -> ∃ v, cs[off + j]? = some v /\ one v /\ R W.heap (DW W) zar (av y j) v
theorem sgl {h : Array Obj} {D : Nat -> Prop} {f : Nat -> AV} {v : Value} (h1 : one v) (h2 : R h D zar (f 0) v) : ∀ j, j < 1 -> ∃ u, [v][j]? = some u /\ one u /\ R h D zar (f j) u := by
 intro j hj
 obtain rfl : j = 0 := by omega
 exact ⟨v, rfl, h1, h2⟩
theorem ybz {α : Type} (p : Nat -> α -> Prop) : ∀ n, (∀ i, i < n -> ∃ y, p i y) -> ∃ l : List α, l.length = n /\ ∀ i, i < n -> ∃ y, l[i]? = some y /\ p i y
 | 0, _ => ⟨[], rfl, fun i hi => by omega⟩
 | m + 1, h => by
   obtain ⟨l, e1, e2⟩ := ybz p m (fun i hi => h i (by omega))
   obtain ⟨y, hy⟩ := h m (by omega)
   refine ⟨l ++ [y], by simp [e1], fun i hi => ?_⟩
   by_cases hi' : i < m
   · obtain ⟨z, z1, z2⟩ := e2 i hi'
     exact ⟨z, by rw [List.getElem?_append_left (by omega)]; exact z1, z2⟩
   · have : i = m := by omega
     subst this
     exact ⟨y, by rw [<- e1]; simp, hy⟩
section
variable {H : Type} {enc : TypeId × Value -> H} {P : Program} {W : World}
theorem zhp {t : TypeId} {k : IntKind} (ht : P.underlying t = some (.int k)) (hc : P.cellsOf t = 1) : zfj enc P W t Int 1 (fun n _ => .int k n) (fun n => (Lit.int k n).wf = true) := by
 refine ⟨hc, fun fuel cs x h => ?_⟩
 obtain ⟨n, rfl, rfl, hw⟩ := DataW.trod_int ht h
 exact ⟨n, hw, rfl, sgl rfl (.int k n)⟩
theorem zmf {t : TypeId} (ht : P.underlying t = some .bool) (hc : P.cellsOf t = 1) : zfj enc P W t Bool 1 (fun b _ => .bool b) (fun _ => True) := by
 refine ⟨hc, fun fuel cs x h => ?_⟩
 obtain ⟨b, rfl, rfl⟩ := DataW.trod_bool ht h
 exact ⟨b, trivial, rfl, sgl rfl (.bool b)⟩
theorem zpt {t : TypeId} (ht : P.underlying t = some .string) (hc : P.cellsOf t = 1) : zfj enc P W t (List UInt8) 1 (fun l _ => .str l) (fun l => l.length <= maxLen) := by
 refine ⟨hc, fun fuel cs x h => ?_⟩
 obtain ⟨s, rfl, rfl, hs⟩ := DataW.trod_string ht h
 exact ⟨s.data.toList, by rw [Array.length_toList]; exact hs, rfl, sgl rfl (.str _ _ rfl)⟩
def avL {α : Type} (av : α -> Nat -> AV) (l : List α) (i j : Nat) : AV := match l[i]? with | some y => av y j | none => .dead
theorem opens_slice {t e : TypeId} {α : Type} {sz : Nat} {av : α -> Nat -> AV} {ok : α -> Prop} (ht : P.underlying t = some (.slice e)) (hc : P.cellsOf t = 1) (he : zfj enc P W e α sz av ok) (hs : 0 < sz) :
   zfj enc P W t (List α) 1 (fun l _ => .lst sz l.length (avL av l)) (fun l => l.length <= maxLen /\ ∀ y ∈ l, ok y) := by
 refine ⟨hc, fun fuel cs x h => ?_⟩
 rcases DataW.trod_slice ht h with ⟨rfl, rfl⟩ | ⟨a, len, cap, elems, rest, n, _, rfl, rfl, hb, hl, hm, hlen, hel, _, _⟩
 · exact ⟨[], ⟨Nat.zero_le _, fun y hy => by cases hy⟩, rfl, sgl rfl (.lst0 _ _ _ _ (fun _ => rfl))⟩
 · have each : ∀ i, i < len -> ∃ y : α, ok y /\ ∀ j, j < sz -> ∃ v, W.cell? ((a.add (i * sz)).add j) = some v /\ one v /\ R W.heap (DW W) zar (av y j) v := by
     intro i hi
     have h1 := hel i hi
     rw [he.size] at h1
     obtain ⟨z, hz⟩ : ∃ z, elems[i]? = some z := ⟨elems[i], by simp [hlen, hi]⟩
     rw [hz, Option.bind_eq_some_iff] at h1
     obtain ⟨cs', h2, h3⟩ := h1
     obtain ⟨y, y1, y2, y3⟩ := he.go _ _ _ h3
     refine ⟨y, y1, fun j hj => ?_⟩
     obtain ⟨v, v1, v2, v3⟩ := y3 j hj
     exact ⟨v, by rw [(World.cells?_some h2).2.2 j hj]; exact v1, v2, v3⟩
   obtain ⟨l, hl1, hl2⟩ : ∃ l : List α, l.length = len /\ ∀ i, i < len -> ∃ y, l[i]? = some y /\ ok y /\ ∀ j, j < sz -> ∃ v, W.cell? ((a.add (i * sz)).add j) = some v /\ one v /\ R W.heap (DW W) zar (av y j) v :=
     ybz (fun i y => ok y /\ ∀ j, j < sz -> ∃ v, W.cell? ((a.add (i * sz)).add j) = some v /\ one v /\ R W.heap (DW W) zar (av y j) v) len each
   refine ⟨l, ⟨by omega, fun y hy => ?_⟩, rfl, sgl rfl ?_⟩
   · obtain ⟨i, hi, rfl⟩ := List.getElem_of_mem hy
     obtain ⟨z, z1, z2, _⟩ := hl2 i (by omega)
     rw [List.getElem?_eq_getElem hi] at z1
     cases z1; exact z2
   · show R W.heap (DW W) zar (.lst sz l.length (avL av l)) _
     by_cases h0 : len = 0
     · subst h0; rw [hl1]; exact .lst0 _ _ _ _ (fun h => by cases h)
     · have cell : ∀ i j, i < len -> j < sz -> ∃ v, hcell W.heap a.block (a.off + i * sz + j) = some v /\ one v /\ R W.heap (DW W) zar (avL av l i j) v := by
         intro i j hi hj
         obtain ⟨y, y1, _, y3⟩ := hl2 i hi
         obtain ⟨v, v1, v2, v3⟩ := y3 j hj
         refine ⟨v, ?_, v2, by rw [avL, y1]; exact v3⟩
         rw [<- zel]
         have hsp : ∀ p : Addr, W.cell? p = some v -> p.spot = none := by
           intro p hp
           unfold World.cell? at hp
           split at hp
           · split at hp
             · cases hp
             · rename_i hn; simpa using hn
           · cases hp
         have h1 := hsp _ v1
         have e : (a.add (i * sz)).add j = ⟨a.block, a.off + i * sz + j, none⟩ := by
           have hb1 : ((a.add (i * sz)).add j).block = a.block := by simp only [Addr.add]; split <;> split <;> rfl
           have hb2 : ((a.add (i * sz)).add j).off = a.off + i * sz + j := by simp only [Addr.add]; split <;> split <;> simp_all
           cases hq : (a.add (i * sz)).add j with
           | mk b o s => rw [hq] at h1 hb1 hb2; simp_all
         rw [<- e]; exact v1
       have hsp0 : a.spot = none := by
         obtain ⟨y, _, _, y3⟩ := hl2 0 (by omega)
         obtain ⟨v, v1, _⟩ := y3 0 hs
         rw [Nat.zero_mul] at v1
         simp only [Addr.add, if_true] at v1
         unfold World.cell? at v1
         split at v1
         · split at v1
           · cases v1
           · rename_i hn; simpa using hn
         · cases v1
       have hD : DW W a.block := by
         obtain ⟨v, v1, _⟩ := cell 0 0 (by omega) hs
         refine Classical.byContradiction fun hn => ?_
         unfold hcell at v1
         rw [Array.getElem?_eq_none (by unfold DW at hn; omega)] at v1
         cases v1
       have ea : a = ⟨a.block, a.off, none⟩ := by cases a; simp_all
       rw [ea, <- hl1]
       refine .lst sz l.length (avL av l) a.block a.off cap (fun i j => (hcell W.heap a.block (a.off + i * sz + j)).getD undef) hD (by omega) (fun i j hi hj => ?_) (fun i j hi hj => ?_) (fun i j hi hj => ?_)
       all_goals
         obtain ⟨v, v1, v2, v3⟩ := cell i j (by omega) hj
         rw [v1]
         first | rfl | exact v2 | exact v3
theorem zws (off : Nat) : zve enc P W [] off Unit 0 (fun _ _ => .dead) (fun _ => True) := ⟨fun _ _ _ _ => ⟨(), trivial, fun j hj => by omega⟩⟩
theorem zd9 {f : Field} {fs : List Field} {off : Nat} {α β : Type} {sz sz' : Nat} {av : α -> Nat -> AV} {av' : β -> Nat -> AV} {ok : α -> Prop} {ok' : β -> Prop} (ho : f.offset = off) (hf : zfj enc P W f.type α sz av ok) (hr : zve enc P W fs (off + sz) β sz' av' ok') :
   zve enc P W (f :: fs) off (α × β) (sz + sz') (fun y j => if j < sz then av y.1 j else av' y.2 (j - sz)) (fun y => ok y.1 /\ ok' y.2) := by
 refine ⟨fun fuel cs xs h => ?_⟩
 obtain ⟨x, hx⟩ := h 0 f rfl
 obtain ⟨y, y1, y2, y3⟩ := hf.go _ _ _ hx
 obtain ⟨z, z1, z2⟩ := hr.go fuel cs xs (fun i g hg => h (i + 1) g hg)
 refine ⟨(y, z), ⟨y1, z1⟩, fun j hj => ?_⟩
 by_cases hlt : j < sz
 · obtain ⟨v, v1, v2, v3⟩ := y3 j hlt
   refine ⟨v, ?_, v2, by simp only [if_pos hlt]; exact v3⟩
   rw [hf.size, List.getElem?_take, if_pos hlt, List.getElem?_drop, ho] at v1
   exact v1
 · obtain ⟨v, v1, v2, v3⟩ := z2 (j - sz) (by omega)
   refine ⟨v, ?_, v2, by simp only [if_neg hlt]; exact v3⟩
   rw [<- v1]; congr 1; omega
theorem zps {t : TypeId} {fs : Array Field} {α : Type} {sz : Nat} {av : α -> Nat -> AV} {ok : α -> Prop} (ht : P.underlying t = some (.struct fs)) (hc : P.cellsOf t = sz) (hf : zve enc P W fs.toList 0 α sz av ok) : zfj enc P W t α sz av ok := by
 refine ⟨hc, fun fuel cs x h => ?_⟩
 obtain ⟨xs, n, rfl, rfl, hl, hx, hfs⟩ := DataW.trod_struct ht h
 obtain ⟨y, y1, y2⟩ := hf.go n cs xs (fun i f hi => by
   have := hfs i f (by simpa using hi)
   have hlt : i < xs.length := by rw [hx]; simpa using (List.getElem?_eq_some_iff.1 hi).1
   exact ⟨xs[i], by rw [this]; simp [hlt]⟩)
 exact ⟨y, y1, by omega, fun j hj => by obtain ⟨v, v1, v2⟩ := y2 j hj; exact ⟨v, by simpa using v1, v2⟩⟩
theorem zfj.map {t : TypeId} {α β : Type} {sz : Nat} {av : α -> Nat -> AV} {av' : β -> Nat -> AV} {ok : α -> Prop} {ok' : β -> Prop} (O : zfj enc P W t α sz av ok) (f : α -> β) (h1 : ∀ y j, j < sz -> av y j = av' (f y) j) (h2 : ∀ y, ok y -> ok' (f y)) : zfj enc P W t β sz av' ok' := by
 refine ⟨O.size, fun fuel cs x h => ?_⟩
 obtain ⟨y, y1, y2, y3⟩ := O.go fuel cs x h
 refine ⟨f y, h2 y y1, y2, fun j hj => ?_⟩
 obtain ⟨v, v1, v2, v3⟩ := y3 j hj
 exact ⟨v, v1, v2, by rw [<- h1 y j hj]; exact v3⟩
theorem open_one {t : TypeId} {α : Type} {av : α -> Nat -> AV} {ok : α -> Prop} {v : Value} {d : DataW H} {p : List MemPlace} (O : zfj enc P W t α 1 av ok) (hv : v.cells = #[v]) (h : DataW.Trod enc P W 0 (fun _ => true) true t v d p) :
   ∃ y, ok y /\ R W.heap (DW W) zar (av y 0) v := by
 obtain ⟨fuel, h⟩ := h
 obtain ⟨y, y1, y2, y3⟩ := O.go _ _ _ h
 obtain ⟨u, u1, u2, u3⟩ := y3 0 (by omega)
 rw [hv] at u1
 simp at u1
 subst u1
 exact ⟨y, y1, u3⟩
end
theorem yn0 {P : Program} {f : FuncId} {xs ys : List AV} {r : AV} (h : ∀ h D vs, RL h D zar xs vs -> RL h D zar ys vs) (ha : zbk P f ys r) : zbk P f xs r := fun D w vs hD hx => ha D w vs hD (h _ _ _ hx)
end Sy
end Go.Proofs.Ytogomcfgfnlclaa
namespace Go.Proofs.Ytogomcfgfnlclaa
namespace Sy
open Go Go.RowKit
set_option maxRecDepth 100000
set_option linter.unusedSimpArgs false
set_option linter.unusedVariables false
def zoy (n : Int) : Nat := (n.tmod 3000).toNat
def yqp (n : Int) : Prop := 0 <= n /\ n < 65536
structure Vw (α : Type) where
 sz : Nat
 cell : za9 -> α -> Nat -> AV
 rd : (Nat -> AV) -> α
 ok : (Nat -> AV) -> Prop
 d : α
def yqx {α : Type} (V : Vw α) (l : List α) (i : Nat) : α := l.getD i V.d
def lenW {α : Type} (l : List α) : Nat := l.length
def getW {α : Type} (L : za9) (V : Vw α) (l : List α) : Nat -> Nat -> AV := fun i j => V.cell L (L (L (yqx V) l) i) j
def lstW {α : Type} (L : za9) (V : Vw α) (l : List α) : AV := .lst V.sz (L lenW l) (getW L V l)
theorem yks {α : Type} {V : Vw α} {l : List α} {i : Nat} (h : i < l.length) : yqx V l i = l[i] := by
 rw [yqx, List.getD_eq_getElem?_getD, List.getElem?_eq_getElem h]; rfl
def isS (x : AV) : Prop := ∃ s, x = .str s
end Sy
end Go.Proofs.Ytogomcfgfnlclaa
namespace Go.Proofs.Ytogomcfgfnlclaa
namespace Sy
open Go Go.RowKit
theorem zfj.turn {H : Type} {enc : TypeId × Value -> H} {P : Program} {W : World} {t : TypeId} {α β : Type} {sz : Nat} {av : α -> Nat -> AV} {av' : β -> Nat -> AV} {ok : α -> Prop} {ok' : β -> Prop} (O : zfj enc P W t α sz av ok) (f : α -> β) (h2 : ∀ y, ok y -> ok' (f y))
   (h1 : ∀ y, ok y -> ∀ j, j < sz -> ∀ v, R W.heap (DW W) zar (av y j) v -> R W.heap (DW W) zar (av' (f y) j) v) : zfj enc P W t β sz av' ok' := by
 refine ⟨O.size, fun fuel cs x h => ?_⟩
 obtain ⟨y, y1, y2, y3⟩ := O.go fuel cs x h
 refine ⟨f y, h2 y y1, y2, fun j hj => ?_⟩
 obtain ⟨v, v1, v2, v3⟩ := y3 j hj
 exact ⟨v, v1, v2, h1 y y1 j hj v v3⟩
end Sy
end Go.Proofs.Ytogomcfgfnlclaa
namespace Go.Proofs.Ytogomcfgfnlclaa
namespace Sy
open Go Go.RowKit
set_option maxRecDepth 100000
set_option linter.unusedSimpArgs false
set_option linter.unusedVariables false
def DkS.used (L : za9) : DkS -> Int
 | .c _ x _ => L slen x
 | _ => 0
def DkS.usable : DkS -> Prop
 | .a _ => True
 | .c _ x _ => zbm x
 | _ => False
def zt8 (L : za9) : zeb := (17, fun raw ob => match raw with
 | [.ref id 0] => match yd2 ob id with
   | some sh => some ⟨[.ref 500000 0], dkO 500005 sh, L DkS.usable sh, .int .i64 (sh.used L), dkO 500005 sh⟩
   | _ => none
 | _ => none)
theorem zp5 : zbt Try.prog (zt8 std) := by
 intro raw ob T hT hp
 unfold zt8 at hT
 simp only at hT
 repeat' split at hT
 all_goals first | (cases hT; done) | skip
 rename_i sh hsh
 cases hT
 intro D w μ vs hD hxs hdom hobs hinj hown hg hgb
 obtain ⟨v, rfl, r1⟩ := zfw hxs
 cases r1 with
 | ref _ _ b z m hμ =>
   cases sh with
   | b k x s => exact hp.elim
   | d k x s y t => exact hp.elim
   | a k =>
     obtain ⟨C, t, fr, hb, hz, hf, ho, hC1, hC2⟩ := hobs 500000 _ _ rfl hμ
     obtain ⟨v1, hv1⟩ : ∃ v1, C[1]? = some v1 := ⟨C[1]'(by rw [<- hC1]; simp), by simp⟩
     have r2 : R w.heap D μ (.mp 500001) v1 := hC2 1 _ v1 rfl hv1
     cases r2 with
     | mp _ bm zm mm hμm =>
       obtain ⟨es, clock, kf, hbm, hn, hks, hnd, hr⟩ := hobs 500001 _ _ rfl hμm
       have hes : es = #[] := Array.eq_empty_of_size_eq_zero hn
       subst hes
       refine ze9 (fn := Try.f17) rfl rfl (by kernel_rfl) ((yri w b bm clock (by rw [zel, zao hb]; exact hv1) hbm).mono ?_)
       rintro e w' ⟨rfl, B⟩
       exact ⟨_, D, μ, zes hD hdom hobs hinj hown B (fun b h => h) (fun b h => .inl h) (.int _ _)⟩
   | c k x s =>
     obtain ⟨C, t, fr, hb, hz, hf, ho, hC1, hC2⟩ := hobs 500000 _ _ rfl hμ
     obtain ⟨v1, hv1⟩ : ∃ v1, C[1]? = some v1 := ⟨C[1]'(by rw [<- hC1]; simp), by simp⟩
     have r2 : R w.heap D μ (.mp 500001) v1 := hC2 1 _ v1 rfl hv1
     cases r2 with
     | mp _ bm zm mm hμm =>
       obtain ⟨e, clock, s1, hbm, hst, hk, hs, rx⟩ := zpw (hobs 500001 _ _ rfl hμm)
       generalize hev : e.val = ev at rx
       cases rx with
       | ref _ _ bn zn mn hμn =>
         obtain ⟨C', t', fr', hb', hz', hf', ho', hC1', hC2'⟩ := hobs 500003 _ _ rfl hμn
         obtain ⟨v2, hv2⟩ : ∃ v2, C'[0]? = some v2 := ⟨C'[0]'(by rw [<- hC1']; simp), by simp⟩
         have r3 : R w.heap D μ (.str x) v2 := hC2' 0 _ v2 rfl hv2
         obtain ⟨s2, rfl, hs2⟩ := r3.inv_str
         have hsh : x.length <= 1000 := hp
         have hsz : s2.size = x.length := by rw [<- hs2]; simp
         refine ze9 (fn := Try.f17) rfl rfl (by kernel_rfl) ((yrh w b bm bn clock e s2 (by rw [zel, zao hb]; exact hv1) hbm hst hev (by rw [zel, zao hb']; exact hv2)).mono ?_)
         rintro e w' ⟨rfl, B⟩
         have he : wrap64 (s2.size : Int) = slen x := by
           unfold wrap64 slen
           omega
         rw [he]
         exact ⟨_, D, μ, zes hD hdom hobs hinj hown B (fun b h => h) (fun b h => .inl h) (.int _ _)⟩
def wrO (L : za9) (x : List UInt8) : DkS -> List (Nat × Ob)
 | .a k => [(500000, zst (.sl 17 4 0 1) (L inc k)), (500001, .mapl .s [(.s nmA, .ref 64 0)]), (500002, .mapl .s []), (64, zd1 x []), (17, yft nmA)]
 | .c k y s => [(500000, zst (.sl 17 4 0 1) (L inc k)), (500001, .mapl .s [(.s nmA, .ref 500003 0), (.s nmB, .ref 64 0)]), (500002, .mapl .s [(.s nmA, .ref 500003 0)]), (500003, zd1 y s), (64, zd1 x []), (17, yft nmB)]
 | _ => []
def yr9 : DkS -> List UInt8
 | .a _ => nmA
 | _ => nmB
def yqm (x : List UInt8) : DkS -> Prop
 | .a k => zcq k /\ x.length <= 50
 | .c k y s => zcq k /\ x.length <= 50 /\ y.length <= 50
 | _ => False
def zrf (L : za9) : zeb := (10, fun raw ob => match raw with
 | [.ref id 0, .str _, .str x] => match yd2 ob id with
   | some sh => some ⟨[.ref 500000 0, .str (yr9 sh), .str x], dkO 500005 sh, L2 L yqm x sh, .int .i64 0, wrO L x sh⟩
   | _ => none
 | _ => none)
theorem yj6 (k : Int) (x : List UInt8) (hk : zcq k) (hx : x.length <= 50) : zat Try.prog 10 [.ref 500000 0, .str nmA, .str x] (dkO 500005 (.a k)) (.int .i64 0) (wrO std x (.a k)) := by
 refine zad (T := tt) (S := fun L => zaz [yf4 L, zmh L] [ykr, zt8 L, ziu L, zje]) (lo := noA) (lb := noA) 8 (fn := Try.f10) (xs := fun L => [.ref 500000 0, .str nmA, .str x]) (rts := fun _ => [.int .i64 0]) (O := fun L => dkO 500005 (.a k)) (O1 := fun L => wrO L x (.a k))
   rfl rfl (by kernel_rfl) (by kernel_rfl) (by kernel_rfl) zap (za6 ⟨zto, zhr, trivial⟩ ⟨zkl, zp5, zgn, zk1, trivial⟩) (by kernel_rfl) ?_
 intro L P' Q' hL hP hQ
 (cbv; try simp only [syT, true_and, and_true])
 subst hL
 have e0 : ine 0 0 = false := by decide
 have e1 : zh3 [97] = true := by decide
 have e2 : ile 16 (Int.ofNat 0) = false := by decide
 have e3 : ilt 100 (zco .i64 (slen x) 0) = false := by
   rw [zl3]
   unfold zco slen
   rw [zgr]
   omega
 have e4 : zbm x := by unfold zbm; omega
 have e5 : zbm [97] := by unfold zbm; decide
 simp [std, e0, e1, e2, e3, e4, e5, DkS.usable, DkS.k, hk]
 decide
theorem yj5 (k : Int) (x y s : List UInt8) (hk : zcq k) (hx : x.length <= 50) (hy : y.length <= 50) : zat Try.prog 10 [.ref 500000 0, .str nmB, .str x] (dkO 500005 (.c k y s)) (.int .i64 0) (wrO std x (.c k y s)) := by
 refine zad (T := tt) (S := fun L => zaz [yf4 L, zmh L] [ykr, zt8 L, ziu L, zje]) (lo := noA) (lb := noA) 8 (fn := Try.f10) (xs := fun L => [.ref 500000 0, .str nmB, .str x]) (rts := fun _ => [.int .i64 0]) (O := fun L => dkO 500005 (.c k y s)) (O1 := fun L => wrO L x (.c k y s))
   rfl rfl (by kernel_rfl) (by kernel_rfl) (by kernel_rfl) zap (za6 ⟨zto, zhr, trivial⟩ ⟨zkl, zp5, zgn, zk1, trivial⟩) (by kernel_rfl) ?_
 intro L P' Q' hL hP hQ
 (cbv; try simp only [syT, true_and, and_true])
 subst hL
 have e0 : ine 0 0 = false := by decide
 have e1 : zh3 [98] = true := by decide
 have e2 : ile 16 (Int.ofNat 1) = false := by decide
 have e3 : ilt 100 (zco .i64 (slen x) (slen y)) = false := by
   rw [zl3]
   unfold zco slen
   rw [zgr]
   omega
 have e4 : zbm x := by unfold zbm; omega
 have e6 : zbm y := by unfold zbm; omega
 have e5 : zbm [98] := by unfold zbm; decide
 simp [std, e0, e1, e2, e3, e4, e5, e6, DkS.usable, DkS.k, hk]
 decide
theorem zvg : zbt Try.prog (zrf std) := by
 intro raw ob T hT hp
 unfold zrf at hT
 simp only at hT
 repeat' split at hT
 all_goals first | (cases hT; done) | skip
 rename_i x _ sh hsh
 cases hT
 have hp : yqm x sh := hp
 cases sh with
 | a k => exact yj6 k x hp.1 hp.2
 | b k y s => exact hp.elim
 | c k y s => exact yj5 k x y s hp.1 hp.2.1 hp.2.2
 | d k y s z t => exact hp.elim
def zyq (L : za9) : zeb := (13, fun raw ob => match raw with
 | [.ref id 0, .str _] => match yd2 ob id with
   | some (.b k x s) => some ⟨[.ref 500000 0, .str nmA], dkO 500005 (.b k x s), L zcq k, .int .i64 0, dkO 500005 (.b (L inc k) x x)⟩
   | _ => none
 | _ => none)
theorem ynz (k : Int) (x s : List UInt8) (hk : zcq k) : zat Try.prog 13 [.ref 500000 0, .str nmA] (dkO 500005 (.b k x s)) (.int .i64 0) (dkO 500005 (.b (inc k) x x)) := by
 refine zad (T := tt) (S := fun L => zaz [] [zna, ziu L]) (lo := noA) (lb := noA) 8 (fn := Try.f13) (xs := fun L => [.ref 500000 0, .str nmA]) (rts := fun _ => [.int .i64 0]) (O := fun L => dkO 500005 (.b k x s)) (O1 := fun L => dkO 500005 (.b (L inc k) x x))
   rfl rfl (by kernel_rfl) (by kernel_rfl) (by kernel_rfl) zap (za6 trivial ⟨zm5, zgn, trivial⟩) (by kernel_rfl) ?_
 intro L P' Q' hL hP hQ
 (cbv; try simp only [syT, true_and, and_true])
 subst hL
 have e0 : ieq 0 0 = true := by decide
 simp [std, e0, DkS.k, hk]
theorem zys : zbt Try.prog (zyq std) := by
 intro raw ob T hT hp
 unfold zyq at hT
 simp only at hT
 repeat' split at hT
 all_goals first | (cases hT; done) | (cases hT; exact ynz _ _ _ hp)
def sdO (k : Int) (x s : List UInt8) : List (Nat × Ob) := [(500000, zv8 500001 18 .nils k), (500001, .mapl .s [(.s nmA, .ref 500003 0)]), (18, .mapl .s [(.s nmA, .ref 500003 0)]), (500003, zd1 x s)]
def zz7 (L : za9) : zeb := (15, fun raw ob => match raw with
 | [.ref id 0] => match yd2 ob id with
   | some (.b k x s) => some ⟨[.ref 500000 0], dkO 500005 (.b k x s), L zcq k, .int .i64 0, sdO (L inc k) x s⟩
   | _ => none
 | _ => none)
theorem yoc (k : Int) (x s : List UInt8) (hk : zcq k) : zat Try.prog 15 [.ref 500000 0] (dkO 500005 (.b k x s)) (.int .i64 0) (sdO (inc k) x s) := by
 refine zad (T := tt) (S := fun L => zaz [] [ykr, ziu L, zjs]) (lo := noA) (lb := noA) 8 (fn := Try.f15) (xs := fun L => [.ref 500000 0]) (rts := fun _ => [.int .i64 0]) (O := fun L => dkO 500005 (.b k x s)) (O1 := fun L => sdO (L inc k) x s)
   rfl rfl (by kernel_rfl) (by kernel_rfl) (by kernel_rfl) zap (za6 trivial ⟨zkl, zgn, zle, trivial⟩) (by kernel_rfl) ?_
 intro L P' Q' hL hP hQ
 (cbv; try simp only [syT, true_and, and_true])
 subst hL
 have e0 : ieq 0 0 = true := by decide
 simp [std, e0, DkS.k, hk]
theorem zz8 : zbt Try.prog (zz7 std) := by
 intro raw ob T hT hp
 unfold zz7 at hT
 simp only at hT
 repeat' split at hT
 all_goals first | (cases hT; done) | (cases hT; exact yoc _ _ _ hp)
def yah : zeb := (14, fun raw ob => match raw with
 | [.ref id 0, .str _] => match yd2 ob id with
   | some (.c k x s) => some ⟨[.ref 500000 0, .str nmA], dkO 500005 (.c k x s), True, .tup [.str x, .int .i64 0], dkO 500005 (.c k x s)⟩
   | _ => none
 | _ => none)
theorem yom (k : Int) (x s : List UInt8) : zat Try.prog 14 [.ref 500000 0, .str nmA] (dkO 500005 (.c k x s)) (.tup [.str x, .int .i64 0]) (dkO 500005 (.c k x s)) := by
 refine zad (T := tt) (S := fun L => zaz [] [zna]) (lo := noA) (lb := noA) 8 (fn := Try.f14) (xs := fun L => [.ref 500000 0, .str nmA]) (rts := fun _ => [.str x, .int .i64 0]) (O := fun L => dkO 500005 (.c k x s)) (O1 := fun L => dkO 500005 (.c k x s))
   rfl rfl (by kernel_rfl) (by kernel_rfl) (by kernel_rfl) zap (za6 trivial ⟨zm5, trivial⟩) (by kernel_rfl) ?_
 intro L P' Q' hL hP hQ
 (cbv; try simp only [syT, true_and, and_true])
 subst hL
 have e0 : ine 0 0 = false := by decide
 simp [std, e0]
theorem yaj : zbt Try.prog yah := by
 intro raw ob T hT hp
 unfold yah at hT
 simp only at hT
 repeat' split at hT
 all_goals first | (cases hT; done) | (cases hT; exact yom _ _ _)
def zoq : zeb := (34, fun raw ob => match raw with
 | [.mp n] => match ob n with
   | some (.mapl _ [(_, .ref i _)]) => some ⟨[.mp 500001], yie (zbj (ob i)).1 (zbj (ob i)).2, True, .fn 48 [] [.ref 1 0], zb9 [(1, .box 60 [.mp 500001])] (yie (zbj (ob i)).1 (zbj (ob i)).2)⟩
   | _ => none
 | _ => none)
theorem yhh (x s : List UInt8) : zat Try.prog 34 [.mp 500001] (yie x s) (.fn 48 [] [.ref 1 0]) (zb9 [(1, .box 60 [.mp 500001])] (yie x s)) := by
 refine zad (T := tt) (S := fun L => zaz [] []) (lo := noA) (lb := noA) 8 (fn := Try.f34) (xs := fun L => [.mp 500001]) (rts := fun _ => [.fn 48 [] [.ref 1 0]]) (O := fun L => yie x s) (O1 := fun L => zb9 [(1, .box 60 [.mp 500001])] (yie x s))
   rfl rfl (by kernel_rfl) (by kernel_rfl) (by kernel_rfl) zap (za6 trivial trivial) (by kernel_rfl) ?_
 intro L P' Q' hL hP hQ
 (cbv; try simp only [syT, true_and, and_true])
theorem zmy : zbt Try.prog zoq := by
 intro raw ob T hT hp
 unfold zoq at hT
 simp only at hT
 repeat' split at hT
 all_goals first | (cases hT; done) | (cases hT; exact yhh _ _)
def zs7 : zeb := (12, fun raw ob => match raw with
 | [.ref id 0] => match yd2 ob id with
   | some (.c k x s) => some ⟨[.ref 500000 0], dkO 500005 (.c k x s), True, .lst 1 1 (fun _ _ => .str nmA), dkO 500005 (.c k x s)⟩
   | _ => none
 | _ => none)
theorem ykx (k : Int) (x s : List UInt8) : zat Try.prog 12 [.ref 500000 0] (dkO 500005 (.c k x s)) (.lst 1 1 (fun _ _ => .str nmA)) (dkO 500005 (.c k x s)) := by
 refine zad (T := tt) (S := fun L => zaz [] [ykr, zoq, zjg]) (lo := noA) (lb := noA) 8 (fn := Try.f12) (xs := fun L => [.ref 500000 0]) (rts := fun _ => [.lst 1 1 (fun _ _ => .str nmA)]) (O := fun L => dkO 500005 (.c k x s)) (O1 := fun L => dkO 500005 (.c k x s))
   rfl rfl (by kernel_rfl) (by kernel_rfl) (by kernel_rfl) zap (za6 trivial ⟨zkl, zmy, zk6, trivial⟩) (by kernel_rfl) ?_
 intro L P' Q' hL hP hQ
 (cbv; try simp only [syT, true_and, and_true])
 subst hL
 have e0 : ine 0 0 = false := by decide
 simp [std, e0]
theorem zwx : zbt Try.prog zs7 := by
 intro raw ob T hT hp
 unfold zs7 at hT
 simp only at hT
 repeat' split at hT
 all_goals first | (cases hT; done) | (cases hT; exact ykx _ _ _)
def yb5 (x s : List UInt8) (i : Nat) : List UInt8 := if i = 0 then x else s
def isZ (i : Nat) : Bool := decide (i = 0)
def crA (L : za9) (k : Int) (x s y t : List UInt8) : Nat -> St -> Option Ann := fun id st => match id with
 | 0 => some ⟨Nat, fun i => [(21, .int .i64 (L za7 i))], fun _ => [], [0, 1, 2, 19, 20], [500000, 500001, 500002, 500003, 500004, 500005], fun i => L (fun i => i <= 1) i, fun i => L (fun (i : Nat) => 1 - i) i⟩
 | 2 => some ⟨Nat, fun i => [(51, .int .i64 (L za7 i)), (9, .int .i64 (L za7 i))], fun i => [(500000, zst (.sl 500005 4 0 1) k), (500001, .mapl .s [(.s nmA, .ref 500003 0), (.s nmB, .ref 500004 0)]), (500002, .mapl .s [(.s nmA, .ref 500003 0)]), (500003, .box 68 [.str (L3 L yb5 x s i), .str s]), (500004, zd1 y t), (43, .mapq (L isZ i))], [0, 2, 8, 49, 50], [500005], fun i => L (fun i => i <= 1) i, fun i => L (fun (i : Nat) => 1 - i) i⟩
 | _ => none
def crO (k : Int) (s : List UInt8) : List (Nat × Ob) := [(500000, zv8 19 500002 .nils k), (19, .mapl .s [(.s nmA, .ref 500003 0)]), (500002, .mapl .s [(.s nmA, .ref 500003 0)]), (500003, zd1 s s)]
def zsu (L : za9) : zeb := (18, fun raw ob => match raw with
 | [.ref id 0, .nils, .nils] => match yd2 ob id with
   | some (.d k x s y t) => some ⟨[.ref 500000 0, .nils, .nils], dkO 500005 (.d k x s y t), L zbm s, .tup [], crO k s⟩
   | _ => none
 | _ => none)
theorem ym7 (k : Int) (x s y t : List UInt8) (hs : zbm s) : zat Try.prog 18 [.ref 500000 0, .nils, .nils] (dkO 500005 (.d k x s y t)) (.tup []) (crO k s) := by
 refine zad (T := tt) (S := fun L => zaz [] [yq1, zoq, zjg, yc5 L, zjs]) (lo := fun L => crA L k x s y t) (lb := noA) 12 (fn := Try.f18) (xs := fun L => [.ref 500000 0, .nils, .nils]) (rts := fun _ => []) (O := fun L => dkO 500005 (.d k x s y t)) (O1 := fun L => crO k s)
   rfl rfl (by kernel_rfl) (by kernel_rfl) (by kernel_rfl) zap (za6 trivial ⟨zsq, zmy, zk6, yc7, zle, trivial⟩) (by kernel_rfl) ?_
 intro L P' Q' hL hP hQ
 (cbv; try simp only [syT, true_and, and_true])
 refine ⟨fun h => (by cases h), fun _ => ⟨⟨0, ?_⟩, fun i hi => ?_⟩⟩
 · (cbv; try simp only [syT, true_and, and_true])
   subst hL
   exact ⟨fun _ _ _ _ => trivial, rfl, Nat.zero_le _⟩
 · (cbv; try simp only [syT, true_and, and_true])
   refine ⟨fun h2 => ⟨?_, fun h3 => ?_, fun h3 => ⟨i + 1, ?_⟩⟩, fun h2 => ⟨⟨0, ?_⟩, fun j hj => ?_⟩⟩
   · subst hL
     have h2 : ilt (za7 i) (za7 1) = true := h2
     rw [zfr] at h2
     show inR (za7 i) (za7 1) = true
     rw [zoi]
     exact ⟨Int.natCast_nonneg _, h2⟩
   · subst hL
     have h3 : ilt (za7 i) 0 = true := h3
     rw [zfr] at h3
     unfold za7 at h3
     omega
   · (cbv; try simp only [syT, true_and, and_true])
     subst hL
     have hi : i <= 1 := hi
     have h2 : ilt (za7 i) (za7 1) = true := h2
     rw [zfr] at h2
     unfold za7 at h2
     refine ⟨fun _ _ _ _ => trivial, ?_, ?_, ?_⟩
     · show zco .i64 (za7 i) 1 = za7 (i + 1)
       unfold zco za7
       rw [zgr]
       omega
     · show i + 1 <= 1
       omega
     · show 1 - (i + 1) < 1 - i
       omega
   · (cbv; try simp only [syT, true_and, and_true])
     subst hL
     exact ⟨fun _ _ _ _ => trivial, fun _ => trivial, rfl, fun _ _ _ _ => trivial, rfl, rfl, Nat.zero_le _⟩
   · (cbv; try simp only [syT, true_and, and_true])
     refine ⟨fun h3 => ⟨?_, ?_, fun h => (by cases h), fun _ => ⟨fun h4 => ?_, fun h4 => ⟨?_, ?_, ⟨j + 1, ?_⟩⟩⟩⟩, fun h3 => ?_⟩
     · subst hL
       have h3 : ilt (za7 j) (za7 1) = true := h3
       rw [zfr] at h3
       show inR (za7 j) (za7 1) = true
       rw [zoi]
       exact ⟨Int.natCast_nonneg _, h3⟩
     · subst hL
       have h3 : ilt (za7 j) (za7 1) = true := h3
       rw [zfr] at h3
       unfold za7 at h3
       exact decide_eq_true (show j = 0 by omega)
     · subst hL
       have h4 : ilt (za7 j) 0 = true := h4
       rw [zfr] at h4
       unfold za7 at h4
       omega
     · subst hL
       exact hs
     · subst hL
       have h3 : ilt (za7 j) (za7 1) = true := h3
       rw [zfr] at h3
       unfold za7 at h3
       exact decide_eq_true (show j = 0 by omega)
     · (cbv; try simp only [syT, true_and, and_true])
       subst hL
       have hj : j <= 1 := hj
       have h3 : ilt (za7 j) (za7 1) = true := h3
       rw [zfr] at h3
       unfold za7 at h3
       have ew : zco .i64 (za7 j) 1 = za7 (j + 1) := by
         unfold zco za7
         rw [zgr]
         omega
       refine ⟨fun _ _ _ _ => trivial, fun h => ?_, ?_, fun _ _ _ _ => trivial, ew, ew, ?_, ?_⟩
       · have h : decide (j + 1 = 0) = true := h
         simp at h
       · show s = yb5 x s (j + 1)
         unfold yb5
         rw [if_neg (by omega)]
       · show j + 1 <= 1
         omega
       · show 1 - (j + 1) < 1 - j
         omega
     · subst hL
       have h3 : ilt (za7 j) (za7 1) = false := h3
       rw [zl3] at h3
       unfold za7 at h3
       show yb5 x s j = s
       unfold yb5
       rw [if_neg (by omega)]
theorem zxm : zbt Try.prog (zsu std) := by
 intro raw ob T hT hp
 unfold zsu at hT
 simp only at hT
 repeat' split at hT
 all_goals first | (cases hT; done) | (cases hT; exact ym7 _ _ _ _ _ hp)
theorem zxu : zbk Try.prog 7 [] (.bool true) := by
 refine zaj (T := tt) (S := fun L => zaz [] [yku L, zrf L, zyq L, zz7 L, zsu L, yah, zs7]) (lo := noA) (lb := noA) 12 (fn := Try.f7) rfl rfl (by kernel_rfl) (by kernel_rfl) rfl zap (za6 trivial ⟨yg2, zvg, zys, zz8, zxm, yaj, zwx, trivial⟩) (by kernel_rfl) ?_
 intro L P' Q' hL hP hQ
 (cbv; try simp only [syT, true_and, and_true])
 subst hL
 subst hQ
 have e0 : ine 0 0 = false := by decide
 have e1 : ieq 0 0 = true := by decide
 have s0 : zcq 0 := ⟨by decide, by decide⟩
 have s1 : zcq (inc 0) := ⟨by decide, by decide⟩
 have s2 : zcq (inc (inc 0)) := ⟨by decide, by decide⟩
 have s3 : zcq (inc (inc (inc 0))) := ⟨by decide, by decide⟩
 have w1 : yqm [120] (.a 0) := ⟨s0, by decide⟩
 have w2 : yqm [121] (.c (inc (inc (inc 0))) [120] [120]) := ⟨s3, by decide, by decide⟩
 have sh : zbm [120] := by unfold zbm; decide
 have q1 : seq [120] [120] = true := by decide
 have q2 : ieq (za7 1) 1 = true := by decide
 simp [std, e0, e1, s1, s2, w1, w2, sh, q1, q2, zck]
theorem ygi {h : Array Obj} {D : Nat -> Prop} {μ : Mu} {sz n : Nat} {get get' : Nat -> Nat -> AV} {v : Value} (e : ∀ i j, i < n -> j < sz -> get i j = get' i j) (r : R h D μ (.lst sz n get) v) : R h D μ (.lst sz n get') v := by
 cases r with
 | lst0 _ _ a cap hn => exact .lst0 _ _ a cap hn
 | lst _ _ _ b o cap vs hD hc hv h1 hr => exact .lst _ _ _ b o cap vs hD hc hv h1 (fun i j hi hj => by rw [<- e i j hi hj]; exact hr i j hi hj)
theorem zpu {H : Type} {enc : TypeId × Value -> H} {P : Program} {W : World} {t e : TypeId} {α : Type} {V : Vw α} {ok : α -> Prop} (ht : P.underlying t = some (.slice e)) (hc : P.cellsOf t = 1) (he : zfj enc P W e α V.sz (V.cell std) ok) (hs : 0 < V.sz) :
   zfj enc P W t (List α) 1 (fun l _ => lstW std V l) (fun l => l.length <= maxLen /\ ∀ y ∈ l, ok y) :=
 (opens_slice ht hc he hs).turn id (fun y h => h) (fun y h j hj v r => ygi (fun i q hi hq => by
   show avL (V.cell std) y i q = V.cell std (yqx V y i) q
   have hi : i < y.length := hi
   rw [avL, List.getElem?_eq_getElem hi, yks hi]) r)
def vwB : Vw Bool := ⟨1, fun L b _ => .bool b, fun _ => false, fun _ => True, false⟩
def vwM : Vw Int := ⟨1, fun L b _ => .int .u64 b, fun _ => 0, fun _ => True, 0⟩
theorem opens_bits {H : Type} {enc : TypeId × Value -> H} {W : World} : zfj enc Try.prog W 23 (List Bool) 1 (fun l _ => zgy std l) (fun _ => True) :=
 (zpu (V := vwB) Try.underlying23 (by kernel_rfl) (zmf Try.underlying4 (by kernel_rfl)) (by decide)).map id (fun y j hj => rfl) (fun y h => trivial)
theorem opens_msks {H : Type} {enc : TypeId × Value -> H} {W : World} : zfj enc Try.prog W 24 (List Int) 1 (fun l _ => zlu std l) (fun _ => True) :=
 (zpu (V := vwM) Try.underlying24 (by kernel_rfl) (zhp Try.underlying83 (by kernel_rfl)) (by decide)).map id (fun y j hj => rfl) (fun y h => trivial)
theorem zxq {n : Int} (h : (Lit.int .u16 n).wf = true) : 0 <= n /\ n < 65536 := by
 have := bounds_u16 h
 omega
structure WI (x : Dk) (i : Nat) : Prop where
 down : x.down = false
 fuse : x.fuse = -1
 pend : x.pend.length <= i
 names : x.names.length <= i
 keys : ∀ y ∈ x.names, y.1.length <= 60
 ok : ∀ k, zrd (za4 x.nd k)
theorem zyv {x : Dk} (h : x.fuse = -1) : zas x = 0 /\ (zal x).down = x.down /\ (zal x).fuse = -1 := by
 have h0 : ¬ x.fuse = 0 := by omega
 refine ⟨if_neg h0, ?_, ?_⟩
 · unfold zal; rw [if_neg h0]
 · unfold zal; rw [if_neg h0]
   show (if 0 < x.fuse then _ else x.fuse) = -1
   rw [if_neg (by omega), h]
theorem yob {l : List Nd} {k : Nat} {v : Nd} (h : ∀ q, zrd (za4 l q)) (hv : zrd v) (q : Nat) : zrd (za4 (l.set k v) q) := by
 rw [zhq]
 split
 · exact hv
 · exact h q
theorem zt5 (x : Dk) (s t : List UInt8) : zb5 x.nd <= zb5 (zf0 x s t).nd := by
 obtain ⟨e1, e2, e3, e4, e5⟩ := zby x
 unfold zf0 zb5
 split
 · split
   · split
     · show x.nd.length <= ((zal x).nd.set _ _).length
       rw [List.length_set, e1]; exact Nat.le_refl _
     · show x.nd.length <= (((zal x).nd ++ [ndD]).set _ _).length
       rw [List.length_set, e1, List.length_append]; exact Nat.le_add_right _ _
   · rw [e1]; exact Nat.le_refl _
 · exact Nat.le_refl _
theorem yje {n : Int} (h : yqp n) : zoy n < 3000 := by
 have h : 0 <= n /\ n < 65536 := h
 have : n.tmod 3000 = ((n.toNat % 3000 : Nat) : Int) := by
   obtain ⟨k, rfl⟩ : ∃ k : Nat, n = k := ⟨n.toNat, by omega⟩
   exact (Int.ofNat_tmod k 3000).symm
 unfold zoy
 omega
def syD (x : Dk) : Nat -> Dk
 | 0 => x
 | j + 1 => zcg (syD x j) (zhs x.names j)
structure SI (x y : Dk) (j : Nat) : Prop where
 down : y.down = false
 fuse : y.fuse = -1
 names : y.names = x.names
 pend : y.pend = x.pend
 len : zb5 y.nd = zb5 x.nd
 now : ∀ k, (za4 y.nd k).now = (za4 x.nd k).now
 ok : ∀ k, zrd (za4 y.nd k)
 same : ∀ q, q < j -> (za4 y.nd (crK x.names q)).sure = (za4 y.nd (crK x.names q)).now
theorem sy_0 {x : Dk} {i : Nat} (h : WI x i) : SI x (syD x 0) 0 := ⟨h.down, h.fuse, rfl, rfl, rfl, fun _ => rfl, h.ok, fun q hq => absurd hq (Nat.not_lt_zero q)⟩
theorem yo0 {x y : Dk} {j q : Nat} (h : SI x y j) (hq : q < mlen x.names) : thE y (zhs x.names q) = 0 := by
 unfold thE
 rw [if_neg (by rw [h.down]; decide), if_pos (by rw [h.names]; exact zio hq)]
theorem yjh {x y : Dk} {j : Nat} (h : SI x y j) (hj : j < mlen x.names) : SI x (zcg y (zhs x.names j)) (j + 1) := by
 obtain ⟨s1, s2, s3⟩ := zyv h.fuse
 obtain ⟨e1, e2, e3, e4, e5⟩ := zby y
 have hk : thK y (zhs x.names j) = crK x.names j := by
   unfold thK crK; rw [h.names]
 have hx : zcg y (zhs x.names j) = { zal y with nd := y.nd.set (crK x.names j) ⟨(za4 y.nd (crK x.names j)).now, (za4 y.nd (crK x.names j)).now⟩ } := by
   unfold zcg
   rw [if_pos (yo0 h hj), if_pos s1, hk]
 rw [hx]
 refine ⟨s2.trans h.down, s3, e2.trans h.names, e4.trans h.pend, List.length_set.trans h.len, fun k => ?_, fun k => yob h.ok (v := ⟨(za4 y.nd (crK x.names j)).now, (za4 y.nd (crK x.names j)).now⟩) ⟨(h.ok (crK x.names j)).1, (h.ok (crK x.names j)).1⟩ k, fun q hq => ?_⟩
 · show (za4 (y.nd.set _ _) k).now = _
   rw [zhq]
   split
   · rename_i e; rw [e.1]; exact h.now _
   · exact h.now k
 · show (za4 (y.nd.set _ _) _).sure = (za4 (y.nd.set _ _) _).now
   rw [zhq]
   split
   · rfl
   · rename_i e
     by_cases e2 : q = j
     · subst e2
       have : ¬ crK x.names q < y.nd.length := fun e3 => e ⟨rfl, e3⟩
       unfold za4
       rw [List.getD_eq_getElem?_getD, List.getElem?_eq_none (by omega)]; rfl
     · exact h.same q (by omega)
theorem ztf {x : Dk} {i : Nat} (h : WI x i) : ∀ j, j <= mlen x.names -> SI x (syD x j) j
 | 0, _ => sy_0 h
 | j + 1, hj => yjh (ztf h j (by omega)) hj
def syE (x : Dk) : Dk := ze4 (syD x (mlen x.names))
structure EI (x z : Dk) : Prop where
 down : z.down = false
 fuse : z.fuse = -1
 names : z.names = x.names
 sure : z.sure = x.names
 pend : z.pend = []
 now : ∀ k, (za4 z.nd k).now = (za4 x.nd k).now
 ok : ∀ k, zrd (za4 z.nd k)
 same : ∀ q, q < mlen x.names -> (za4 z.nd (crK x.names q)).sure = (za4 z.nd (crK x.names q)).now
theorem ei {x : Dk} {i : Nat} (h : WI x i) : EI x (syE x) := by
 have s := ztf h (mlen x.names) (Nat.le_refl _)
 obtain ⟨s1, s2, s3⟩ := zyv s.fuse
 obtain ⟨e1, e2, e3, e4, e5⟩ := zby (syD x (mlen x.names))
 have hx : syE x = { zal (syD x (mlen x.names)) with sure := (syD x (mlen x.names)).names, pend := [] } := by
   unfold syE ze4
   rw [if_neg (by rw [s.down]; decide), if_pos s1]
 rw [hx]
 exact ⟨s2.trans s.down, s3, e2.trans s.names, s.names, rfl, fun k => by show (za4 (zal _).nd k).now = _; rw [e1]; exact s.now k, fun k => by show zrd (za4 (zal _).nd k); rw [e1]; exact s.ok k, fun q hq => by show (za4 (zal _).nd _).sure = (za4 (zal _).nd _).now; rw [e1]; exact s.same q hq⟩
theorem ylg {x : Nd} (h : x.sure = x.now) (m : Int) : kF x m = x.now := by
 have h1 : zhc x m = x.now.length := by
   unfold zhc; rw [h]; split <;> rfl
 have h2 : ∀ i, zod x m i = x.now := fun i => by
   unfold zod; rw [h]; split <;> rfl
 unfold kF
 rw [h1]
 refine Eq.trans ?_ (zr0 x.now)
 unfold zay
 refine List.map_congr_left fun i hi => ?_
 have hi : i < x.now.length := by simpa using hi
 show UInt8.ofNat (kAt x m i).toNat = UInt8.ofNat (zng x.now i).toNat
 unfold kAt
 rw [h2, if_pos hi]
theorem ztg (x : Dk) (s : List UInt8) : zb5 (zcg x s).nd = zb5 x.nd := by
 obtain ⟨e1, e2, e3, e4, e5⟩ := zby x
 unfold zcg zb5
 split
 · split
   · exact List.length_set
   · rw [e1]
 · rfl
theorem zji (x : Dk) : zb5 (ze4 x).nd = zb5 x.nd := by
 obtain ⟨e1, e2, e3, e4, e5⟩ := zby x
 unfold ze4 zb5
 split
 · rfl
 · split
   · rw [e1]
   · rw [e1]
theorem zlf (nd : List Nd) (s : List (List UInt8 × Nat)) (m : List Int) : ∀ j, (zv9 nd s m j).nd.length = nd.length
 | 0 => rfl
 | j + 1 => by
   have ih := zlf nd s m j
   show (crP (zv9 nd s m j) (crK s j) m).nd.length = _
   unfold crP
   split
   · exact ih
   · exact List.length_set.trans ih
theorem zsx (x : Dk) (h : List Bool) (m : List Int) : zb5 (crD x h m).nd = zb5 x.nd := zlf _ _ _ _
def zig (n : Int) : Prop := 0 <= n /\ n < 18446744073709551616
def zdu (n : Int) : List UInt8 := zdv n.toNat
def znh (L : za9) : zf3 := (52, fun xs => match xs with | [.int .u64 n] => some (L zig n, .str (L zdu n)) | _ => none)
theorem zm7 : zgv Try.prog (znh std) := by
 intro xs p r h hp
 dsimp only [znh] at h |-
 split at h <;> cases h
 try simp only [L2, L3, std] at hp |-
 rename_i n
 obtain ⟨h0, h1⟩ : zig n := hp
 obtain ⟨k, rfl⟩ := ybb h0
 exact zdf (fn := Try.f52) rfl rfl (by kernel_rfl) (yht (zhh _ _)) (fun h D => zvn h D _ _) (fun w => zz0 k w (by omega))
theorem zxw : zbk Try.prog 54 [] (.bool true) := by
 refine zaj (T := tt) (S := fun L => zdq [znh L, zwp L]) (lo := noA) (lb := noA) 5 (fn := Try.f54) rfl rfl (by kernel_rfl) (by kernel_rfl) rfl zap (zav ⟨zm7, zjj, trivial⟩) (by kernel_rfl) ?_
 (intro L P1 Q1 hL hP hQ; cbv; subst hL; simp only [L2, L3, std, syT]; subst hQ)
 (simp only [syS, reduceCtorEq, Int.reduceToNat, Int.reduceAdd, Int.reduceSub])
 exact ⟨by unfold zig; omega, fun _ => ⟨by unfold yfp; omega, by decide +kernel⟩, by rw [zdu, show (300 : Int).toNat = 300 from rfl, zgd (by decide), zdl (by decide)]; rfl⟩
def tru (f : Nat) : zf3 := (f, fun xs => match xs with | [] => some (True, .bool true) | _ => none)
theorem zec {P : Program} {f : Nat} (h : zbk P f [] (.bool true)) : zgv P (tru f) := by
 intro xs p r h' hp
 match xs with
 | [] => cases h'; exact h
 | x :: xs => cases h'
theorem zn4 : zbk Try.prog 41 [] (.bool true) := by
 refine zaj (T := tt) (S := fun L => zdq [tru 54]) (lo := noA) (lb := noA) 5 (fn := Try.f41) rfl rfl (by kernel_rfl) (by kernel_rfl) rfl zap (zav ⟨zec zxw, trivial⟩) (by kernel_rfl) ?_
 (intro L P1 Q1 hL hP hQ; cbv; subst hL; simp only [L2, L3, std, syT]; subst hQ)
 (simp only [syS, reduceCtorEq, Int.reduceToNat, Int.reduceAdd, Int.reduceSub])
theorem yhq {l m : List UInt8} {i : Nat} (h : i < l.length) : zce (l ++ m) i = zce l i := by
 simp [zce, List.getElem?_append_left h]
theorem yhp {l m : List UInt8} {i : Nat} (h : ¬ i < l.length) : zce (l ++ m) i = zce m (i - l.length) := by
 simp [zce, List.getElem?_append_right (show l.length <= i by omega)]
theorem zxp (l : List UInt8) : zay l.length (fun i => zce l i) = l := by
 apply List.ext_getElem
 · simp [zay]
 · intro i h1 h2
   simp [zay, zce, h2]
def m32 : Int := 4294967295
def mulW (x y : Int) : Int := zjz .u64 (zxs .u64 x m32) (zxs .u64 y m32)
def mulT (x y : Int) : Int := zco .u64 (zjz .u64 (zra .u64 x 32) (zxs .u64 y m32)) (zra .u64 (mulW x y) 32)
def mulU (x y : Int) : Int := zco .u64 (zxs .u64 (mulT x y) m32) (zjz .u64 (zxs .u64 x m32) (zra .u64 y 32))
def yg6 (x y : Int) : Int := zco .u64 (zco .u64 (zjz .u64 (zra .u64 x 32) (zra .u64 y 32)) (zra .u64 (mulT x y) 32)) (zra .u64 (mulU x y) 32)
def yik (x y : Int) : Int := zjz .u64 x y
def yky (L : za9) : zf3 := (102, fun xs => match xs with | [.int .u64 x, .int .u64 y] => some (True, .tup [.int .u64 (L2 L yg6 x y), .int .u64 (L2 L yik x y)]) | _ => none)
theorem yg5 : zgv Try.prog (yky std) := by
 intro xs p r h hp
 dsimp only [yky] at h |-
 split at h <;> cases h
 try simp only [L2, L3, std] at hp |-
 rename_i x y
 refine zaj (T := tt) (S := noS) (lo := noA) (lb := noA) 5 (fn := Try.f102) rfl rfl (by kernel_rfl) (by kernel_rfl) rfl zap (zix _) (by kernel_rfl) ?_
 intro L P' Q' hL hP hQ
 (cbv; try simp only [syT, true_and, and_true])
 subst hL; subst hQ
 refine ⟨rfl, rfl, rfl, rfl, rfl, ?_⟩
 show zi5 (.tup [.int .u64 (yg6 x y), .int .u64 (yik x y)]) (.tup [.int .u64 (yg6 x y), .int .u64 (yik x y)])
 simp only [sySet]
 trivial
def ynn (y p : Int) (three : Bool) : Bool := match three with
 | false => decide (p < yg6 y y) || (decide (yg6 y y = p) && decide (0 < yik y y))
 | true => decide (yea .u64 p 32 < zco .u64 (zjz .u64 (yg6 y y) y) (yg6 (yik y y) y)) || (decide (zco .u64 (zjz .u64 (yg6 y y) y) (yg6 (yik y y) y) = yea .u64 p 32) && decide (0 < yik (yik y y) y))
def yn1 (L : za9) : zf3 := (99, fun xs => match xs with | [.int .u64 y, .int .u64 p, .bool t] => some (True, .bool (L3 L ynn y p t)) | _ => none)
theorem yhw : zgv Try.prog (yn1 std) := by
 intro xs p r h hp
 dsimp only [yn1] at h |-
 split at h <;> cases h
 try simp only [L2, L3, std] at hp |-
 rename_i y p t
 refine zaj (T := tt) (S := fun L => zdq [yky L]) (lo := noA) (lb := noA) 5 (fn := Try.f99) rfl rfl (by kernel_rfl) (by kernel_rfl) rfl zap (zav ⟨yg5, trivial⟩) (by kernel_rfl) ?_
 (intro L P1 Q1 hL hP hQ; cbv; subst hL; simp only [L2, L3, std, syT]; subst hQ)
 cases t
 · refine ⟨trivial, fun _ => ⟨fun h => ?_, fun h => ⟨fun h2 => ?_, fun h2 => ?_⟩⟩, fun h => by cases h⟩
   all_goals simp only [zck]
   all_goals simp_all [ynn, ilt, ieq]
 · refine ⟨trivial, fun h => (by cases h), fun _ => ⟨trivial, rfl, fun h => ?_, fun h => ⟨rfl, fun h2 => ?_, fun h2 => ?_⟩⟩⟩
   all_goals simp only [zck]
   all_goals simp_all [ynn, ilt, ieq]
def yim (p : Int) (three : Bool) : Nat -> Int -> Int
 | 0, x => x
 | f + 1, x => yim p three f (if ynn (bor .u64 x (2 ^ f)) p three = true then x else bor .u64 x (2 ^ f))
def ygq (k n : Nat) : Nat := k + 0 * n
theorem zup (k n : Nat) : ygq k n = k := by rw [ygq, Nat.zero_mul]; rfl
def zg0 (p : Int) (three : Bool) : Int := yim p three (ygq 37 p.toNat) 0 % 4294967296
theorem zq5 (p : Int) (three : Bool) : zg0 p three = yim p three 37 0 % 4294967296 := by rw [zg0, zup]
def zul (p : Int) (three : Bool) (x : Int × Nat) : Prop := x.2 <= 36 /\ yim p three (x.2 + 1) x.1 = yim p three 37 0
def ztt (f : Nat) : Int := 2 ^ f
def lstA (L : za9) (p : Int) (t : Bool) : Nat -> St -> Option Ann := fun id st => match id with
 | 0 => some ⟨Int × Nat, fun x => [(5, .int .u64 (L Prod.fst x)), (6, .int .u64 (L ztt (L Prod.snd x)))], fun _ => [], [0, 1], [], fun x => L3 L zul p t x, fun x => L Prod.snd x⟩
 | _ => none
theorem yar : ∀ f : _root_.Fin 37, zra .u64 (ztt f.val) 1 = if f.val = 0 then 0 else ztt (f.val - 1) := by decide +kernel
theorem zts (f : Nat) : 0 < ztt f := by unfold ztt; exact Int.pow_pos (by decide)
theorem zjn {f : Nat} (h : f <= 36) : zra .u64 (ztt f) 1 = if f = 0 then 0 else ztt (f - 1) := yar ⟨f, by omega⟩
theorem zuk {p : Int} {t : Bool} {x : Int} {f : Nat} (h : zul p t (x, f)) (h0 : ¬ f = 0) : zul p t ((if ynn (bor .u64 x (ztt f)) p t = true then x else bor .u64 x (ztt f)), f - 1) := by
 obtain ⟨h1, h2⟩ := h
 refine ⟨by show f - 1 <= 36; have : f <= 36 := h1; omega, ?_⟩
 rw [<- h2]
 show yim p t (f - 1 + 1) _ = yim p t (f + 1) x
 rw [show f - 1 + 1 = f by omega]
 rfl
theorem ybw {p : Int} {t : Bool} {x : Int} {f : Nat} (h : zul p t (x, f)) (h0 : f = 0) : (if ynn (bor .u64 x (ztt f)) p t = true then x else bor .u64 x (ztt f)) = yim p t 37 0 := by
 obtain ⟨h1, h2⟩ := h
 subst h0
 rw [<- h2]; rfl
def zo7 (L : za9) : zf3 := (90, fun xs => match xs with | [.int .u64 p, .bool t] => some (True, .int .u32 (L2 L zg0 p t)) | _ => none)
theorem zmk : zgv Try.prog (zo7 std) := by
 intro xs p r h hp
 dsimp only [zo7] at h |-
 split at h <;> cases h
 try simp only [L2, L3, std] at hp |-
 rename_i p t
 refine zaj (T := tt) (S := fun L => zdq [yn1 L]) (lo := noA) (lb := fun L => lstA L p t) 5 (fn := Try.f90) rfl rfl (by kernel_rfl) (by kernel_rfl) rfl zap (zav ⟨yhw, trivial⟩) (by kernel_rfl) ?_
 intro L P' Q' hL hP hQ
 (cbv; try simp only [syT, true_and, and_true])
 refine ⟨fun x hx => ?_, ⟨(0, 36), ?_⟩⟩
 · cbv at hx
   obtain ⟨y1, hy1⟩ : ∃ y : Int × Nat, y = (bor .u64 x.1 (ztt x.2), x.2 - 1) := ⟨_, rfl⟩
   obtain ⟨y2, hy2⟩ : ∃ y : Int × Nat, y = (x.1, x.2 - 1) := ⟨_, rfl⟩
   (cbv; try simp only [syT, true_and, and_true])
   refine ⟨fun h1 => ⟨?_, fun h2 => ⟨y1, ?_⟩, fun h2 => ?_⟩, fun h1 => ⟨?_, fun h2 => ⟨y2, ?_⟩, fun h2 => ?_⟩⟩
   all_goals (try (cbv; try simp only [syT, true_and, and_true]))
   all_goals (obtain ⟨x, f⟩ := x; (subst hL; subst hQ; simp only [L2, L3, std] at *; try simp only [syS, reduceCtorEq, Int.reduceToNat, Int.reduceAdd, Int.reduceSub] at *))
   · decide
   · rw [zjn hx.1] at h2 |-
     have h0 : ¬ f = 0 := by intro h0; rw [if_pos h0] at h2; omega
     have := zuk hx h0
     rw [if_neg (by simpa using h1)] at this
     rw [if_neg h0, hy1]
     have hf : f <= 36 := hx.1
     exact ⟨rfl, rfl, this, by show f - 1 + 1 <= f; omega⟩
   · rw [zjn hx.1] at h2
     have h0 : f = 0 := by
       by_cases h0 : f = 0
       · exact h0
       · rw [if_neg h0] at h2
         exact absurd h2 (by
           have := zts (f - 1)
           show ¬ ztt (f - 1) <= 0
           omega)
     have := ybw hx h0
     rw [if_neg (by simpa using h1)] at this
     rw [this, zq5]
   · decide
   · rw [zjn hx.1] at h2 |-
     have h0 : ¬ f = 0 := by intro h0; rw [if_pos h0] at h2; omega
     have := zuk hx h0
     rw [if_pos (by simpa using h1)] at this
     rw [if_neg h0, hy2]
     exact ⟨rfl, rfl, this, by show f - 1 + 1 <= f; omega⟩
   · rw [zjn hx.1] at h2
     have h0 : f = 0 := by
       by_cases h0 : f = 0
       · exact h0
       · rw [if_neg h0] at h2
         exact absurd h2 (by
           have := zts (f - 1)
           show ¬ ztt (f - 1) <= 0
           omega)
     have := ybw hx h0
     rw [if_pos (by simpa using h1)] at this
     rw [this, zq5]
 · (cbv; try simp only [syT, true_and, and_true])
   (subst hL; subst hQ; simp only [L2, L3, std] at *; try simp only [syS, reduceCtorEq, Int.reduceToNat, Int.reduceAdd, Int.reduceSub] at *)
   exact ⟨by decide, by decide, rfl⟩
def prF (n : Int) : Nat -> Int -> Bool
 | 0, _ => false
 | f + 1, d => if d * d <= n then (if n % d = 0 then false else prF n f (d + 1)) else decide (1 < n)
def zfl (n : Int) : Bool := prF n (ygq 38 n.toNat) 2
theorem yao (n : Int) : prF n 38 2 = zfl n := by rw [zfl, zup]
def ys3 (n : Int) (d : Nat) : Prop := 2 <= d /\ d <= 33 /\ prF n (40 - d) d = zfl n
def prA (L : za9) (n : Int) : Nat -> St -> Option Ann := fun id st => match id with
 | 0 => some ⟨Nat, fun d => [(3, .int .u64 (L za7 d))], fun _ => [], [0], [], fun d => L2 L ys3 n d, fun d => L (fun d : Nat => 40 - d) d⟩
 | _ => none
def zrv (L : za9) : zf3 := (91, fun xs => match xs with | [.int .u64 n] => some (L (fun n : Int => 0 <= n /\ n <= 1000) n, .bool (L zfl n)) | _ => none)
theorem zwr : zgv Try.prog (zrv std) := by
 intro xs p r h hp
 dsimp only [zrv] at h |-
 split at h <;> cases h
 try simp only [L2, L3, std] at hp |-
 rename_i n
 have hn : 0 <= n /\ n <= 1000 := hp
 refine zaj (T := tt) (S := noS) (lo := fun L => prA L n) (lb := noA) 5 (fn := Try.f91) rfl rfl (by kernel_rfl) (by kernel_rfl) rfl zap (zix _) (by kernel_rfl) ?_
 intro L P' Q' hL hP hQ
 (cbv; try simp only [syT, true_and, and_true])
 refine ⟨⟨2, ?_⟩, fun d hd => ?_⟩
 · (cbv; try simp only [syT, true_and, and_true])
   (subst hL; subst hQ; simp only [L2, L3, std] at *; try simp only [syS, reduceCtorEq, Int.reduceToNat, Int.reduceAdd, Int.reduceSub] at *)
   exact ⟨by decide, by decide, yao n⟩
 · cbv at hd
   (cbv; try simp only [syT, true_and, and_true])
   refine ⟨fun h1 => ⟨?_, fun h2 => ?_, fun h2 => ⟨d + 1, ?_⟩⟩, fun h1 => ?_⟩
   all_goals (try (cbv; try simp only [syT, true_and, and_true]))
   all_goals (subst hL; subst hQ; simp only [L2, L3, std] at *; try simp only [syS, reduceCtorEq, Int.reduceToNat, Int.reduceAdd, Int.reduceSub] at *)
   all_goals (obtain ⟨i1, i2, i3⟩ := hd)
   all_goals (have hdd : d * d <= 33 * 33 := Nat.mul_le_mul i2 i2)
   all_goals (have hd2 : ((d : Nat) : Int) * ((d : Nat) : Int) = ((d * d : Nat) : Int) := by simp)
   all_goals (rw [show 40 - d = (39 - d) + 1 by omega, prF, hd2] at i3)
   all_goals (try rw [hd2] at h1)
   · omega
   · rw [if_pos (by omega)] at i3
     rw [Int.tmod_eq_emod_of_nonneg hn.1] at h2
     rw [if_pos h2] at i3
     exact i3
   · rw [if_pos (by omega)] at i3
     rw [Int.tmod_eq_emod_of_nonneg hn.1] at h2
     rw [if_neg h2] at i3
     have h31 : d <= 31 := by
       apply Nat.le_of_not_lt
       intro h
       have : 32 * 32 <= d * d := Nat.mul_le_mul h h
       omega
     refine ⟨by omega, ⟨by omega, by omega, ?_⟩, by omega⟩
     rw [show 40 - (d + 1) = 39 - d by omega, <- i3]
     congr 1
   · rw [if_neg (by omega)] at i3
     rw [<- i3]; rfl
def zqc : List Int := [0x428a2f98, 0x71374491, 0xb5c0fbcf, 0xe9b5dba5, 0x3956c25b, 0x59f111f1, 0x923f82a4, 0xab1c5ed5,
 0xd807aa98, 0x12835b01, 0x243185be, 0x550c7dc3, 0x72be5d74, 0x80deb1fe, 0x9bdc06a7, 0xc19bf174,
 0xe49b69c1, 0xefbe4786, 0x0fc19dc6, 0x240ca1cc, 0x2de92c6f, 0x4a7484aa, 0x5cb0a9dc, 0x76f988da,
 0x983e5152, 0xa831c66d, 0xb00327c8, 0xbf597fc7, 0xc6e00bf3, 0xd5a79147, 0x06ca6351, 0x14292967,
 0x27b70a85, 0x2e1b2138, 0x4d2c6dfc, 0x53380d13, 0x650a7354, 0x766a0abb, 0x81c2c92e, 0x92722c85,
 0xa2bfe8a1, 0xa81a664b, 0xc24b8b70, 0xc76c51a3, 0xd192e819, 0xd6990624, 0xf40e3585, 0x106aa070,
 0x19a4c116, 0x1e376c08, 0x2748774c, 0x34b0bcb5, 0x391c0cb3, 0x4ed8aa4a, 0x5b9cca4f, 0x682e6ff3,
 0x748f82ee, 0x78a5636f, 0x84c87814, 0x8cc70208, 0x90befffa, 0xa4506ceb, 0xbef9a3f7, 0xc67178f2]
def zmw : List Int := [0x6a09e667, 0xbb67ae85, 0x3c6ef372, 0xa54ff53a, 0x510e527f, 0x9b05688c, 0x1f83d9ab, 0x5be0cd19]
def zj3 : Nat -> Nat
 | 0 => 0
 | n + 1 => if zfl n = true then zj3 n + 1 else zj3 n
def zdt : Nat -> List Int
 | 0 => List.replicate 64 0
 | n + 1 => if zfl n = true then (zdt n).set (zj3 n) (zg0 n true) else zdt n
theorem zkw : ∀ n, (zdt n).length = 64
 | 0 => by rw [zdt, List.length_replicate]
 | n + 1 => by
   rw [zdt]
   split
   · rw [List.length_set, zkw n]
   · exact zkw n
theorem ygt : zdt 312 = zqc := by decide +kernel
theorem cnt_311 : zj3 311 = 63 /\ zj3 312 = 64 := by decide +kernel
theorem yhn : ∀ {m n : Nat}, m <= n -> zj3 m <= zj3 n := by
 intro m n h
 induction h with
 | refl => exact Nat.le_refl _
 | step h ih =>
   rename_i k
   rw [zj3]
   split <;> omega
def yip (n : Nat) : Prop := 2 <= n /\ n <= 311 /\ zj3 n <= 63
def zjc (n : Nat) : Int := zj3 n
def keyA (L : za9) : Nat -> St -> Option Ann := fun id st => match id with
 | 0 => some ⟨Nat, fun n => [(2, .int .u64 (L za7 n)), (3, .int .i64 (L zjc n)), (1, .ref 1 0)], fun n => [(1, .row 116 1 64 (fun i _ => .int .u32 (L2 L zaa (L zdt n) i)))], [0], [0], fun n => L yip n, fun n => L (fun n : Nat => 312 - n) n⟩
 | _ => none
def zuu (L : za9) : zf3 := (78, fun xs => match xs with | [] => some (True, .arr 64 (fun j => .int .u32 (L2 L zaa zqc j))) | _ => none)
theorem yb4 {l : List Int} {k : Nat} {v : Int} (h : k < l.length) : zaa (l.set k v) k = v := by
 rw [zaa, List.getD_eq_getElem?_getD, List.getElem?_set_self h]; rfl
theorem ykt {l : List Int} {k i : Nat} {v : Int} (h : k ≠ i) : zaa (l.set k v) i = zaa l i := by
 rw [zaa, zaa, List.getD_eq_getElem?_getD, List.getD_eq_getElem?_getD, List.getElem?_set_ne h]
theorem ylf : zdt 2 = List.replicate 64 0 /\ 0 = zjc 2 /\ zj3 2 <= 63 := by decide +kernel
theorem yio {n : Nat} (h : n <= 311) (hc : zj3 (n + 1) < 64) : n + 1 <= 311 := by
 rcases Nat.lt_or_eq_of_le h with h | h
 · exact h
 · rw [h] at hc
   exact absurd (cnt_311.2 ▸ hc : (64 : Nat) < 64) (by decide)
theorem ypj {n : Nat} (h : n <= 311) (hc : 64 <= zj3 (n + 1)) : zdt (n + 1) = zqc := by
 rcases Nat.lt_or_eq_of_le h with h | h
 · have h2 := Nat.le_trans hc (yhn h)
   rw [cnt_311.1] at h2
   exact absurd h2 (by decide)
 · rw [h]; exact ygt
theorem yle {n : Nat} (h : zfl n = true) : zj3 (n + 1) = zj3 n + 1 /\ zdt (n + 1) = (zdt n).set (zj3 n) (zg0 n true) := by
 rw [zj3, zdt, if_pos h, if_pos h]; exact ⟨rfl, rfl⟩
theorem k_no {n : Nat} (h : zfl n = false) : zj3 (n + 1) = zj3 n /\ zdt (n + 1) = zdt n := by
 rw [zj3, zdt, if_neg (by rw [h]; decide), if_neg (by rw [h]; decide)]; exact ⟨rfl, rfl⟩
theorem yjx {l : List Int} {k i : Nat} (v : Int) (hk : k < l.length) : over std k 0 1 [.int .u32 v] (fun i x => .int .u32 (zaa l i)) i 0 = .int .u32 (zaa (l.set k v) i) := by
 rw [zee, if_pos ⟨Nat.le_refl _, by omega⟩]
 by_cases hi2 : i = k
 · subst hi2
   rw [za3, yb4 hk]; rfl
 · rw [zac hi2, ykt (fun h => hi2 h.symm)]; rfl
theorem ypi {n i : Nat} (h : zfl n = true) (hc : zj3 n < 64) : over std (zjc n).toNat 0 1 [.int .u32 (zg0 n true)] (fun i x => .int .u32 (zaa (zdt n) i)) i 0 = .int .u32 (zaa (zdt (n + 1)) i) := by
 rw [(yle h).2]
 have e : (zjc n).toNat = zj3 n := Int.toNat_natCast _
 rw [e]
 have hl : zj3 n < (zdt n).length := by rw [zkw]; exact hc
 generalize zg0 n true = v
 generalize zdt n = l at hl |-
 generalize zj3 n = k at hl |-
 exact yjx v hl
theorem k_go {n n' : Nat} (hn : n' = n + 1) (hi : yip n) (h1 : zfl n = true) (h2 : zjc n + 1 < 64) : (∀ i, over std (zjc n).toNat 0 1 [.int .u32 (zg0 n true)] (fun i x => .int .u32 (zaa (zdt n) i)) i 0 = .int .u32 (zaa (zdt n') i)) /\ zjc n + 1 = zjc n' /\ yip n' /\ 312 - n' < 312 - n := by
 subst hn
 obtain ⟨i1, i2, i3⟩ := hi
 obtain ⟨h3, -⟩ := yle h1
 have h2' : zj3 n + 1 < 64 := by unfold zjc at h2; omega
 have h5 := yio i2 (by rw [h3]; omega)
 refine ⟨fun i => ypi h1 (by omega), ?_, ⟨by omega, h5, by rw [h3]; omega⟩, by omega⟩
 unfold zjc
 rw [h3]; rfl
theorem ysn {n : Nat} (hi : yip n) (h1 : zfl n = true) (h2 : ¬ zjc n + 1 < 64) (j : Nat) : over std (zjc n).toNat 0 1 [.int .u32 (zg0 n true)] (fun i x => .int .u32 (zaa (zdt n) i)) j 0 = .int .u32 (zaa zqc j) := by
 obtain ⟨i1, i2, i3⟩ := hi
 obtain ⟨h3, -⟩ := yle h1
 have h2' : 64 <= zj3 n + 1 := by unfold zjc at h2; omega
 rw [ypi h1 (by omega), ypj i2 (by rw [h3]; omega)]
theorem ysm {n n' : Nat} (hn : n' = n + 1) (hi : yip n) (h1 : zfl n = false) (h2 : zjc n < 64) : zdt n = zdt n' /\ zjc n = zjc n' /\ yip n' /\ 312 - n' < 312 - n := by
 subst hn
 obtain ⟨i1, i2, i3⟩ := hi
 obtain ⟨h3, h4⟩ := k_no h1
 have h5 := yio i2 (by rw [h3]; omega)
 refine ⟨h4.symm, ?_, ⟨by omega, h5, by rw [h3]; omega⟩, by omega⟩
 unfold zjc
 rw [h3]
theorem ysl {n : Nat} (hi : yip n) : 2 <= n /\ n <= 311 /\ 0 <= zjc n /\ zjc n <= 63 := by
 obtain ⟨i1, i2, i3⟩ := hi
 refine ⟨i1, i2, Int.natCast_nonneg _, ?_⟩
 unfold zjc; omega
theorem yso {n : Nat} (hn : n = 2) : (∀ i, i < 64 -> zaa (zdt n) i = 0) /\ zjc n = 0 /\ yip n /\ (n : Int) = 2 := by
 subst hn
 refine ⟨fun i hi => ?_, ylf.2.1.symm, ⟨by decide, by decide, ylf.2.2⟩, rfl⟩
 rw [ylf.1, zaa, List.getD_eq_getElem?_getD, List.getElem?_replicate, if_pos hi]; rfl
theorem zqb : zgv Try.prog (zuu std) := by
 intro xs p r h hp
 dsimp only [zuu] at h |-
 split at h <;> cases h
 try simp only [L2, L3, std] at hp |-
 refine zaj (T := tt) (S := fun L => zdq [zrv L, zo7 L]) (lo := noA) (lb := keyA) 5 (fn := Try.f78) rfl rfl (by kernel_rfl) (by kernel_rfl) rfl zap (zav ⟨zwr, zmk, trivial⟩) (by kernel_rfl) ?_
 intro L P' Q' hL hP hQ
 obtain ⟨n0, hn0⟩ : ∃ n0 : Nat, n0 = 2 := ⟨_, rfl⟩
 (cbv; try simp only [syT, true_and, and_true])
 refine ⟨fun n hn => ?_, ⟨n0, ?_⟩⟩
 · obtain ⟨n', hn'⟩ : ∃ n' : Nat, n' = n + 1 := ⟨_, rfl⟩
   (cbv; try simp only [syT, true_and, and_true])
   refine ⟨?_, fun h1 => ⟨?_, fun h2 => ⟨n', ?_⟩, fun h2 => ?_⟩, fun h1 => ⟨fun h2 => ⟨n', ?_⟩, fun h2 => ?_⟩⟩
   all_goals (try (cbv; try simp only [syT, true_and, and_true]))
   all_goals (subst hL; subst hQ; simp only [L2, L3, std] at *; try simp only [syS, reduceCtorEq, Int.reduceToNat, Int.reduceAdd, Int.reduceSub] at *)
   all_goals (obtain ⟨r1, r2, r3, r4⟩ := ysl hn)
   · omega
   · omega
   · rw [show (zjc n + 1 + 9223372036854775808) % 18446744073709551616 - 9223372036854775808 = zjc n + 1 by omega] at h2 |-
     obtain ⟨e1, e2, e3, e4⟩ := k_go hn' hn h1 h2
     refine ⟨fun i j hi hj => ?_, e2, by omega, e3, by omega⟩
     have : j = 0 := by omega
     subst this
     exact e1 i
   · rw [show (zjc n + 1 + 9223372036854775808) % 18446744073709551616 - 9223372036854775808 = zjc n + 1 by omega] at h2
     intro j hj
     exact ysn hn h1 (by omega) j
   · obtain ⟨e1, e2, e3, e4⟩ := ysm hn' hn h1 h2
     exact ⟨fun i j hi hj => by rw [e1], e2, by omega, e3, by omega⟩
   · exfalso; omega
 · (cbv; try simp only [syT, true_and, and_true])
   (subst hL; subst hQ; simp only [L2, L3, std] at *; try simp only [syS, reduceCtorEq, Int.reduceToNat, Int.reduceAdd, Int.reduceSub] at *)
   obtain ⟨e1, e2, e3, e4⟩ := yso hn0
   refine ⟨fun i j hi hj => ?_, e2.symm, e4.symm, e3⟩
   have : j = 0 := by omega
   subst this
   rw [e1 i hi]; rfl
end Sy
end Go.Proofs.Ytogomcfgfnlclaa
namespace Go.Proofs.Ytogomcfgfnlclaa
namespace Sy
open Go Go.RowKit
end Sy
end Go.Proofs.Ytogomcfgfnlclaa
namespace Go.Proofs.Ytogomcfgfnlclaa
namespace Sy
open Go Go.RowKit
set_option maxRecDepth 100000
set_option linter.unusedSimpArgs false
set_option linter.unusedVariables false
def yed (a b : List UInt8) : Bool := a.take b.length == b
def yaq (a b : List UInt8) : Prop := a.length <= 1000000000 /\ b.length <= 1000000000
def ztr (L : za9) : zf3 := (74, fun xs => match xs with | [.str a, .str b] => some (L2 L yaq a b, .bool (L2 L yed a b)) | _ => none)
def ykn (L : za9) : zf3 := (62, fun xs => match xs with | [.str a, .str b] => some (L2 L yaq a b, .bool (L2 L yed a b)) | _ => none)
theorem zpn : zgv Try.prog (ztr std) := by
 intro xs p r h hp
 dsimp only [ztr] at h |-
 split at h <;> cases h
 try simp only [L2, L3, std] at hp |-
 rename_i a b
 refine zaj (T := tt) (S := noS) (lo := noA) (lb := noA) 5 (fn := Try.f74) rfl rfl (by kernel_rfl) (by kernel_rfl) rfl zap (zix _) (by kernel_rfl) ?_
 (intro L P1 Q1 hL hP hQ; cbv; subst hL; simp only [L2, L3, std, syT]; subst hQ)
 (simp only [syS, reduceCtorEq, Int.reduceToNat, Int.reduceAdd, Int.reduceSub])
 exact ⟨fun h => ⟨by omega, rfl⟩, fun h => by
   have : ¬ a.take b.length = b := fun e => by have := congrArg List.length e; simp at this; omega
   simp [yed, this]⟩
theorem yfr : zgv Try.prog (ykn std) := by
 intro xs p r h hp
 dsimp only [ykn] at h |-
 split at h <;> cases h
 try simp only [L2, L3, std] at hp |-
 rename_i a b
 refine zaj (T := tt) (S := fun L => zdq [ztr L]) (lo := noA) (lb := noA) 5 (fn := Try.f62) rfl rfl (by kernel_rfl) (by kernel_rfl) rfl zap (zav ⟨zpn, trivial⟩) (by kernel_rfl) ?_
 (intro L P1 Q1 hL hP hQ; cbv; subst hL; simp only [L2, L3, std, syT]; subst hQ)
 (simp only [syS, reduceCtorEq, Int.reduceToNat, Int.reduceAdd, Int.reduceSub])
 exact hp
def toS : AV -> List UInt8
 | .str s => s
 | _ => []
def zem (n : Nat) (get : Nat -> Nat -> AV) : List (List UInt8) := (List.range n).map fun i => toS (get i 0)
theorem yqd {h : Array Obj} {D : Nat -> Prop} {x y : AV} {vs : Array Value} (hr : RL h D zar [x, y] vs) : ∃ a b, vs = #[a, b] /\ R h D zar x a /\ R h D zar y b := by
 obtain ⟨hl, hr⟩ := hr
 obtain ⟨a, b, ha⟩ : ∃ a b, vs.toList = [a, b] := by
   have hl : vs.toList.length = 2 := by simpa using hl.symm
   match vs.toList, hl with
   | [a, b], _ => exact ⟨a, b, rfl⟩
 have : vs = #[a, b] := by rw [<- Array.toArray_toList (xs := vs), ha]
 subst this
 exact ⟨a, b, rfl, hr 0 x a rfl rfl, hr 1 y b rfl rfl⟩
def zof (x : AV) : List UInt8 := match x with
 | .lst _ n get => (zem n get).flatten
 | _ => []
def zg2 (x : AV) : Prop := match x with
 | .lst 1 n get => (∀ i, i < n -> ∃ s, get i 0 = .str s) /\ n <= 1000000 /\ (zem n get).flatten.length <= 1000000
 | .nils => True
 | _ => False
theorem zqg (l : List (List UInt8)) : Lib.join l [] = l.flatten := by
 unfold Lib.join
 induction l with
 | nil => rfl
 | cons x l ih =>
   cases l with
   | nil => simp
   | cons y l => rw [List.intercalate_cons_cons, ih]; simp
def zux (L : za9) : zf3 := (76, fun xs => match xs with | [x, .str []] => some (L zg2 x, .str (L zof x)) | _ => none)
theorem zqe : zgv Try.prog (zux std) := by
 intro xs p r h hp
 dsimp only [zux] at h |-
 split at h <;> cases h
 try simp only [L2, L3, std] at hp |-
 rename_i x
 have hp : zg2 x := hp
 intro D w vs hD hxs hg
 obtain ⟨a, b, rfl, rx, ry⟩ := yqd hxs
 obtain rfl := zyu ry
 unfold zfp
 rw [zcz (fn := Try.f76) rfl (by kernel_rfl) rfl]
 have fin : ∀ (l : List UInt8), l = zof x -> (∀ w', Below w.heap.size w w' -> ∃ v D', Ending.returned (.string ⟨l.toArray⟩) = .returned v /\ Below w.heap.size w w' /\ (∀ b, D b -> D' b) /\ (∀ b, D' b -> D b \/ (w.heap.size <= b /\ b < w'.heap.size)) /\ R w'.heap D' zar (.str (zof x)) v) := by
   rintro l rfl w' hw
   exact ⟨_, D, rfl, hw, fun _ h => h, fun b hb => .inl hb, zvn _ _ _ _⟩
 have none_ : zof x = [] -> ∀ (a : Option Addr) (c : Nat), Calls Try.prog 76 #[.slice a 0 c, .string ⟨#[]⟩] w fun e w' => ∃ v D', e = .returned v /\ Below w.heap.size w w' /\ (∀ b, D b -> D' b) /\ (∀ b, D' b -> D b \/ (w.heap.size <= b /\ b < w'.heap.size)) /\ R w'.heap D' zar (.str (zof x)) v := by
   intro h0 a c
   refine (Try.strings_Join_none a c ⟨#[]⟩ w).mono ?_
   rintro e w' ⟨rfl, rfl⟩
   exact fin [] h0.symm _ (Below.refl _ _)
 unfold zg2 at hp
 split at hp
 · rename_i n get _
   obtain ⟨h1, h2, h3⟩ := hp
   cases rx with
   | lst0 => exact none_ rfl _ _
   | lst _ _ _ b o cap us hD0 hc hv h1' hr =>
     have hl : (zem n get).length = n := by rw [zem, List.length_map, List.length_range]
     have hq : ∀ j x, ((zem n get).map (fun s : List UInt8 => (⟨s.toArray⟩ : ByteArray)))[j]? = some x -> w.cell? ⟨b, o + j, none⟩ = some (.string x) := by
       intro j x hj
       have hjn : j < n := by
         have := (List.getElem?_eq_some_iff.1 hj).1
         rw [List.length_map, hl] at this
         exact this
       obtain ⟨s, hs⟩ := h1 j hjn
       have r := hr j 0 hjn (by omega)
       rw [hs] at r
       have hv := hv j 0 hjn (by omega)
       rw [zyu r, Nat.mul_one, Nat.add_zero] at hv
       rw [zel, hv]
       have e2 : (zem n get)[j]? = some s := by rw [zem, List.getElem?_map, List.getElem?_range hjn, Option.map_some, hs]; rfl
       rw [List.getElem?_map, e2] at hj
       cases hj
       rfl
     have hm : ((zem n get).map (fun s : List UInt8 => (⟨s.toArray⟩ : ByteArray))).map (·.data.toList) = zem n get := by
       rw [List.map_map]
       exact List.map_id' _
     have := Try.strings_Join b o cap ((zem n get).map (fun s : List UInt8 => (⟨s.toArray⟩ : ByteArray))) ⟨#[]⟩ w hq (hD b hD0) (by rw [List.length_map, hl]; omega) (by rw [List.length_map, hl]; exact hc) (by rw [hm]; show (Lib.join _ []).length <= _; rw [zqg]; omega)
     rw [hm, List.length_map, hl] at this
     refine this.mono ?_
     rintro e w' ⟨rfl, hw⟩
     exact fin _ (by show Lib.join _ [] = _; rw [zqg]; rfl) _ hw
 · cases rx
   exact none_ rfl _ _
 · exact hp.elim
def yrx (s : List UInt8) (c : Int) : List UInt8 := (List.replicate c.toNat s).flatten
theorem yac (s : List UInt8) : ∀ c : Nat, Lib.repeatL s c = (List.replicate c s).flatten
 | 0 => rfl
 | c + 1 => by rw [Lib.repeatL, yac s c, List.replicate_succ, List.flatten_cons]
def ykh (s : List UInt8) (c : Int) : Prop := 0 <= c /\ c <= 1000000 /\ s.length <= 1000000
def ykf (L : za9) : zf3 := (86, fun xs => match xs with | [.str s, .int .i64 c] => some (L2 L ykh s c, .str (L2 L yrx s c)) | _ => none)
theorem yfn : zgv Try.prog (ykf std) := by
 intro xs p r h hp
 dsimp only [ykf] at h |-
 split at h <;> cases h
 try simp only [L2, L3, std] at hp |-
 rename_i s c
 obtain ⟨h0, h1, h2⟩ : ykh s c := hp
 obtain ⟨k, rfl⟩ := ybb h0
 refine zdf (fn := Try.f86) rfl rfl (by kernel_rfl) (yqe (zhg _) (zhh _ _)) (fun h D => zvn h D _ _) (fun w => ?_)
 have hs : (⟨s.toArray⟩ : ByteArray).size = s.length := by show s.toArray.size = s.length; simp
 have := Try.strings_Repeat ⟨s.toArray⟩ k w (by omega) (by
   rw [hs]
   have : s.length * k <= 1000000 * 1000000 := Nat.mul_le_mul h2 (by omega)
   omega)
 refine this.mono ?_
 rintro e w' ⟨rfl, hw⟩
 refine ⟨?_, hw⟩
 show Ending.returned (.string ⟨(Lib.repeatL s k).toArray⟩) = _
 rw [yac]; rfl
def yau (s : List UInt8) : List UInt8 := s ++ [128] ++ List.replicate ((64 - (s.length + 9) % 64) % 64) 0 ++ yak (s.length * 8) 8
theorem yab (n : Nat) : (List.replicate n [(0 : UInt8)]).flatten = List.replicate n 0 := by
 induction n with
 | zero => rfl
 | succ n ih => rw [List.replicate_succ, List.flatten_cons, ih, List.replicate_succ]; rfl
theorem zkf (e n : Int) (h0 : 0 <= n) (h8 : n <= 8) : (yak e n).length = n.toNat := by
 rw [yak, zkg]
 unfold cl8
 omega
theorem ys5 (n : Nat) (h : n <= 1000000) : ((64 - ((((n : Int) + 1 + 9223372036854775808) % 18446744073709551616 - 9223372036854775808 + 8 + 9223372036854775808) % 18446744073709551616 - 9223372036854775808).tmod 64 + 9223372036854775808) % 18446744073709551616 - 9223372036854775808).tmod 64 = (((64 - (n + 9) % 64) % 64 : Nat) : Int) := by
 have h1 : ((((n : Int) + 1 + 9223372036854775808) % 18446744073709551616 - 9223372036854775808 + 8 + 9223372036854775808) % 18446744073709551616 - 9223372036854775808) = ((n + 9 : Nat) : Int) := by omega
 rw [h1, Int.tmod_eq_emod_of_nonneg (a := ((n + 9 : Nat) : Int)) (by omega)]
 have h2 : (64 - ((n + 9 : Nat) : Int) % 64 + 9223372036854775808) % 18446744073709551616 - 9223372036854775808 = ((64 - (n + 9) % 64 : Nat) : Int) := by omega
 rw [h2, Int.tmod_eq_emod_of_nonneg (by omega)]
 omega
theorem ykg {k : Nat} (h : k < 64) : ykh [0] (k : Int) := ⟨Int.natCast_nonneg _, by omega, by decide⟩
theorem len8 (n : Nat) (h : n <= 1000000) : (n : Int) % 18446744073709551616 * 8 % 18446744073709551616 = (n : Int) * 8 := by omega
def zn8 (L : za9) : zf3 := (75, fun xs => match xs with | [.str s] => some (L2 L upto 1000000 s, .str (L yau s)) | _ => none)
theorem zm4 : zgv Try.prog (zn8 std) := by
 intro xs p r h hp
 dsimp only [zn8] at h |-
 split at h <;> cases h
 try simp only [L2, L3, std] at hp |-
 rename_i s
 refine zaj (T := tt) (S := fun L => zdq [ykf L, zwp L]) (lo := noA) (lb := noA) 5 (fn := Try.f75) rfl rfl (by kernel_rfl) (by kernel_rfl) rfl zap (zav ⟨yfn, zjj, trivial⟩) (by kernel_rfl) ?_
 have hl : s.length <= 1000000 := hp
 have hpn := ys5 s.length hl
 have hl8 := len8 s.length hl
 (intro L P1 Q1 hL hP hQ; cbv; subst hL; simp only [L2, L3, std, syT]; subst hQ)
 (simp only [syS, reduceCtorEq, Int.reduceToNat, Int.reduceAdd, Int.reduceSub])
 rw [hpn, hl8]
 have hz : yau s = s ++ [128] ++ List.replicate ((64 - (s.length + 9) % 64) % 64) 0 ++ yak (s.length * 8) 8 := rfl
 rw [hz]
 have hk : (64 - (s.length + 9) % 64) % 64 < 64 := Nat.mod_lt _ (by decide)
 generalize (64 - (s.length + 9) % 64) % 64 = k at hk |-
 have hr : yrx [0] (k : Int) = List.replicate k 0 := by
   rw [yrx, Int.toNat_natCast, yab]
 rw [hr]
 have hput := zkf ((s.length : Int) * 8) 8 (by decide) (by decide)
 simp only [List.length_append, List.length_replicate, List.length_cons, List.length_nil, hput]
 refine ⟨by omega, by decide, by decide, ykg hk, by omega, ⟨by omega, by omega, by decide, by decide⟩, by omega, trivial⟩
def yqv (s : List UInt8) : Nat := (64 - (s.length + 9) % 64) % 64
def zj1 (n : Nat) : List Int := zmw.take n
def frA (L : za9) : Nat -> St -> Option Ann := fun id st => match id with
 | 0 => some ⟨Nat, fun n => [(5, .int .i64 (L za7 n))], fun n => [(1, .row 114 1 8 (fun i _ => .int .u32 (L2 L zaa (L zj1 n) i)))], [0, 1, 4], [0], fun n => L (fun n : Nat => n <= 8) n, fun n => L (fun n : Nat => 8 - n) n⟩
 | _ => none
def w8 (g : Nat -> AV) : AV := .agg [g 0, g 1, g 2, g 3, g 4, g 5, g 6, g 7]
theorem yhe : ∀ n : _root_.Fin 8, zg0 (zaa [2, 3, 5, 7, 11, 13, 17, 19] n.val) false = zaa zmw n.val := by decide +kernel
theorem ycu {n n' i : Nat} (hn : n' = n + 1) (h : n < 8) (hi : i < 8) : over std n 0 1 [.int .u32 (zg0 (zaa [2, 3, 5, 7, 11, 13, 17, 19] n) false)] (fun i x => .int .u32 (zaa (zj1 n) i)) i 0 = .int .u32 (zaa (zj1 n') i) := by
 rw [zee, if_pos ⟨Nat.le_refl _, by omega⟩, yhe ⟨n, h⟩]
 subst hn
 have hl : zmw.length = 8 := rfl
 by_cases hi2 : i = n
 · subst hi2
   rw [za3]
   show AV.int .u32 (zaa zmw i) = _
   rw [zj1, zaa, zaa, List.getD_eq_getElem?_getD, List.getD_eq_getElem?_getD, List.getElem?_take_of_lt (by omega)]
 · rw [zac hi2]
   show AV.int .u32 (zaa (zj1 n) i) = _
   congr 1
   rw [zj1, zj1, zaa, zaa, List.getD_eq_getElem?_getD, List.getD_eq_getElem?_getD]
   by_cases hlt : i < n
   · rw [List.getElem?_take_of_lt hlt, List.getElem?_take_of_lt (by omega)]
   · rw [List.getElem?_eq_none (by rw [List.length_take]; omega), List.getElem?_eq_none (by rw [List.length_take]; omega)]
def zom (L : za9) : zf3 := (77, fun xs => match xs with | [] => some (True, w8 fun i => .int .u32 (L2 L zaa zmw i)) | _ => none)
theorem zmv : zgv Try.prog (zom std) := by
 intro xs p r h hp
 dsimp only [zom] at h |-
 split at h <;> cases h
 try simp only [L2, L3, std] at hp |-
 refine zaj (T := tt) (S := fun L => zdq [zo7 L]) (lo := frA) (lb := noA) 5 (fn := Try.f77) rfl rfl (by kernel_rfl) (by kernel_rfl) rfl zap (zav ⟨zmk, trivial⟩) (by kernel_rfl) ?_
 intro L P' Q' hL hP hQ
 (cbv; try simp only [syT, true_and, and_true])
 refine ⟨⟨0, ?_⟩, fun n hn => ?_⟩
 · (cbv; try simp only [syT, true_and, and_true])
   (subst hL; subst hQ; simp only [L2, L3, std] at *; try simp only [syS, reduceCtorEq, Int.reduceToNat, Int.reduceAdd, Int.reduceSub] at *)
   exact ⟨fun i j hi hj => by
     have : j = 0 := by omega
     subst this
     simp [zj1, zaa]; rfl, by omega⟩
 · obtain ⟨n', hn'⟩ : ∃ n' : Nat, n' = n + 1 := ⟨_, rfl⟩
   (cbv; try simp only [syT, true_and, and_true])
   refine ⟨fun h1 => ⟨?_, ?_, n', ?_⟩, fun h1 => ?_⟩
   · (subst hL; subst hQ; simp only [L2, L3, std] at *; try simp only [syS, reduceCtorEq, Int.reduceToNat, Int.reduceAdd, Int.reduceSub] at *)
     omega
   · (subst hL; subst hQ; simp only [L2, L3, std] at *; try simp only [syS, reduceCtorEq, Int.reduceToNat, Int.reduceAdd, Int.reduceSub] at *)
     omega
   · (cbv; try simp only [syT, true_and, and_true])
     (subst hL; subst hQ; simp only [L2, L3, std] at *; try simp only [syS, reduceCtorEq, Int.reduceToNat, Int.reduceAdd, Int.reduceSub] at *)
     have h1 : n < 8 := by omega
     refine ⟨fun i j hi hj => ?_, by omega, by omega, by omega⟩
     have : j = 0 := by omega
     subst this
     exact ycu hn' h1 hi
   · unfold w8 at hQ
     (subst hL; subst hQ; simp only [L2, L3, std] at *; try simp only [syS, reduceCtorEq, Int.reduceToNat, Int.reduceAdd, Int.reduceSub] at *)
     have : n = 8 := by omega
     subst this
     exact ⟨rfl, rfl, rfl, rfl, rfl, rfl, rfl, rfl⟩
def rlS (k : Int) : Int := zxs .u64 (IntKind.u64.wrap k) 31
def rlZ (x k : Int) : Int := bor .u32 (yea .u32 x (rlS k)) (zra .u32 x (zp3 .u64 32 (rlS k)))
def yrv (L : za9) : zf3 := (100, fun xs => match xs with | [.int .u32 x, .int .i64 k] => some (True, .int .u32 (L2 L rlZ x k)) | _ => none)
theorem zgz (a : Int) : 0 <= IntKind.u64.wrap a := Int.emod_nonneg _ (by decide)
theorem zwl (k : Int) : 0 <= rlS k := zgz _
theorem yke : zgv Try.prog (yrv std) := by
 intro xs p r h hp
 dsimp only [yrv] at h |-
 split at h <;> cases h
 try simp only [L2, L3, std] at hp |-
 rename_i x k
 refine zaj (T := tt) (S := noS) (lo := noA) (lb := noA) 5 (fn := Try.f100) rfl rfl (by kernel_rfl) (by kernel_rfl) rfl zap (zix _) (by kernel_rfl) ?_
 (intro L P1 Q1 hL hP hQ; cbv; subst hL; simp only [L2, L3, std, syT]; subst hQ)
 refine ⟨decide_eq_true (zwl k), decide_eq_true (zgz _), ?_⟩
 rw [zjr]
 rfl
def rotZ (x a b c : Int) (sh : Bool) : Int := yhr .u32 (yhr .u32 (rlZ x (zp3 .i64 0 a)) (rlZ x (zp3 .i64 0 b))) (if sh then zra .u32 x c else rlZ x (zp3 .i64 0 c))
def yog (t : Int × Int × Int × Int × Bool) : Int := rotZ t.1 t.2.1 t.2.2.1 t.2.2.2.1 t.2.2.2.2
def ykd (L : za9) : zf3 := (93, fun xs => match xs with | [.int .u32 x, .int .i64 a, .int .i64 b, .int .i64 c, .bool sh] => some (L (fun c : Int => 0 <= c) c, .int .u32 (L yog (x, a, b, c, sh))) | _ => none)
theorem yfl : zgv Try.prog (ykd std) := by
 intro xs p r h hp
 dsimp only [ykd] at h |-
 split at h <;> cases h
 try simp only [L2, L3, std] at hp |-
 rename_i x a b c sh
 have hc : 0 <= c := hp
 refine zaj (T := tt) (S := fun L => zdq [yrv L]) (lo := noA) (lb := noA) 5 (fn := Try.f93) rfl rfl (by kernel_rfl) (by kernel_rfl) rfl zap (zav ⟨yke, trivial⟩) (by kernel_rfl) ?_
 (intro L P1 Q1 hL hP hQ; cbv; subst hL; simp only [L2, L3, std, syT]; subst hQ)
 refine ⟨trivial, fun h => ⟨decide_eq_true hc, trivial, trivial, ?_⟩, fun h => ⟨trivial, trivial, ?_⟩⟩
 · rw [zjr]
   subst h; rfl
 · rw [zjr]
   subst h; rfl
end Sy
end Go.Proofs.Ytogomcfgfnlclaa
