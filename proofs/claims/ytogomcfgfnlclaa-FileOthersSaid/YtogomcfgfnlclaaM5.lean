/-Small facts on worlds, strings as lists of bytes, rows of bytes: used by every walk of this seat; no statement of the seat is proved here; and what stands between these and the texts behind.-/
import Derived.Test.YtogomcfgfnlclaaRows
import Derived.WalkKit
import Derived.WalkSpells
import Derived.WalkLawsBesides
import Derived.Deep.DeepCutAuto
import Derived.Deep.OwnRows
import Derived.Laws.IdiomStrings
import Derived.Lib.Hide
import Derived.Below
import Derived.ChangeSame
import Derived.ScopeJumps
import Derived.ProofKit
import Derived.OpenShut
import Derived.Carry
import Derived.Lib.SmallJoins
import Derived.RegionTactic
import Derived.BigRegion
import Derived.Test.YtogomcfgfnlclaaM4
import Derived.Tactics
import Derived.Tactics2
import Derived.StillTactics
import Derived.Laws.Cells
import Derived.Laws.Pointers
import Derived.Laws.Sem
import Derived.Laws.Small
import Derived.LoopTactic
import Derived.LoopN
import Derived.Laws.IdiomRangeMap
import Derived.Maps.RangeRun
import Derived.Shelf.SlIter.Nil
import Derived.Shelf.SortM.Plain
import Derived.Shelf.SortM.SortNone
import Derived.Shelf.SlMaps.Clone
import Derived.Ground.GgzProg
import Derived.Ground.SlgmProg
import Derived.Ground.SlmcProg
import Derived.Test.YtogomcfgfnlclaaProg
import Derived.Test.YtogomcfgfnlclaaShelf
import Derived.ChangeArms
import Derived.ChangeSlices
import Derived.WideShapes
import Derived.Lib.Builder
namespace Go.Proofs.Ytogomcfgfnlclaa
open Go.RowKit Go.WideShapes Go.ChangeShapes Go.ChangeAt
def zks (b : UInt8) : Value := .int .u8 (b.toNat : Int)
def str (l : List UInt8) : Value := .string ⟨l.toArray⟩
theorem zgs (n : Nat) : zks (UInt8.ofNat n) = .int .u8 ((n : Int) % 256) := by
 have h : (((UInt8.ofNat n).toNat : Nat) : Int) = (n : Int) % 256 := by
   rw [UInt8.toNat_ofNat']; omega
 unfold zks; rw [h]
@[go_sem] theorem ba_get (l : List UInt8) (k : Nat) (h : k < (⟨l.toArray⟩ : ByteArray).size) : (⟨l.toArray⟩ : ByteArray)[k] = l[k]'h := rfl
@[go_sem] theorem ba_append (a b : List UInt8) : (⟨a.toArray⟩ : ByteArray) ++ ⟨b.toArray⟩ = ⟨(a ++ b).toArray⟩ := by
 apply ByteArray.ext; simp
theorem zhr (l : List UInt8) (a b : Nat) : (⟨l.toArray⟩ : ByteArray).extract a b = ⟨((l.drop a).take (b - a)).toArray⟩ := by
 apply ByteArray.ext; simp [ByteArray.data_extract]
@[go_sem] theorem ba_extract_all (l : List UInt8) (a : Nat) : (⟨l.toArray⟩ : ByteArray).extract a l.length = ⟨(l.drop a).toArray⟩ := by
 rw [zhr, List.take_of_length_le (by simp)]
@[go_sem] theorem ba_extract_zero (l : List UInt8) (b : Nat) : (⟨l.toArray⟩ : ByteArray).extract 0 b = ⟨(l.take b).toArray⟩ := by
 rw [zhr, List.drop_zero, Nat.sub_zero]
@[go_sem] theorem wrap_byte_u64 (b : UInt8) : IntKind.u64.wrap (b.toNat : Int) = b.toNat := by
 have := b.toNat_lt; rw [IntKind.wrap_u64]; omega
@[go_sem] theorem wrap_byte_u32 (b : UInt8) : IntKind.u32.wrap (b.toNat : Int) = b.toNat := by
 have := b.toNat_lt; rw [IntKind.wrap_u32]; omega
@[go_sem] theorem wrap_byte_u16 (b : UInt8) : IntKind.u16.wrap (b.toNat : Int) = b.toNat := by
 have := b.toNat_lt; rw [IntKind.wrap_u16]; omega
@[go_sem] theorem wrap_byte_u8 (b : UInt8) : IntKind.u8.wrap (b.toNat : Int) = b.toNat := by
 have := b.toNat_lt; rw [IntKind.wrap_u8]; omega
@[go_sem] theorem wrap_byte_i64 (b : UInt8) : IntKind.i64.wrap (b.toNat : Int) = b.toNat := by
 have := b.toNat_lt; rw [IntKind.wrap_i64]; omega
theorem zhs (g j : Nat) : (⟨g, 0, none⟩ : Addr).add j = ⟨g, j, none⟩ := by
 unfold Addr.add
 split
 · rename_i h; rw [h]
 · rw [Nat.zero_add]
theorem yfs {P : Program} {w : World} {src dst e : TypeId} {g n cap : Nat} {f : Nat -> Value} (l : List UInt8) (hs : P.underlying src = some (.slice e)) (he : P.underlying e = some (.int .u8)) (hd : P.underlying dst = some .string)
   (hr : w.rowIs g e n f) (hl : l.length = n) (hf : ∀ i (hi : i < l.length), f i = zks l[i]) :
   (convert src dst (.slice (some ⟨g, 0, none⟩) n cap)).run P w = .ok (.string ⟨l.toArray⟩) w := by
 subst hl
 refine run_convert_bytes_back w src dst e _ cap l hs he hd fun j hj => ?_
 have := hr.cell hj
 rw [hf j hj] at this
 rw [zhs]
 exact this
def Row (w : World) (b : Nat) (t : TypeId) (n : Nat) (f : Nat -> Value) : Prop :=
 ∃ (c : Array Value) (lo hi : Nat), w.heap[b]? = some (.cells c t (lo, hi)) /\ n <= c.size /\ (hi = 0 \/ n <= lo) /\ ∀ i, i < n -> c[i]? = some (f i)
section
variable {w w' : World} {b : Nat} {t : TypeId} {n : Nat} {f g : Nat -> Value}
theorem Row.cell (h : Row w b t n f) {i : Nat} (hi : i < n) : w.cell? ⟨b, i, none⟩ = some (f i) := by
 obtain ⟨c, lo, hi', hb, _, _, hc⟩ := h
 simp [World.cell?, hb, hc i hi]
theorem Row.frozen (h : Row w b t n f) {i : Nat} (hi : i < n) : w.frozen? ⟨b, i, none⟩ = false := by
 obtain ⟨c, lo, hi', hb, _, hf, _⟩ := h
 simp only [World.frozen?, hb]
 rcases hf with hf | hf
 · subst hf; simp
 · simp; omega
theorem Row.lt (h : Row w b t n f) : b < w.heap.size := by
 obtain ⟨c, lo, hi, hb, _⟩ := h
 exact (Array.getElem?_eq_some_iff.1 hb).1
theorem Row.congr (h : Row w b t n f) (e : ∀ i, i < n -> f i = g i) : Row w b t n g := by
 obtain ⟨c, lo, hi, hb, hn, hf, hc⟩ := h
 exact ⟨c, lo, hi, hb, hn, hf, fun i hi => by rw [hc i hi, e i hi]⟩
theorem Row.of_block (h : Row w b t n f) (e : w'.heap[b]? = w.heap[b]?) : Row w' b t n f := by
 obtain ⟨c, lo, hi, hb, hn, hf, hc⟩ := h
 exact ⟨c, lo, hi, e.trans hb, hn, hf, hc⟩
theorem Row.set (h : Row w b t n f) (i : Nat) (v : Value) : Row (w.setCell ⟨b, i, none⟩ v) b t n (fun j => if j = i then v else f j) := by
 obtain ⟨c, lo, hi', hb, hn, hf, hc⟩ := h
 refine ⟨c.setIfInBounds i v, lo, hi', ?_, by simpa using hn, hf, fun j hj => ?_⟩
 · simp [World.setCell, Array.getElem?_modify, hb]
 · rw [Array.getElem?_setIfInBounds]
   by_cases e : i = j
   · subst e
     have : i < c.size := by omega
     simp [this]
   · rw [if_neg e, hc j hj]
     show _ = some (if j = i then v else f j)
     rw [if_neg (fun (h : j = i) => e h.symm)]
theorem Row.alloc (h : Row w b t n f) (o : Obj) : Row (w.alloc o) b t n f := h.of_block (Below.heap_alloc _ _ _ h.lt)
theorem Row.bytes (w : World) (t : TypeId) (l : List UInt8) (cap : Nat) : Row (w.alloc (.cells (bytesRow ⟨l.toArray⟩ cap) t ((bytesRow ⟨l.toArray⟩ cap).size, (bytesRow ⟨l.toArray⟩ cap).size + 1))) w.heap.size t l.length (fun j => zks (l.getD j 0)) := by
 refine ⟨bytesRow ⟨l.toArray⟩ cap, _, _, heap_alloc_new _ _, by simp [bytesRow], .inr (by simp [bytesRow]), fun i hi => ?_⟩
 rw [bytesRow_at _ _ _ (by simpa using hi)]
 simp [zks, hi]
end
def Blk (w : World) (g : Nat) (t : TypeId) (cs : Array Value) : Prop := w.heap[g]? = some (.cells cs t (0, 0))
section
variable {w w' : World} {g : Nat} {t : TypeId} {cs : Array Value}
theorem Blk.lt (h : Blk w g t cs) : g < w.heap.size := by
 rcases Nat.lt_or_ge g w.heap.size with hlt | hge
 · exact hlt
 · unfold Blk at h; rw [Array.getElem?_eq_none hge] at h; cases h
theorem Blk.cell (h : Blk w g t cs) (i : Nat) : w.cell? ⟨g, i, none⟩ = cs[i]? := cell_of_row w g i cs t (0, 0) h
theorem Blk.frozen (h : Blk w g t cs) (i : Nat) : w.frozen? ⟨g, i, none⟩ = false := by
 unfold Blk at h
 simp [World.frozen?, h]
theorem Blk.new (w : World) (t : TypeId) (cs : Array Value) : Blk (w.alloc (.cells cs t)) w.heap.size t cs := heap_alloc_new w _
theorem Blk.drew (h : Blk w g t cs) : Blk w.drew g t cs := h
theorem Blk.alloc (h : Blk w g t cs) (o : Obj) : Blk (w.alloc o) g t cs := (Below.heap_alloc w o g h.lt).trans h
theorem Blk.grown {row : Option Nat} (h : Blk w g t cs) (hb : w.grownBy w' row) (hg : some g ≠ row) : Blk w' g t cs := (hb.block g h.lt hg).trans h
end
theorem zkr {base : Nat} {e : TypeId} {size n : Nat} {v : Value} {xs : List Value} {w w' : World} (hown : w.ownsRow base e size v n xs) (hb : base <= w.heap.size) (hg : w.grownBy w' v.ownBlock) : Below base w w' :=
 (Below.refl _ _).grown hg hb fun k hk => (hown.lt k hk).1
theorem zja {P : Program} {ops : Array Oper} {rest : List Oper} {o : Oper} {a : Act} {Q : Exit -> Act -> World -> Prop} (wr : World) (hgd : o.guard = none) (s x : Operand) (t : TypeId)
   (ho : o.op = .call { callee := .builtin .append, args := #[s, x], argTypes := #[t, t] })
   (base : Nat) (e : TypeId) (z : Value) (bytes : Nat) (ht : P.underlying t = some (.slice e)) (hinfo : (P.info? e).map (fun i => (i.zero, i.size, i.bytes)) = some (some z, 1, bytes)) (hz1 : z.cells.size = 1)
   (v : Value) (n : Nat) (xs : List Value) (hs : a.eval s = v) (hown : wr.ownsRow base e 1 v n xs)
   (c : Value) (h1 : c.oneCell' = true) (hx : a.eval x = .slice (some ⟨wr.heap.size, 0, none⟩) 1 1)
   (hbytes : (n + 1) * bytes <= 140737488355328) (hn : n < 9223372036854775807) (hbase : base <= wr.heap.size)
   (h : ∀ v' w', w'.ownsRow base e 1 v' (n + 1) (xs ++ [c]) -> Below base wr w' -> wpList P ops Q rest (a.put o.dst v') w') : wpList P ops Q (o :: rest) a (wr.alloc (.cells #[c] e)) := by
 obtain ⟨i, hi, hzz⟩ := Option.map_eq_some_iff.1 hinfo
 simp only [Prod.mk.injEq] at hzz
 obtain ⟨hz, hsz, hby⟩ := hzz
 have hown' := hown.alloc (.cells #[c] e)
 refine wpList_append_own _ hgd s x t ho base e i z 1 bytes ht hi hz hsz hby hz1 (by decide) v n xs hs hown' ⟨wr.heap.size, 0, none⟩ 1 1 [c] hx rfl ?_ ?_ ?_ hbytes ?_ ?_
 · intro j u hj
   match j, hj with
   | 0, hj =>
     simp at hj; subst hj
     rw [zhs, cell_of_row _ _ _ _ _ _ (heap_alloc_new wr _)]; rfl
 · intro u hu
   simp at hu; subst hu; exact h1
 · unfold maxLen; omega
 · simp; omega
 · intro v' w' ho' hg _
   exact h v' w' ho' (((Below.refl _ _).alloc hbase _).trans (zkr hown' (by simp; omega) hg))
theorem zw8 {P : Program} {src dst e : TypeId} (hs : P.underlying src = some (.slice e)) (he : P.underlying e = some (.int .u8)) (hd : P.underlying dst = some .string) {w : World} {base n : Nat} {v : Value} (l : List UInt8)
   (h : w.ownsRow base e 1 v n (l.map zks)) : (convert src dst v).run P w = .ok (.string ⟨l.toArray⟩) w := by
 rcases h.2 with ⟨rfl, rfl⟩ | ⟨g, cap, cur, rfl, _, hh, hnc, _, hsz, hx⟩
 · have hl : l = [] := by have := h.1; simpa using this
   subst hl
   rw [run_convert_bytes_string w src dst e none 0 0 hs he hd]
   simp [Conv.bytesToString]; rfl
 · have hl : l.length = n := by have := h.1; simpa using this
   subst hl
   refine run_convert_bytes_back w src dst e _ cap l hs he hd fun j hj => ?_
   have := h.cells (g := g) rfl j (zks l[j]) (by simp [hj])
   exact this
theorem zys {a b : List UInt8} (h : a = b) : Ending.returned (.string ⟨a.toArray⟩) = .returned (.string ⟨b.toArray⟩) := by rw [h]
theorem zgi {P : Program} {a : Act} {w : World} {Q : Exit -> Act -> World -> Prop} {c rest : Code} (l : Nat) (J : Act -> World -> Prop) (μ : Act -> World -> Nat) (hf : findLabel c l = some (.seq .skip rest))
   (pass : ∀ a w, J a w -> rest.wp P (Exit.jump l (fun a' w' => J a' w' /\ μ a' w' < μ a w) Q) a w)
   (first : Hid (∀ a w, J a w -> rest.wp P (Exit.jump l J Q) a w) -> c.wp P (Exit.jump l J Q) a w) : (Code.scope c).wp P Q a w := by
 refine wp_scope_jumps l J μ hf (first fun a w hJ => Code.wp_mono (fun e a' w' hq => ?_) (pass a w hJ)) fun a w hJ => wp_seq (wp_skip (pass a w hJ))
 cases e <;> first | exact hq | exact ⟨hq.1, hq.2.1⟩
section
variable {l : Nat} {J : Act -> World -> Prop} {Q : Exit -> Act -> World -> Prop} {a : Act} {w : World}
@[go_sem] theorem jump_normal : Exit.jump l J Q .normal a w = Q .normal a w := rfl
@[go_sem] theorem jump_exit (id : Nat) : Exit.jump l J Q (.exit id) a w = Q (.exit id) a w := rfl
@[go_sem] theorem jump_ret : Exit.jump l J Q .ret a w = Q .ret a w := rfl
@[go_sem] theorem jump_panic (ch : List PanicEntry) : Exit.jump l J Q (.panic ch) a w = Q (.panic ch) a w := rfl
end
section
variable {H : Type} {enc : TypeId × Value -> H} {P : Program}
theorem zmt {f : Func} {s : ChangeSpec} {apart fresh handsOn again : Bool} {W W' : World} {args : Array Value} {v : Value} {ds gs : List (DataW H)} {before pa pv : List MemPlace}
   (hW : DataW.Whole enc P f.params.toList s.vars apart W args.toList ds gs before)
   (hres : ∀ (b : Nat) (sp : Nat -> Bool) (hd : Bool), DataW.TrodAll enc P W' b sp hd f.resultTypes.toList (v.resultList f.resultTypes.size) (s.fn H (ds ++ gs)).results [])
   (hargs : ∀ sp : Nat -> Bool, (∀ p ∈ before, sp p.block = true) -> DataW.TrodAll enc P W' 0 sp true f.params.toList args.toList (s.fn H (ds ++ gs)).args pa)
   (hvars : ∀ sp : Nat -> Bool, (∀ p ∈ before, sp p.block = true) -> DataW.TrodVars enc P W' sp s.vars (s.fn H (ds ++ gs)).vars pv)
   (hps : before = pa ++ pv) (hb : Below W.heap.size W W')
   (hok : ∀ (j : Nat) (t : TypeId) (r : Value), f.resultTypes[j]? = some t -> (v.resultList f.resultTypes.size)[j]? = some r -> Value.okWide P W' .any 0 t r) :
   s.post enc P f apart fresh handsOn again W args v W' := by
 have hlt : ∀ p ∈ before, p.block < W.heap.size := fun p hp => hW.lt p hp
 have hold : ∀ p ∈ before, (fun b => decide (b < W.heap.size)) p.block = true := fun p hp => by simpa using hlt p hp
 refine ⟨ds, gs, before, [], pa, pv, hW, hres _ _ _, hargs _ hold, hvars _ hold, World.keptBut_mono (fun p hp => ⟨hp, ?_⟩) (hb.frame (· ∈ before)), fun _ => ?_⟩
 · rw [hps, List.mem_append] at hp
   exact Or.inr hp
 · obtain ⟨_, _, _, _, _, hz, hn⟩ := hW
   refine ⟨hok, _, _, ([] ++ pa) ++ pv, ⟨[] ++ pa, pv, trodAll_append (hargs _ (fun _ _ => rfl)) (hres _ _ _), hvars _ (fun _ _ => rfl), rfl, ?_, ?_⟩, ?_⟩
   · intro b off hp
     have hin : MemPlace.cell b off ∈ before := by rw [hps]; simpa using hp
     rw [hb.frozen (hlt _ hin)]
     exact hz b off hin
   · intro ha
     have := hn ha
     rw [hps] at this
     simpa using this
   · intro p hp _
     rw [hps]
     simpa using hp
theorem zgx (hl : laidOutB P = true) {W W' : World} (hb : Below W.heap.size W W') {sp : Nat -> Bool} :
   ∀ {ts : List TypeId} {vs : List Value} {ds : List (DataW H)} {ps : List MemPlace}, (∀ t ∈ ts, P.readableRec t = true /\ t < P.types.size) ->
   DataW.TrodAll enc P W 0 (fun _ => true) true ts vs ds ps -> (∀ x ∈ ps, x.block < W.heap.size) -> (∀ x ∈ ps, sp x.block = true) -> DataW.TrodAll enc P W' 0 sp true ts vs ds ps
 | [], [], [], _, _, h, _, _ => h
 | _ :: _, _ :: _, _ :: _, _, hr, ⟨p, q, h1, h2, e⟩, hlt, hs =>
   ⟨p, q, WideElems.Trod_stays hl (hr _ (List.mem_cons.2 (Or.inl rfl))).1 (hr _ (List.mem_cons.2 (Or.inl rfl))).2 h1
       (fun x hx => hb.same (hlt x (by rw [e]; exact List.mem_append_left _ hx))) (fun x hx => hs x (by rw [e]; exact List.mem_append_left _ hx)),
     zgx hl hb (fun t ht => hr t (List.mem_cons.2 (Or.inr ht))) h2 (fun x hx => hlt x (by rw [e]; exact List.mem_append_right _ hx)) (fun x hx => hs x (by rw [e]; exact List.mem_append_right _ hx)), e⟩
theorem post_law {f : Func} {s : ChangeSpec} {apart fresh handsOn again : Bool} {W W' : World} {args : Array Value} {ds : List (DataW H)} {before : List MemPlace} {tb : TypeId}
   (hl : laidOutB P = true) (hr : (f.params.toList.all fun t => P.readableRec t && decide (t < P.types.size)) = true) (hbt : f.resultTypes = #[tb]) (hub : P.underlying tb = some .bool) (hsv : s.vars = [])
   (hW : DataW.Whole enc P f.params.toList s.vars apart W args.toList ds [] before)
   (hfn : s.fn H (ds ++ []) = { results := [.lit (.bool true)], args := ds }) (hb : Below W.heap.size W W') :
   s.post enc P f apart fresh handsOn again W args (.bool true) W' := by
 have hlt : ∀ p ∈ before, p.block < W.heap.size := fun p hp => hW.lt p hp
 obtain ⟨p, q, hA, hV, hpq, _, _⟩ := id hW
 rw [hsv] at hV
 have hq : q = [] := hV
 subst hq
 rw [List.append_nil] at hpq
 subst hpq
 refine zmt (pa := before) (pv := []) hW ?_ ?_ ?_ (by simp) hb ?_
 · intro _ _ _
   rw [hfn, hbt]
   exact trodAll_mk1 (shut_bool hub true)
 · intro sp hsp
   rw [hfn]
   exact zgx hl hb (fun t ht => by simpa using List.all_eq_true.1 hr t ht) hA hlt hsp
 · intro sp _
   rw [hfn, hsv]
   rfl
 · exact ok_one hbt rfl (okWide_bool_mk hub true)
end
end Go.Proofs.Ytogomcfgfnlclaa
namespace Go.Proofs.Ytogomcfgfnlclaa
open Go.RowKit
theorem i5 : (Try.prog.info? 5).map (fun i => (i.zero, i.size, i.bytes)) = some (some (.int .u8 0), 1, 1) := by kernel_rfl
def cl8 (k : Int) : Nat := (min (max k 0) 8).toNat
def zz4 (n : Nat) : Nat -> List UInt8
 | 0 => []
 | i+1 => UInt8.ofNat (n / 256^i) :: zz4 n i
theorem ynv (k : Int) : cl8 k <= 8 := by unfold cl8; omega
theorem zjs (n c : Nat) : (zz4 n c).length = c := by induction c <;> simp_all [zz4]
theorem ydy (n c t : Nat) (h : t < (zz4 n c).length) : (zz4 n c)[t] = UInt8.ofNat (n / 256 ^ (c - 1 - t)) := by
 induction c generalizing t with
 | zero => simp [zz4] at h
 | succ c ih =>
   rcases t with _ | t
   · simp [zz4]
   · simp only [zz4, List.getElem_cons_succ]
     rw [ih]
     congr 3; omega
set_option maxRecDepth 100000 in
set_option maxHeartbeats 400000 in
theorem yiu (n : Nat) (k : Int) (w : World) (_hn : n < 18446744073709551616) :
   Calls Try.prog 61 #[.int .u64 n, .int .i64 k] w fun e w' => e = .returned (.string ⟨(zz4 n (cl8 k)).toArray⟩) /\ Below w.heap.size w w' := by
 have h8 := ynv k
 have hmk := fun W => run_make_row' (P := Try.prog) 73 5 (.int .u8 0) 1 Try.underlying73 i5 rfl .i64 .i64 (cl8 k) (by omega) (by omega) W
 go_enter Try.func61, Try.ntmps61
 go_upto_region 1 with (fail)
 go_cut [1] (fun v wx => v = .int .i64 (cl8 k) /\ w = wx)
 case first =>
   go_wp2
   all_goals (go_meet; exact ⟨by unfold cl8; go_num, rfl⟩)
 case rest =>
   obtain ⟨rfl, rfl⟩ := hcut
   generalize hc : cl8 k = c at *
   have Hc := Lib.hid hc
   clear hc
   go_wp2
   go_loopw [0, 6] (fun m i wr => ∃ j x : Nat, j <= c /\ i = .int .i64 ((j : Int) - 1) /\ m = .int .u64 (x : Int) /\ Hid (x = n / 256 ^ (c - j)) /\
      wr.rowIs w.heap.size 5 c (fun t => if t < j then .int .u8 0 else zks (UInt8.ofNat (n / 256 ^ (c - 1 - t)))) /\ Below w.heap.size w wr) (fun _ i _ => (intOf i + 1).toNat)
   case atStart =>
     refine ⟨c, n, by omega, by simp, by simp, Lib.hid (by simp), ?_, ?_⟩
     · exact (World.rowIs_made w (.int .u8 0) c 5).congr (fun i hi => by simp [hi])
     · exact (Below.refl _ _).alloc (Nat.le_refl _) _
   case round =>
     obtain ⟨j, x, hj, rfl, rfl, hx, hrow, hb⟩ := hrel
     rcases j with _ | j
     · have hconv := fun cc => yfs (P := Try.prog) (src := 73) (dst := 9) (cap := cc) (zz4 n c) Try.underlying73 Try.underlying5 Try.underlying9 hrow (zjs n c) (fun i hi => by simp [ydy])
       go_wp2
       go_ret
       exact ⟨zys (by rw [Hc.out]), hb⟩
     · have hc := hrow.cell (i := j) (by omega)
       have hf := hrow.frozen j
       have hs := hrow.set j (.int .u8 ((x : Int) % 256))
       have hB := hb.setCell (p := ⟨w.heap.size, j, none⟩) (Nat.le_refl _) (.int .u8 ((x : Int) % 256))
       have h0 : ((j + 1 : Nat) : Int) - 1 = j := by omega
       rw [h0]
       simp only [Nat.lt_succ_self, if_true] at hc
       clear hrow hb h0
       go_wp2
       go_roundw
       case rel =>
         refine ⟨j, x / 256, by omega, rfl, rfl, Lib.hid ?_, hs.congr fun t ht => ?_, hB⟩
         · rw [hx.out, Nat.div_div_eq_div_mul, <- Nat.pow_succ]; congr 2; omega
         · by_cases h1 : t = j
           · subst h1; rw [if_pos rfl, if_neg (by omega), zgs, hx.out, show c - (t + 1) = c - 1 - t by omega]
           · rw [if_neg h1]
             by_cases h2 : t < j
             · rw [if_pos h2, if_pos (by omega)]
             · rw [if_neg h2, if_neg (by omega)]
       case measure => simp [intOf] <;> omega
def zwo (l : List UInt8) : Nat := l.foldl (fun n b => n * 256 + b.toNat) 0
theorem zpn (l : List UInt8) (b : UInt8) : zwo (l ++ [b]) = zwo l * 256 + b.toNat := by simp [zwo]
theorem zki (l : List UInt8) (k : Nat) (h : k < l.length) : zwo (l.take (k + 1)) = zwo (l.take k) * 256 + l[k].toNat := by
 rw [List.take_succ_eq_append_getElem h, zpn]
theorem yjy (l : List UInt8) : zwo l < 256 ^ l.length := by
 rw [<- List.reverse_reverse l]
 induction l.reverse with
 | nil => simp [zwo]
 | cons b l ih =>
   rw [List.reverse_cons, zpn, List.length_append, List.length_singleton, Nat.pow_succ]
   have := b.toNat_lt
   omega
theorem yfb (l : List UInt8) (k : Nat) (h : k < l.length) (h8 : l.length <= 8) : zwo (l.take k) < 72057594037927936 := by
 have h1 := yjy (l.take k)
 have h2 : (l.take k).length <= 7 := by rw [List.length_take]; omega
 have h3 : 256 ^ (l.take k).length <= 256 ^ 7 := Nat.pow_le_pow_right (by omega) h2
 omega
theorem yix (x : Nat) (b : UInt8) (h : x < 72057594037927936) : bits .or .u64 ((x : Int) * 256) (b.toNat : Int) = ((x * 256 + b.toNat : Nat) : Int) := by
 have hb := b.toNat_lt
 have := u64_or_nat (x * 256) b.toNat (by omega) (by omega)
 rw [nat_join 8 (x * 256) b.toNat (by omega) (by omega)] at this
 rw [<- this]; congr 1
set_option maxRecDepth 100000 in
set_option maxHeartbeats 400000 in
theorem yjx (l : List UInt8) (w : World) (h1 : 1 <= l.length) (h8 : l.length <= 8) :
   Calls Try.prog 92 #[.string ⟨l.toArray⟩] w fun e w' => e = .returned (.tuple #[.int .u64 (zwo l), .int .i64 0]) /\ w = w' := by
 have hne : (l == []) = false := by cases l <;> simp_all
 have hne' : l ≠ [] := by intro h; simp [h] at h1
 go_enter Try.func92, Try.ntmps92
 go_wp2
 refine zgi 0 (fun a' w' => w = w' /\ ∃ (k x : Nat), Hid (x = zwo (l.take k)) /\ k < l.length /\ x < 72057594037927936 /\ ∃ u1 u2 u3 u6 u7 u8 u9 u10 u11 u12 u13 u14 u15 u16 u17 u18 u19 u20 u21 u22 u23 u24 : Value, a' = ⟨#[.string ⟨l.toArray⟩, u1, u2, u3, .int .u64 (x : Int), .int .i64 (k : Int), u6, u7, u8, u9, u10, u11, u12, u13, u14, u15, u16, u17, u18, u19, u20, u21, u22, u23, u24], []⟩) (fun a' _ => l.length - (intOf (a'.tmps.getD 5 undef)).toNat) rfl ?_ ?_
 · rintro a' w' ⟨rfl, k, x, hx, hk, hx7, u1, u2, u3, u6, u7, u8, u9, u10, u11, u12, u13, u14, u15, u16, u17, u18, u19, u20, u21, u22, u23, u24, rfl⟩
   have hor := yix x l[k] hx7
   go_wp2
   · go_step3
     exact ⟨rfl, ⟨rfl, k + 1, x * 256 + l[k].toNat, Lib.hid (by rw [zki l k hk, hx.out]), by omega, by have := yfb l (k + 1) (by omega) h8; rw [zki l k hk, <- hx.out] at this; exact this, _, _, _, _, _, _, _, _, _, _, _, _, _, _, _, _, _, _, _, _, _, _, by go_num⟩, by simp [intOf] <;> omega⟩
   · go_ret2
     refine ⟨?_, rfl⟩
     have : zwo l = x * 256 + l[k].toNat := by rw [hx.out, <- zki l k hk, List.take_of_length_le (by omega)]
     rw [this]; rfl
 · intro hP
   go_wp2
   go_step3
   simp only [Exit.then]
   apply_assumption
   exact hP.out _ _ ⟨rfl, 0, 0, Lib.hid rfl, by omega, by omega, _, _, _, _, _, _, _, _, _, _, _, _, _, _, _, _, _, _, _, _, _, _, rfl⟩
def zdo (n : Nat) : List UInt8 := if n < 128 then [UInt8.ofNat n] else UInt8.ofNat (n % 128 + 128) :: zdo (n / 128)
termination_by n
decreasing_by omega
theorem zde {n : Nat} (h : n < 128) : zdo n = [UInt8.ofNat n] := by rw [zdo, if_pos h]
theorem zg0 {n : Nat} (h : 128 <= n) : zdo n = UInt8.ofNat (n % 128 + 128) :: zdo (n / 128) := by rw [zdo, if_neg (by omega)]
theorem ypr (x : Nat) : bits .or .u8 ((x : Int) % 256) 128 = (x : Int) % 128 + 128 := by
 have h := u8_or_nat (x % 256) 128 (by omega) (by omega)
 have h2 : x % 256 ||| 128 = x % 128 + 128 := by
   have e1 : x % 256 = x % 128 + x / 128 % 2 * 128 := by omega
   have h3 : x / 128 % 2 = 0 \/ x / 128 % 2 = 1 := by omega
   have j1 : ∀ y, y < 128 -> 128 ||| y = 128 + y := fun y hy => nat_join 7 128 y (by decide) hy
   have e2 : ∀ y, y < 128 -> (y + 128) ||| 128 = y + 128 := fun y hy => by
     rw [Nat.add_comm y 128, <- j1 y hy, Nat.or_comm 128 y, Nat.or_assoc, Nat.or_self]
   rcases h3 with h3 | h3
   · rw [e1, h3, Nat.or_comm]; simp only [Nat.zero_mul, Nat.add_zero]; rw [j1 _ (by omega)]; omega
   · rw [e1, h3, Nat.one_mul, e2 _ (by omega)]
 rw [h2] at h
 have e : (((x % 256 : Nat) : Int)) = (x : Int) % 256 := by omega
 rw [e] at h
 rw [show ((128 : Nat) : Int) = 128 from rfl] at h
 rw [h]; omega
set_option maxRecDepth 100000 in
set_option maxHeartbeats 400000 in
theorem zxj (n : Nat) (w : World) (hn : n < 18446744073709551616) :
   Calls Try.prog 52 #[.int .u64 n] w fun e w' => e = .returned (.string ⟨(zdo n).toArray⟩) /\ Below w.heap.size w w' := by
 go_enter Try.func52, Try.ntmps52
 go_wp2
 refine zgi 0 (fun a' w' => Below w.heap.size w w' /\ ∃ (x k : Nat) (v : Value) (pre : List UInt8), Hid (pre ++ zdo x = zdo n) /\ x < 18446744073709551616 /\ k <= 10 /\ Hid (x * 128 ^ k <= n) /\ w'.ownsRow w.heap.size 5 1 v k (pre.map zks) /\ ∃ u1 u2 u4 u5 u6 u7 u8 u9 u10 u11 u12 u13 u14 u15 u16 u17 u18 u19 : Value, a' = ⟨#[.int .u64 (x : Int), u1, u2, v, u4, u5, u6, u7, u8, u9, u10, u11, u12, u13, u14, u15, u16, u17, u18, u19], []⟩) (fun a' _ => (intOf (a'.tmps.getD 0 undef)).toNat) rfl ?_ ?_
 · rintro a' wr ⟨hb, x, k, v, pre, hpre, hx, hk, hxk, hown, u1, u2, u4, u5, u6, u7, u8, u9, u10, u11, u12, u13, u14, u15, u16, u17, u18, u19, rfl⟩
   have hor := ypr x
   have hsz := hb.size
   by_cases hlt : x < 128
   · have hx8 : ∀ w1 : World, ∀ v1, w1.ownsRow w.heap.size 5 1 v1 (k + 1) (List.map zks pre ++ [Value.int .u8 (x : Int)]) -> (convert 73 9 v1).run Try.prog w1 = .ok (.string ⟨(pre ++ [UInt8.ofNat x]).toArray⟩) w1 := fun w1 v1 h =>
       zw8 (P := Try.prog) (src := 73) (dst := 9) (e := 5) Try.underlying73 Try.underlying5 Try.underlying9 (pre ++ [UInt8.ofNat x]) (by
         have e : (Value.int .u8 (x : Int)) = zks (UInt8.ofNat x) := by rw [zgs]; go_num
         rw [List.map_append, List.map_singleton, <- e]; exact h)
     have Hx8 := Lib.hid hx8
     clear hx8
     go_wp2_with (at_builtin; refine zja _ rfl _ _ 73 rfl w.heap.size 5 (.int .u8 0) 1 Try.underlying73 i5 rfl _ _ _ rfl hown _ rfl rfl (by omega) (by omega) hsz ?_; intro v1 w1 hown1 hb1; have hcv := Hx8.out w1 v1 hown1; clear hown1 hown hor)
     go_ret
     exact ⟨zys (by rw [<- hpre.out, zde hlt]), hb.trans (by assumption)⟩
   · go_wp2_with (at_builtin; refine zja _ rfl _ _ 73 rfl w.heap.size 5 (.int .u8 0) 1 Try.underlying73 i5 rfl _ _ _ rfl hown _ rfl rfl (by omega) (by omega) hsz ?_; intro v1 w1 hown1 hb1)
     go_step3
     have h128 : 128 * 128 ^ k <= n := Nat.le_trans (Nat.mul_le_mul_right _ (by omega)) hxk.out
     have hk9 : k + 1 <= 10 := by
       refine Decidable.byContradiction fun h => ?_
       have : 128 ^ 10 <= 128 ^ k := Nat.pow_le_pow_right (by decide) (by omega)
       have h3 : (128 : Nat) ^ 10 = 1180591620717411303424 := by decide
       omega
     exact ⟨rfl, ⟨hb.trans hb1, x / 128, k + 1, v1, pre ++ [UInt8.ofNat (x % 128 + 128)], Lib.hid (by rw [List.append_assoc, <- hpre.out, zg0 (n := x) (by omega)]; rfl), by omega, hk9, Lib.hid (by
       rw [Nat.pow_succ]; have h4 : x / 128 * (128 ^ k * 128) <= x * 128 ^ k := by
         rw [Nat.mul_comm (128 ^ k) 128, <- Nat.mul_assoc]; exact Nat.mul_le_mul_right _ (by omega)
       exact Nat.le_trans h4 hxk.out), by
       rw [List.map_append, List.map_singleton, zgs]; rw [show (((x % 128 + 128 : Nat) : Int) % 256) = (x : Int) % 128 + 128 by omega]; exact hown1, _, _, _, _, _, _, _, _, _, _, _, _, _, _, _, _, _, _, rfl⟩, by simp [intOf]; omega⟩
 · intro hP
   go_wp2
   go_step3
   simp only [Exit.then]
   apply_assumption
   exact hP.out _ _ ⟨Below.refl _ _, n, 0, _, [], Lib.hid rfl, hn, by omega, Lib.hid (by simp), World.ownsRow_nil _ _ _ _, _, _, _, _, _, _, _, _, _, _, _, _, _, _, _, _, _, _, rfl⟩
end Go.Proofs.Ytogomcfgfnlclaa
namespace Go.Proofs.Ytogomcfgfnlclaa
open Go.RowKit
def zwi (w : World) (g : Nat) (ps : List (List UInt8)) : Prop := ∀ j (h : j < ps.length), w.cell? ⟨g, j, none⟩ = some (.string ⟨ps[j].toArray⟩)
def zwp (ps : List (List UInt8)) : List UInt8 := ps.flatten
end Go.Proofs.Ytogomcfgfnlclaa
namespace Go.Proofs.Ytogomcfgfnlclaa
namespace Sy
open Go Go.RowKit
set_option maxRecDepth 100000
def zz3 (e n : Int) : List UInt8 := zz4 e.toNat (cl8 n)
def getZ (l : List UInt8) : Int := zwo l
def ydx (e n : Int) : Prop := 0 <= e /\ e < 18446744073709551616 /\ -9223372036854775808 <= n /\ n <= 9223372036854775807
def yfa (l : List UInt8) : Prop := 1 <= l.length /\ l.length <= 8
def upto (n : Nat) (l : List UInt8) : Prop := l.length <= n
def zve (L : za9) : zet := (61, fun xs => match xs with | [.int .u64 e, .int .i64 n] => some (L2 L ydx e n, .str (L2 L zz3 e n)) | _ => none)
def yjw (L : za9) : zet := (92, fun xs => match xs with | [.str l] => some (L yfa l, .tup [.int .u64 (L getZ l), .int .i64 0]) | _ => none)
theorem ylq {x y : AV} {v u : Value} (hx : ∀ h D, R h D zap x v) (hy : ∀ h D, R h D zap y u) : ∀ h D, R h D zap (.tup [x, y]) (.tuple #[v, u]) := by
 intro h D
 refine .tup _ _ rfl ?_
 intro i z t hz ht
 match i with
 | 0 => simp at hz ht; subst hz ht; exact hx h D
 | 1 => simp at hz ht; subst hz ht; exact hy h D
 | i + 2 => simp at hz
theorem ynf (k : IntKind) (n : Int) : ∀ h D, R h D zap (.int k n) (.int k n) := fun _ _ => .int k n
theorem zzv {e : Int} (h : 0 <= e) : ∃ n : Nat, e = n := ⟨e.toNat, by omega⟩
theorem ziv : zgh Try.prog (zve std) := by
 intro xs p r h hp
 dsimp only [zve] at h |-
 split at h <;> cases h
 rename_i e n
 obtain ⟨h0, h1, h2, h3⟩ : ydx e n := hp
 obtain ⟨k, rfl⟩ := zzv h0
 exact zd6 (fn := Try.f61) rfl rfl (by kernel_rfl) (yo5 (zgz _ _) (zgz _ _)) (fun h D => zud h D _ _) (fun w => yiu k n w (by omega))
theorem yf9 : zgh Try.prog (yjw std) := by
 intro xs p r h hp
 dsimp only [yjw] at h |-
 split at h <;> cases h
 rename_i l
 obtain ⟨h1, h8⟩ : yfa l := hp
 exact zd6 (fn := Try.f92) rfl rfl (by kernel_rfl) (yg0 (zgy _)) (ylq (ynf _ _) (ynf _ _)) (zo0 fun w => yjx l w h1 h8)
end Sy
end Go.Proofs.Ytogomcfgfnlclaa
namespace Go.Proofs.Ytogomcfgfnlclaa
namespace Sy
open Go Go.RowKit
set_option maxRecDepth 100000
set_option linter.unusedSimpArgs false
set_option linter.unusedVariables false
structure Nd where
 now : List UInt8
 sure : List UInt8
structure Tn where
 kd : Int
 fr : List UInt8
 tt2 : List UInt8
 c : Bool
 k : Nat
structure Dk where
 room : Int
 nd : List Nd
 names : List (List UInt8 × Nat)
 sure : List (List UInt8 × Nat)
 pend : List Tn
 steps : Int
 fuse : Int
 down : Bool
def ndC (L : za9) (x : Nd) : Nat -> AV
 | 0 => .str (L Nd.now x)
 | _ => .str (L Nd.sure x)
def tnC (L : za9) (x : Tn) : Nat -> AV
 | 0 => .int .i64 (L Tn.kd x)
 | 1 => .str (L Tn.fr x)
 | 2 => .str (L Tn.tt2 x)
 | _ => .aep (L Tn.c x) 600100 (L Tn.k x) 2 0 0
def ndD : Nd := ⟨[], []⟩
def tnD : Tn := ⟨0, [], [], false, 0⟩
def zae (l : List Nd) (k : Nat) : Nd := l.getD k ndD
def zee (l : List Tn) (k : Nat) : Tn := l.getD k tnD
def zjt (l : List Tn) : Nat := l.length
def zcb (l : List Nd) : Nat := l.length
def ndO (L : za9) (l : List Nd) : Ob := .tab 68 2 (L zcb l) (fun _ => 1) (fun k _ => ndC L (L (L zae l) k))
def dpX (L : za9) (d n s p : Nat) (x : Dk) : List (Nat × Ob) :=
 [(d, .box 63 [.int .i64 (L Dk.room x), .mp n, .mp s, .sl p 4 0 (L zjt (L Dk.pend x)), .int .i64 (L Dk.steps x), .int .i64 (L Dk.fuse x), .bool (L Dk.down x)]),
  (n, .mapp 600100 2 (L Dk.names x)), (s, .mapp 600100 2 (L Dk.sure x)),
  (p, .rowp 600100 71 4 (L zjt (L Dk.pend x)) (fun q => tnC L (L (L zee (L Dk.pend x)) q))),
  (600100, ndO L (L Dk.nd x))]
def dpO (L : za9) (x : Dk) : List (Nat × Ob) := dpX L 500000 500001 500002 500003 x
def AV.toS : AV -> List UInt8
 | .str l => l
 | _ => []
def ypn (g : Nat -> AV) : Nd := ⟨(g 0).toS, (g 1).toS⟩
def aepC : AV -> Bool
 | .aep c _ _ _ _ _ => c
 | _ => false
def aepK : AV -> Nat
 | .aep _ _ k _ _ _ => k
 | _ => 0
def ypm (g : Nat -> AV) : Tn := ⟨(g 0).toI, (g 1).toS, (g 2).toS, aepC (g 3), aepK (g 3)⟩
structure Dq where
 room : Int
 ln : List (List UInt8 × Nat)
 ls : List (List UInt8 × Nat)
 np : Nat
 gp : Nat -> Nat -> AV
 nn : Nat
 gn : Nat -> Nat -> Nat -> AV
 steps : Int
 fuse : Int
 down : Bool
def zqf (q : Dq) : Dk := ⟨q.room, (List.range q.nn).map (fun k => ypn (q.gn k 0)), q.ln, q.ls, (List.range q.np).map (fun i => ypm (q.gp i)), q.steps, q.fuse, q.down⟩
theorem ypl (l : List Nd) : (List.range (zcb l)).map (fun k => ypn (ndC std (zae l k))) = l := by
 apply List.ext_getElem
 · simp [zcb]
 · intro i h1 h2
   simp [ypn, ndC, zae, std, AV.toS, h2]
theorem ypk (l : List Tn) : (List.range (zjt l)).map (fun i => ypm (tnC std (zee l i))) = l := by
 apply List.ext_getElem
 · simp [zjt]
 · intro i h1 h2
   simp [ypm, tnC, zee, std, AV.toS, AV.toI, aepC, aepK, h2]
theorem zjq (x : Dk) : zqf ⟨x.room, x.names, x.sure, zjt x.pend, fun q => tnC std (zee x.pend q), zcb x.nd, fun k _ => ndC std (zae x.nd k), x.steps, x.fuse, x.down⟩ = x := by
 unfold zqf
 simp only [ypl, ypk]
def ymo (ob : Nat -> Option Ob) : AV -> Option (Nat × (Nat -> Nat -> AV))
 | .sl p _ _ n => match ob p with
   | some (.rowp _ _ _ _ g) => some (n, g)
   | _ => none
 | .nils => some (0, fun _ _ => .dead)
 | _ => none
def yj0 (ob : Nat -> Option Ob) : Option (Nat × (Nat -> Nat -> Nat -> AV)) := match ob 600100 with
 | some (.tab _ _ n _ g) => some (n, g)
 | _ => none
def zlo (ob : Nat -> Option Ob) (n : Nat) : Option (List (List UInt8 × Nat)) := match ob n with
 | some (.mapp _ _ l) => some l
 | _ => none
def rdS (L : za9) (ob : Nat -> Option Ob) (d : Nat) : Option Dk := match ob d with
 | some (.box _ [.int _ room, .mp n, .mp s, p, .int _ steps, .int _ fuse, .bool down]) => match zlo ob n, zlo ob s, ymo ob p, yj0 ob with
   | some ln, some ls, some (np, gp), some (nn, gn) => some (L zqf ⟨room, ln, ls, np, gp, nn, gn, steps, fuse, down⟩)
   | _, _, _, _ => none
 | _ => none
def onZ (x : Dk) : Int := if x.down = true then 15 else 0
def yl7 (L : za9) : zes := (28, fun raw ob => match raw with
 | [.ref id 0] => match rdS L ob id with
   | some x => some ⟨[.ref 500000 0], dpO L x, True, .int .i64 (L onZ x), dpO L x⟩
   | _ => none
 | _ => none)
theorem ypu (x : Dk) : zay Try.prog 28 [.ref 500000 0] (dpO std x) (.int .i64 (onZ x)) (dpO std x) := by
 refine zai (T := tt) (S := fun L => zb5 [] []) (lo := noA) (lb := noA) 8 (fn := Try.f28) (xs := fun L => [.ref 500000 0]) (rts := fun L => [.int .i64 (L onZ x)]) (O := fun L => dpO L x) (O1 := fun L => dpO L x)
   rfl rfl (by kernel_rfl) (by kernel_rfl) (by kernel_rfl) zaq (za5 trivial trivial) (by kernel_rfl) ?_
 intro L P' Q' hL hP hQ
 (cbv; try simp only [syT, true_and, and_true])
 refine ⟨(fun h => by cases h), fun _ => ⟨fun h => ⟨Nat.le_refl _, ⟨fun _ _ => trivial, fun _ _ _ _ _ _ => trivial⟩, fun _ _ _ _ => trivial, ?_⟩, fun h => ⟨Nat.le_refl _, ⟨fun _ _ => trivial, fun _ _ _ _ _ _ => trivial⟩, fun _ _ _ _ => trivial, ?_⟩⟩⟩
 · subst hL
   show 15 = onZ x
   unfold onZ; rw [if_pos (show x.down = true from h)]
 · subst hL
   show 0 = onZ x
   unfold onZ; rw [if_neg (by rw [show x.down = false from h]; decide)]
theorem ziz : zc4 Try.prog (yl7 std) := by
 intro raw ob T hT hp
 unfold yl7 at hT
 simp only at hT
 repeat' split at hT
 all_goals first | (cases hT; done) | (cases hT; exact ypu _)
def zaw (x : Dk) : Int := if x.fuse = 0 then 15 else 0
def zan (x : Dk) : Dk := if x.fuse = 0 then { x with down := true } else { x with fuse := if 0 < x.fuse then zqb .i64 x.fuse 1 else x.fuse, steps := wadd .i64 x.steps 1 }
def zle (L : za9) : zes := (30, fun raw ob => match raw with
 | [.ref id 0] => match rdS L ob id with
   | some x => some ⟨[.ref 500000 0], dpO L x, True, .int .i64 (L zaw x), dpO L (L zan x)⟩
   | _ => none
 | _ => none)
theorem zc6 (x : Dk) : (zan x).nd = x.nd /\ (zan x).names = x.names /\ (zan x).sure = x.sure /\ (zan x).pend = x.pend /\ (zan x).room = x.room := by
 unfold zan
 split <;> exact ⟨rfl, rfl, rfl, rfl, rfl⟩
theorem yhu (x : Dk) : zay Try.prog 30 [.ref 500000 0] (dpO std x) (.int .i64 (zaw x)) (dpO std (zan x)) := by
 refine zai (T := tt) (S := fun L => zb5 [] []) (lo := noA) (lb := noA) 8 (fn := Try.f30) (xs := fun L => [.ref 500000 0]) (rts := fun L => [.int .i64 (L zaw x)]) (O := fun L => dpO L x) (O1 := fun L => dpO L (L zan x))
   rfl rfl (by kernel_rfl) (by kernel_rfl) (by kernel_rfl) zaq (za5 trivial trivial) (by kernel_rfl) ?_
 intro L P' Q' hL hP hQ
 (cbv; try simp only [syT, true_and, and_true])
 obtain ⟨e1, e2, e3, e4, e5⟩ := zc6 x
 have e1 : L Dk.nd (L zan x) = L Dk.nd x := by subst hL; exact e1
 have e2 : L Dk.names (L zan x) = L Dk.names x := by subst hL; exact e2
 have e3 : L Dk.sure (L zan x) = L Dk.sure x := by subst hL; exact e3
 have e4 : L Dk.pend (L zan x) = L Dk.pend x := by subst hL; exact e4
 have e5 : L Dk.room (L zan x) = L Dk.room x := by subst hL; exact e5
 simp only [e1, e2, e3, e4, e5, true_and]
 refine ⟨fun h => ⟨Nat.le_refl _, ⟨fun _ _ => trivial, fun _ _ _ _ _ _ => trivial⟩, fun _ _ _ _ => trivial, ?_⟩, fun h => ⟨fun h2 => ⟨Nat.le_refl _, ⟨fun _ _ => trivial, fun _ _ _ _ _ _ => trivial⟩, fun _ _ _ _ => trivial, ?_⟩, fun h2 => ⟨Nat.le_refl _, ⟨fun _ _ => trivial, fun _ _ _ _ _ _ => trivial⟩, fun _ _ _ _ => trivial, ?_⟩⟩⟩
 · (subst hL; subst hQ; simp only [L2, L3, std] at *; try simp only [syS, reduceCtorEq, Int.reduceToNat, Int.reduceAdd, Int.reduceSub] at *)
   unfold zan zaw
   rw [if_pos h, if_pos h]
   exact ⟨rfl, rfl, rfl, rfl⟩
 · subst hL
   have h : x.fuse ≠ 0 := by simpa [ieq, std] using h
   have h2 : 0 < x.fuse := of_decide_eq_true h2
   show x.down = (zan x).down /\ zqb .i64 x.fuse 1 = (zan x).fuse /\ wadd .i64 x.steps 1 = (zan x).steps /\ 0 = zaw x
   unfold zan zaw
   rw [if_neg h, if_neg h]
   exact ⟨rfl, (if_pos h2).symm, rfl, rfl⟩
 · subst hL
   have h : x.fuse ≠ 0 := by simpa [ieq, std] using h
   have h2 : ¬ 0 < x.fuse := of_decide_eq_false h2
   show x.down = (zan x).down /\ x.fuse = (zan x).fuse /\ wadd .i64 x.steps 1 = (zan x).steps /\ 0 = zaw x
   unfold zan zaw
   rw [if_neg h, if_neg h]
   exact ⟨rfl, (if_neg h2).symm, rfl, rfl⟩
theorem zfy : zc4 Try.prog (zle std) := by
 intro raw ob T hT hp
 unfold zle at hT
 simp only at hT
 repeat' split at hT
 all_goals first | (cases hT; done) | (cases hT; exact yhu _)
def thE (x : Dk) (s : List UInt8) : Int := if x.down = true then 15 else if zbo x.names s = true then 0 else 12
def thB (x : Dk) (s : List UInt8) : Bool := !x.down && zbo x.names s
def thK (x : Dk) (s : List UInt8) : Nat := zd9 x.names s
def zje (L : za9) : zes := (35, fun raw ob => match raw with
 | [.ref id 0, .str s] => match rdS L ob id with
   | some x => some ⟨[.ref 500000 0, .str s], dpO L x, True, .tup [.aep (L2 L thB x s) 600100 (L2 L thK x s) 2 0 0, .int .i64 (L2 L thE x s)], dpO L x⟩
   | _ => none
 | _ => none)
theorem yd0 (x : Dk) (s : List UInt8) : zay Try.prog 35 [.ref 500000 0, .str s] (dpO std x) (.tup [.aep (thB x s) 600100 (thK x s) 2 0 0, .int .i64 (thE x s)]) (dpO std x) := by
 refine zai (T := tt) (S := fun L => zb5 [] [yl7 L]) (lo := noA) (lb := noA) 8 (fn := Try.f35) (xs := fun L => [.ref 500000 0, .str s]) (rts := fun L => [.aep (L2 L thB x s) 600100 (L2 L thK x s) 2 0 0, .int .i64 (L2 L thE x s)]) (O := fun L => dpO L x) (O1 := fun L => dpO L x)
   rfl rfl (by kernel_rfl) (by kernel_rfl) (by kernel_rfl) zaq (za5 trivial ⟨ziz, trivial⟩) (by kernel_rfl) ?_
 intro L P' Q' hL hP hQ
 have hE : ∀ x : Dk, L zqf ⟨L Dk.room x, L Dk.names x, L Dk.sure x, L zjt (L Dk.pend x), fun q => tnC L (L (L zee (L Dk.pend x)) q), L zcb (L Dk.nd x), fun k _ => ndC L (L (L zae (L Dk.nd x)) k), L Dk.steps x, L Dk.fuse x, L Dk.down x⟩ = x := by subst hL; exact zjq
 (cbv; try simp only [syT, true_and, and_true])
 simp only [hE, true_and]
 refine ⟨Nat.le_refl _, ⟨fun _ _ => trivial, fun _ _ _ _ _ _ => trivial⟩, fun _ _ _ _ => trivial, fun h => ⟨Nat.le_refl _, Nat.le_refl _, ⟨fun _ _ => trivial, fun _ _ _ _ _ _ => trivial⟩, fun _ _ _ _ => trivial, ?_⟩, fun h => ⟨fun h2 => ⟨Nat.le_refl _, Nat.le_refl _, ⟨fun _ _ => trivial, fun _ _ _ _ _ _ => trivial⟩, fun _ _ _ _ => trivial, ?_⟩, fun h2 => ⟨Nat.le_refl _, Nat.le_refl _, ⟨fun _ _ => trivial, fun _ _ _ _ _ _ => trivial⟩, fun _ _ _ _ => trivial, ?_⟩⟩⟩
 · subst hL
   have hd : x.down = true := by
     have h : ine (onZ x) 0 = true := h
     unfold onZ at h
     split at h
     · assumption
     · cases h
   show onZ x = thE x s /\ false = thB x s
   unfold onZ thE thB
   rw [if_pos hd, if_pos hd, hd]
   exact ⟨rfl, rfl⟩
 · subst hL
   have hd : x.down = false := by
     have h : ine (onZ x) 0 = false := h
     unfold onZ at h
     split at h
     · cases h
     · rename_i h3; simpa using h3
   have h2 : zbo x.names s = true := h2
   show 0 = thE x s /\ zbo x.names s = thB x s /\ zd9 x.names s = thK x s
   unfold thE thB
   rw [if_neg (by rw [hd]; decide), if_pos h2, hd]
   exact ⟨rfl, rfl, rfl⟩
 · subst hL
   have hd : x.down = false := by
     have h : ine (onZ x) 0 = false := h
     unfold onZ at h
     split at h
     · cases h
     · rename_i h3; simpa using h3
   have h2 : zbo x.names s = false := h2
   show 12 = thE x s /\ false = thB x s
   unfold thE thB
   rw [if_neg (by rw [hd]; decide), if_neg (by rw [h2]; decide), hd, h2]
   exact ⟨rfl, rfl⟩
theorem zgk : zc4 Try.prog (zje std) := by
 intro raw ob T hT hp
 unfold zje at hT
 simp only at hT
 repeat' split at hT
 all_goals first | (cases hT; done) | (cases hT; exact yd0 _ _)
def doL (l : List (List UInt8 × Nat)) (t : Tn) : List (List UInt8 × Nat) :=
 if t.kd = 1 then zf1 l t.tt2 t.k else if zbo l t.fr = true then (if t.kd = 2 then zf1 (zi3 l t.fr) t.tt2 (zd9 l t.fr) else zi3 l t.fr) else l
def yos (kd : Int) (c : Bool) : Prop := kd = 1 -> c = true
def ymj : AV -> Option (Bool × Nat)
 | .aep c _ k _ _ _ => some (c, k)
 | .aer _ k _ _ _ => some (true, k)
 | .nilp => some (false, 0)
 | _ => none
def doO (l : List (List UInt8 × Nat)) (tb : Ob) : List (Nat × Ob) := [(500001, .mapp 600100 2 l), (600100, tb)]
def yqo (L : za9) : zes := (37, fun raw ob => match raw with
 | [.mp n, .agg [.int .i64 kd, .str fr, .str tt, v]] => match ymj v, zlo ob n, ob 600100 with
   | some (c, k), some l, some (.tab _ _ nn len get) => some ⟨[.mp 500001, .agg [.int .i64 kd, .str fr, .str tt, .aep c 600100 k 2 0 0]], doO l (.tab 68 2 nn len get), L2 L yos kd c, .tup [], doO (L2 L doL l ⟨kd, fr, tt, c, k⟩) (.tab 68 2 nn len get)⟩
   | _, _, _ => none
 | _ => none)
theorem yqn (l : List (List UInt8 × Nat)) (kd : Int) (fr tt' : List UInt8) (c : Bool) (k : Nat) (nn : Nat) (len : Nat -> Nat) (get : Nat -> Nat -> Nat -> AV) (hp : yos kd c) :
   zay Try.prog 37 [.mp 500001, .agg [.int .i64 kd, .str fr, .str tt', .aep c 600100 k 2 0 0]] (doO l (.tab 68 2 nn len get)) (.tup []) (doO (doL l ⟨kd, fr, tt', c, k⟩) (.tab 68 2 nn len get)) := by
 refine zai (T := tt) (S := fun L => zb5 [] []) (lo := noA) (lb := noA) 8 (fn := Try.f37) (xs := fun L => [.mp 500001, .agg [.int .i64 kd, .str fr, .str tt', .aep c 600100 k 2 0 0]]) (rts := fun _ => []) (O := fun L => doO l (.tab 68 2 nn len get)) (O1 := fun L => doO (L2 L doL l ⟨kd, fr, tt', c, k⟩) (.tab 68 2 nn len get))
   rfl rfl (by kernel_rfl) (by kernel_rfl) (by kernel_rfl) zaq (za5 trivial trivial) (by kernel_rfl) ?_
 intro L P' Q' hL hP hQ
 (cbv; try simp only [syT, true_and, and_true])
 have tr : ∀ {p : Prop}, p -> nn.le nn /\ ((∀ (k : Nat), k < nn -> True) /\ ∀ (k i j : Nat), k < nn -> i < len k -> j < 2 -> True) /\ p := fun h => ⟨Nat.le_refl _, ⟨fun _ _ => trivial, fun _ _ _ _ _ _ => trivial⟩, h⟩
 refine ⟨fun h => ⟨?_, tr ?_⟩, fun h => ⟨fun h2 => tr ?_, fun h2 => ⟨fun h3 => ⟨?_, tr ?_⟩, fun h3 => tr ?_⟩⟩⟩
 · subst hL
   exact hp (of_decide_eq_true h)
 · subst hL
   have h : kd = 1 := of_decide_eq_true h
   show zf1 l tt' k = doL l ⟨kd, fr, tt', c, k⟩
   unfold doL
   rw [if_pos h]
 · subst hL
   have h : ¬ kd = 1 := of_decide_eq_false h
   have h2 : zbo l fr = false := by
     have h2 : (!zbo l fr) = true := h2
     simpa using h2
   show l = doL l ⟨kd, fr, tt', c, k⟩
   unfold doL
   rw [if_neg h, if_neg (by rw [h2]; decide)]
 · subst hL
   have h2 : (!zbo l fr) = false := h2
   show zbo l fr = true
   simpa using h2
 · subst hL
   have h : ¬ kd = 1 := of_decide_eq_false h
   have h3 : kd = 2 := of_decide_eq_true h3
   have h2 : zbo l fr = true := by
     have h2 : (!zbo l fr) = false := h2
     simpa using h2
   show zf1 (zi3 l fr) tt' (zd9 l fr) = doL l ⟨kd, fr, tt', c, k⟩
   unfold doL
   rw [if_neg h, if_pos h2, if_pos h3]
 · subst hL
   have h : ¬ kd = 1 := of_decide_eq_false h
   have h3 : ¬ kd = 2 := of_decide_eq_false h3
   have h2 : zbo l fr = true := by
     have h2 : (!zbo l fr) = false := h2
     simpa using h2
   show zi3 l fr = doL l ⟨kd, fr, tt', c, k⟩
   unfold doL
   rw [if_neg h, if_pos h2, if_neg h3]
theorem yfo : zc4 Try.prog (yqo std) := by
 intro raw ob T hT hp
 unfold yqo at hT
 simp only at hT
 repeat' split at hT
 all_goals first | (cases hT; done) | (cases hT; exact yqn _ _ _ _ _ _ _ _ _ hp)
def zht (x : Dk) (t : Tn) : Dk := { x with names := doL x.names t, pend := x.pend ++ [t] }
theorem zme (x : Dk) (t : Tn) : zjt (zht x t).pend = Nat.add (zjt x.pend) 1 := by
 show (x.pend ++ [t]).length = x.pend.length + 1
 simp
theorem zx7 (x : Dk) (t : Tn) (i j : Nat) (hi : i < zjt (zht x t).pend) (hj : j < 4) : zcd std (L2 std zb0 i (zjt x.pend)) (tnC std (zee x.pend i) j) (zbj .dead [.int .i64 t.kd, .str t.fr, .str t.tt2, .aep t.c 600100 t.k 2 0 0] j) = tnC std (zee (zht x t).pend i) j := by
 have e : zbj .dead [AV.int .i64 t.kd, .str t.fr, .str t.tt2, .aep t.c 600100 t.k 2 0 0] j = tnC std t j := by
   match j, hj with
   | 0, _ => rfl
   | 1, _ => rfl
   | 2, _ => rfl
   | 3, _ => rfl
 have s : ∀ (c : Bool) (a b : Tn), zcd std c (tnC std a j) (tnC std b j) = tnC std (cond c a b) j := by
   intro c a b
   cases c <;> (match j, hj with
     | 0, _ => rfl
     | 1, _ => rfl
     | 2, _ => rfl
     | 3, _ => rfl)
 rw [e, s]
 rw [zme] at hi
 have hi : i < x.pend.length + 1 := hi
 congr 1
 show cond (zb0 i x.pend.length) (zee x.pend i) t = zee (x.pend ++ [t]) i
 unfold zee zb0
 rw [List.getD_eq_getElem?_getD, List.getD_eq_getElem?_getD]
 by_cases h : i < x.pend.length
 · rw [decide_eq_true h, List.getElem?_append_left h]; rfl
 · rw [decide_eq_false h, List.getElem?_append_right (by omega), show i - x.pend.length = 0 by omega]; rfl
def zir (L : za9) : zes := (31, fun raw ob => match raw with
 | [.ref id 0, .agg [.int .i64 kd, .str fr, .str tt, v]] => match rdS L ob id, ymj v with
   | some x, some (c, k) => some ⟨[.ref 500000 0, .agg [.int .i64 kd, .str fr, .str tt, .aep c 600100 k 2 0 0]], dpO L x, L2 L yos kd c /\ L (fun x : Dk => x.pend.length <= 1000000) x, .tup [], dpX L 500000 500001 500002 13 (L2 L zht x ⟨kd, fr, tt, c, k⟩)⟩
   | _, _ => none
 | _ => none)
theorem zx6 (x : Dk) (kd : Int) (fr tt' : List UInt8) (c : Bool) (k : Nat) (hp : yos kd c) (hl : x.pend.length <= 1000000) :
   zay Try.prog 31 [.ref 500000 0, .agg [.int .i64 kd, .str fr, .str tt', .aep c 600100 k 2 0 0]] (dpO std x) (.tup []) (dpX std 500000 500001 500002 13 (zht x ⟨kd, fr, tt', c, k⟩)) := by
 refine zai (T := tt) (S := fun L => zb5 [] [yqo L]) (lo := noA) (lb := noA) 8 (fn := Try.f31) (xs := fun L => [.ref 500000 0, .agg [.int .i64 kd, .str fr, .str tt', .aep c 600100 k 2 0 0]]) (rts := fun _ => []) (O := fun L => dpO L x) (O1 := fun L => dpX L 500000 500001 500002 13 (L2 L zht x ⟨kd, fr, tt', c, k⟩))
   rfl rfl (by kernel_rfl) (by kernel_rfl) (by kernel_rfl) zaq (za5 trivial ⟨yfo, trivial⟩) (by kernel_rfl) ?_
 intro L P' Q' hL hP hQ
 (cbv; try simp only [syT, true_and, and_true])
 subst hL
 refine ⟨Nat.le_refl _, ⟨fun _ _ => trivial, fun _ _ _ _ _ _ => trivial⟩, hp, ?_, Nat.le_refl _, Nat.le_refl _, ⟨rfl, fun _ _ => trivial, fun _ _ _ _ _ _ => rfl⟩, ⟨(zme x _).symm, fun i j hi hj => zx7 x ⟨kd, fr, tt', c, k⟩ i j hi hj⟩, rfl, rfl, rfl, rfl, rfl, (zme x _).symm, rfl⟩
 show zbu 48 (zjt x.pend) 1 = true
 unfold zbu zjt
 simp only [Bool.and_eq_true, decide_eq_true_eq]
 omega
theorem zia : zc4 Try.prog (zir std) := by
 intro raw ob T hT hp
 unfold zir at hT
 simp only at hT
 repeat' split at hT
 all_goals first | (cases hT; done) | (cases hT; exact zx6 _ _ _ _ _ _ hp.1 hp.2)
inductive DkS where
 | a (k : Int)
 | b (k : Int) (x s : List UInt8)
 | c (k : Int) (x s : List UInt8)
 | d (k : Int) (x s y t : List UInt8)
def nmA : List UInt8 := [97]
def nmB : List UInt8 := [98]
def zct (x s : List UInt8) : Ob := .box 68 [.str x, .str s]
def ye1 (key : List UInt8) : Ob := .row 71 4 1 (fun _ j => zbj .dead [.int .i64 1, .str [], .str key, .dead] j)
def ztz (n s : Nat) (pend : AV) (k : Int) : Ob := .box 63 [.int .i64 100, .mp n, .mp s, pend, .int .i64 k, .int .i64 (-1), .bool false]
def zrt (pend : AV) (k : Int) : Ob := ztz 500001 500002 pend k
def dkO (p : Nat) : DkS -> List (Nat × Ob)
 | .a k => [(500000, zrt .nils k), (500001, .mapl .s []), (500002, .mapl .s [])]
 | .b k x s => [(500000, zrt (.sl p 4 0 1) k), (500001, .mapl .s [(.s nmA, .ref 500003 0)]), (500002, .mapl .s []), (500003, zct x s), (p, ye1 nmA)]
 | .c k x s => [(500000, zrt .nils k), (500001, .mapl .s [(.s nmA, .ref 500003 0)]), (500002, .mapl .s [(.s nmA, .ref 500003 0)]), (500003, zct x s)]
 | .d k x s y t => [(500000, zrt (.sl p 4 0 1) k), (500001, .mapl .s [(.s nmA, .ref 500003 0), (.s nmB, .ref 500004 0)]), (500002, .mapl .s [(.s nmA, .ref 500003 0)]), (500003, zct x s), (500004, zct y t), (p, ye1 nmB)]
def zbh : Option Ob -> List UInt8 × List UInt8
 | some (.box _ [.str x, .str s]) => (x, s)
 | _ => ([], [])
def ybe (ob : Nat -> Option Ob) (id : Nat) : Option DkS := match ob id with
 | some (.box _ [_, .mp n, _, .nils, .int _ k, _, _]) => match ob n with
   | some (.mapl _ []) => some (.a k)
   | some (.mapl _ [(_, .ref i _)]) => some (.c k (zbh (ob i)).1 (zbh (ob i)).2)
   | _ => none
 | some (.box _ [_, .mp n, _, .sl _ _ _ _, .int _ k, _, _]) => match ob n with
   | some (.mapl _ [(_, .ref i _)]) => some (.b k (zbh (ob i)).1 (zbh (ob i)).2)
   | some (.mapl _ [(_, .ref i _), (_, .ref j _)]) => some (.d k (zbh (ob i)).1 (zbh (ob i)).2 (zbh (ob j)).1 (zbh (ob j)).2)
   | _ => none
 | _ => none
def inc (k : Int) : Int := k + 1
def DkS.up (L : za9) : DkS -> DkS
 | .a k => .a (L inc k)
 | .b k x s => .b (L inc k) x s
 | .c k x s => .c (L inc k) x s
 | .d k x s y t => .d (L inc k) x s y t
def DkS.k : DkS -> Int
 | .a k => k
 | .b k _ _ => k
 | .c k _ _ => k
 | .d k _ _ _ _ => k
def zci (k : Int) : Prop := 0 <= k /\ k <= 1000
theorem ycv {k : Int} (h : zci k) : wadd .i64 k 1 = inc k := by
 obtain ⟨h0, h1⟩ := h
 unfold wadd inc
 rw [zgd]
 omega
def yiy : zes := (28, fun raw ob => match raw with
 | [.ref id 0] => match ybe ob id with
   | some sh => some ⟨[.ref 500000 0], dkO 500005 sh, True, .int .i64 0, dkO 500005 sh⟩
   | _ => none
 | _ => none)
theorem ypv (sh : DkS) : zay Try.prog 28 [.ref 500000 0] (dkO 500005 sh) (.int .i64 0) (dkO 500005 sh) := by
 cases sh <;>
 · refine zai (T := tt) (S := fun L => zb5 [] []) (lo := noA) (lb := noA) 8 (fn := Try.f28) (xs := fun L => [.ref 500000 0]) (rts := fun _ => [.int .i64 0]) (O := fun L => dkO 500005 _) (O1 := fun L => dkO 500005 _)
     rfl rfl (by kernel_rfl) (by kernel_rfl) (by kernel_rfl) zaq (za5 trivial trivial) (by kernel_rfl) ?_
   intro L P' Q' hL hP hQ
   (cbv; try simp only [syT, true_and, and_true])
   subst hL
   simp [std]
theorem zjy : zc4 Try.prog yiy := by
 intro raw ob T hT hp
 unfold yiy at hT
 simp only at hT
 repeat' split at hT
 all_goals first | (cases hT; done) | (cases hT; exact ypv _)
def zi9 (L : za9) : zes := (30, fun raw ob => match raw with
 | [.ref id 0] => match ybe ob id with
   | some sh => some ⟨[.ref 500000 0], dkO 500005 sh, L zci sh.k, .int .i64 0, dkO 500005 (sh.up L)⟩
   | _ => none
 | _ => none)
theorem yhw (sh : DkS) (hk : zci sh.k) : zay Try.prog 30 [.ref 500000 0] (dkO 500005 sh) (.int .i64 0) (dkO 500005 (sh.up std)) := by
 cases sh <;>
 · refine zai (T := tt) (S := fun L => zb5 [] []) (lo := noA) (lb := noA) 8 (fn := Try.f30) (xs := fun L => [.ref 500000 0]) (rts := fun _ => [.int .i64 0]) (O := fun L => dkO 500005 _) (O1 := fun L => dkO 500005 (DkS.up L _))
     rfl rfl (by kernel_rfl) (by kernel_rfl) (by kernel_rfl) zaq (za5 trivial trivial) (by kernel_rfl) ?_
   intro L P' Q' hL hP hQ
   (cbv; try simp only [syT, true_and, and_true])
   subst hL
   simp only [DkS.k] at hk
   have e0 : ieq (-1) 0 = false := by decide
   have e1 : ilt 0 (-1) = false := by decide
   simp [std, e0, e1, ycv hk]
theorem zg9 : zc4 Try.prog (zi9 std) := by
 intro raw ob T hT hp
 unfold zi9 at hT
 simp only at hT
 repeat' split at hT
 all_goals first | (cases hT; done) | (cases hT; exact yhw _ hp)
def yqm (L : za9) : List (Nat × Ob) := [(14, ztz 11 12 .nils 0), (11, .mapl .s []), (12, .mapl .s [])]
def yj1 (L : za9) : zes := (8, fun raw ob => match raw with
 | [.int .i64 n] => some ⟨[.int .i64 100], [], True, .tup [.ref 14 0, .int .i64 0], yqm L⟩
 | _ => none)
theorem yn3 : zay Try.prog 8 [.int .i64 100] [] (.tup [.ref 14 0, .int .i64 0]) (yqm std) := by
 refine zai (T := tt) (S := fun L => zb5 [] []) (lo := noA) (lb := noA) 8 (fn := Try.f8) (xs := fun L => [.int .i64 100]) (rts := fun _ => [.ref 14 0, .int .i64 0]) (O := fun L => []) (O1 := fun L => yqm L)
     rfl rfl (by kernel_rfl) (by kernel_rfl) (by kernel_rfl) zaq (za5 trivial trivial) (by kernel_rfl) ?_
 intro L P' Q' hL hP hQ
 (cbv; try simp only [syT, true_and, and_true])
 subst hL
 have e0 : ilt 100 0 = false := by decide
 have e1 : ilt 65536 100 = false := by decide
 simp [std, e0, e1]
theorem yea : zc4 Try.prog (yj1 std) := by
 intro raw ob T hT hp
 unfold yj1 at hT
 simp only at hT
 repeat' split at hT
 all_goals first | (cases hT; done) | (cases hT; exact yn3)
def zmf : zes := (35, fun raw ob => match raw with
 | [.ref id 0, .str key] => match ybe ob id with
   | some (.a _) => none
   | some sh => some ⟨[.ref 500000 0, .str nmA], dkO 500005 sh, True, .tup [.ref 500003 0, .int .i64 0], dkO 500005 sh⟩
   | _ => none
 | _ => none)
def DkS.some : DkS -> Prop
 | .a _ => False
 | _ => True
theorem yd1 (sh : DkS) (hs : sh.some) : zay Try.prog 35 [.ref 500000 0, .str nmA] (dkO 500005 sh) (.tup [.ref 500003 0, .int .i64 0]) (dkO 500005 sh) := by
 cases sh
 case a => exact hs.elim
 all_goals
   refine zai (T := tt) (S := fun L => zb5 [] [yiy]) (lo := noA) (lb := noA) 8 (fn := Try.f35) (xs := fun L => [.ref 500000 0, .str nmA]) (rts := fun _ => [.ref 500003 0, .int .i64 0]) (O := fun L => dkO 500005 _) (O1 := fun L => dkO 500005 _)
     rfl rfl (by kernel_rfl) (by kernel_rfl) (by kernel_rfl) zaq (za5 trivial ⟨zjy, trivial⟩) (by kernel_rfl) ?_
   intro L P' Q' hL hP hQ
   (cbv; try simp only [syT, true_and, and_true])
   subst hL
   have e0 : ine 0 0 = false := by decide
   simp [std, e0]
theorem zlc : zc4 Try.prog zmf := by
 intro raw ob T hT hp
 unfold zmf at hT
 simp only at hT
 repeat' split at hT
 all_goals first | (cases hT; done) | skip
 rename_i sh h1 h2
 cases hT
 refine yd1 sh ?_
 cases sh
 · exact absurd rfl (h1 _)
 all_goals trivial
def zua : AV := .agg [.int .i64 1, .str [], .str nmA, .ref 500003 0]
def zu9 : AV := .agg [.int .i64 1, .str [], .str nmB, .ref 500004 0]
def do0 (x s : List UInt8) : List (Nat × Ob) := [(500001, .mapl .s []), (500003, zct x s)]
def do1 (x s : List UInt8) : List (Nat × Ob) := [(500001, .mapl .s [(.s nmA, .ref 500003 0)]), (500003, zct x s)]
def do2 (x s y t : List UInt8) : List (Nat × Ob) := [(500001, .mapl .s [(.s nmA, .ref 500003 0)]), (500003, zct x s), (500004, zct y t)]
def do3 (x s y t : List UInt8) : List (Nat × Ob) := [(500001, .mapl .s [(.s nmA, .ref 500003 0), (.s nmB, .ref 500004 0)]), (500003, zct x s), (500004, zct y t)]
def ynu : zes := (37, fun raw ob => match raw with
 | [.mp n, .agg [_, _, _, .ref i _]] => match ob n with
   | some (.mapl _ []) => some ⟨[.mp 500001, zua], do0 (zbh (ob i)).1 (zbh (ob i)).2, True, .tup [], do1 (zbh (ob i)).1 (zbh (ob i)).2⟩
   | some (.mapl _ [(_, .ref j _)]) => some ⟨[.mp 500001, zu9], do2 (zbh (ob j)).1 (zbh (ob j)).2 (zbh (ob i)).1 (zbh (ob i)).2, True, .tup [], do3 (zbh (ob j)).1 (zbh (ob j)).2 (zbh (ob i)).1 (zbh (ob i)).2⟩
   | _ => none
 | _ => none)
theorem do_a (x s : List UInt8) : zay Try.prog 37 [.mp 500001, zua] (do0 x s) (.tup []) (do1 x s) := by
 refine zai (T := tt) (S := fun L => zb5 [] []) (lo := noA) (lb := noA) 8 (fn := Try.f37) (xs := fun L => [.mp 500001, zua]) (rts := fun _ => []) (O := fun L => do0 x s) (O1 := fun L => do1 x s)
   rfl rfl (by kernel_rfl) (by kernel_rfl) (by kernel_rfl) zaq (za5 trivial trivial) (by kernel_rfl) ?_
 intro L P' Q' hL hP hQ
 (cbv; try simp only [syT, true_and, and_true])
 subst hL
 have e0 : ieq 1 1 = true := by decide
 simp [std, e0]
theorem do_b (x s y t : List UInt8) : zay Try.prog 37 [.mp 500001, zu9] (do2 x s y t) (.tup []) (do3 x s y t) := by
 refine zai (T := tt) (S := fun L => zb5 [] []) (lo := noA) (lb := noA) 8 (fn := Try.f37) (xs := fun L => [.mp 500001, zu9]) (rts := fun _ => []) (O := fun L => do2 x s y t) (O1 := fun L => do3 x s y t)
   rfl rfl (by kernel_rfl) (by kernel_rfl) (by kernel_rfl) zaq (za5 trivial trivial) (by kernel_rfl) ?_
 intro L P' Q' hL hP hQ
 (cbv; try simp only [syT, true_and, and_true])
 subst hL
 have e0 : ieq 1 1 = true := by decide
 simp [std, e0]
theorem zrq : zc4 Try.prog ynu := by
 intro raw ob T hT hp
 unfold ynu at hT
 simp only at hT
 repeat' split at hT
 all_goals first | (cases hT; done) | (cases hT; exact do_a _ _) | (cases hT; exact do_b _ _ _ _)
def ziq : zes := (31, fun raw ob => match raw with
 | [.ref id 0, .agg [_, _, _, .ref i _]] => match ybe ob id with
   | some (.a k) => some ⟨[.ref 500000 0, zua], zb8 (dkO 500005 (.a k)) [(500003, zct (zbh (ob i)).1 (zbh (ob i)).2)], True, .tup [], dkO 17 (.b k (zbh (ob i)).1 (zbh (ob i)).2)⟩
   | some (.c k x s) => some ⟨[.ref 500000 0, zu9], zb8 (dkO 500005 (.c k x s)) [(500004, zct (zbh (ob i)).1 (zbh (ob i)).2)], True, .tup [], dkO 17 (.d k x s (zbh (ob i)).1 (zbh (ob i)).2)⟩
   | _ => none
 | _ => none)
theorem ycy (k : Int) (x s : List UInt8) : zay Try.prog 31 [.ref 500000 0, zua] (zb8 (dkO 500005 (.a k)) [(500003, zct x s)]) (.tup []) (dkO 17 (.b k x s)) := by
 refine zai (T := tt) (S := fun L => zb5 [] [ynu]) (lo := noA) (lb := noA) 8 (fn := Try.f31) (xs := fun L => [.ref 500000 0, zua]) (rts := fun _ => []) (O := fun L => zb8 (dkO 500005 (.a k)) [(500003, zct x s)]) (O1 := fun L => dkO 17 (.b k x s))
   rfl rfl (by kernel_rfl) (by kernel_rfl) (by kernel_rfl) zaq (za5 trivial ⟨zrq, trivial⟩) (by kernel_rfl) ?_
 intro L P' Q' hL hP hQ
 (cbv; try simp only [syT, true_and, and_true])
 subst hL
 simp [std]
 exact ⟨by decide, fun i j hi hj => by subst hi; simp [L2, std]⟩
theorem ycx (k : Int) (x s y t : List UInt8) : zay Try.prog 31 [.ref 500000 0, zu9] (zb8 (dkO 500005 (.c k x s)) [(500004, zct y t)]) (.tup []) (dkO 17 (.d k x s y t)) := by
 refine zai (T := tt) (S := fun L => zb5 [] [ynu]) (lo := noA) (lb := noA) 8 (fn := Try.f31) (xs := fun L => [.ref 500000 0, zu9]) (rts := fun _ => []) (O := fun L => zb8 (dkO 500005 (.c k x s)) [(500004, zct y t)]) (O1 := fun L => dkO 17 (.d k x s y t))
   rfl rfl (by kernel_rfl) (by kernel_rfl) (by kernel_rfl) zaq (za5 trivial ⟨zrq, trivial⟩) (by kernel_rfl) ?_
 intro L P' Q' hL hP hQ
 (cbv; try simp only [syT, true_and, and_true])
 subst hL
 simp [std]
 exact ⟨by decide, fun i j hi hj => by subst hi; simp [L2, std]⟩
theorem zjd : zc4 Try.prog ziq := by
 intro raw ob T hT hp
 unfold ziq at hT
 simp only at hT
 repeat' split at hT
 all_goals first | (cases hT; done) | (cases hT; exact ycy _ _ _) | (cases hT; exact ycx _ _ _ _ _)
end Sy
end Go.Proofs.Ytogomcfgfnlclaa
namespace Go.Proofs.Ytogomcfgfnlclaa
open Go Go.RowKit
open Go.ChangeMaps (setBlock)
theorem zvu (seen : Array Nat) : leftOf #[] seen = #[] := by simp [leftOf]
set_option maxRecDepth 1000000 in
theorem yp6 (w : World) (b bm : Nat) (clock : Nat) (hc : w.cell? ⟨b, 1, none⟩ = some (.map (some bm))) (hm : w.heap[bm]? = some (.map #[] clock)) :
   Calls Try.prog 17 #[.pointer (some ⟨b, 0, none⟩)] w fun e w' => e = .returned (.int .i64 0) /\ Below w.heap.size w w' := by
 have hrg := run_range_map (P := Try.prog) w 60 9 64 bm #[] clock Try.underlying60 hm
 have hnx : ∀ ty, (Instr.next (.pointer (some ⟨w.heap.size, 0, none⟩)) false ty).run Try.prog (w.alloc (.mapIter (some bm) clock #[] clock)) = .ok (.tuple #[.bool false]) (w.alloc (.mapIter (some bm) clock #[] clock)) := fun ty => by
   rcases run_next_map (P := Try.prog) w ty bm clock clock #[] #[] clock hm (by simp) (Nat.le_refl _) with ⟨_, h⟩ | ⟨e, he, _⟩
   · exact h
   · rw [zvu] at he; simp at he
 go_enter Try.func17, Try.ntmps17
 go_wp2
 refine wp_loop_rounds 1 ?_
 rw [rounds_succ]
 go_wp2
 go_ret
 exact ⟨rfl, (Below.refl _ w).alloc (Nat.le_refl _) _⟩
set_option maxRecDepth 1000000 in
theorem yp5 (w : World) (b bm bn : Nat) (clock : Nat) (x : MapEntry) (s : ByteArray) (hc : w.cell? ⟨b, 1, none⟩ = some (.map (some bm))) (hm : w.heap[bm]? = some (.map #[x] clock)) (hst : MapKept.Stamped #[x] clock)
   (hx : x.val = .pointer (some ⟨bn, 0, none⟩)) (hn : w.cell? ⟨bn, 0, none⟩ = some (.string s)) :
   Calls Try.prog 17 #[.pointer (some ⟨b, 0, none⟩)] w fun e w' => e = .returned (.int .i64 (wrap64 s.size)) /\ Below w.heap.size w w' := by
 have hrg := run_range_map (P := Try.prog) w 60 9 64 bm #[x] clock Try.underlying60 hm
 have hbn : bn < w.heap.size := by
   rcases Nat.lt_or_ge bn w.heap.size with h | h
   · exact h
   · simp [World.cell?, Array.getElem?_eq_none h] at hn
 have hbm : bm < w.heap.size := by
   rcases Nat.lt_or_ge bm w.heap.size with h | h
   · exact h
   · simp [Array.getElem?_eq_none h] at hm
 obtain ⟨W2, hr2, hk2, hB2, hnx⟩ : ∃ W2 : World, W2.heap[w.heap.size]? = some (.mapIter (some bm) clock #[x.born] clock) /\ (∀ k, k < w.heap.size -> W2.heap[k]? = w.heap[k]?) /\ Below w.heap.size w W2 /\
     ∀ ty, (Instr.next (.pointer (some ⟨w.heap.size, 0, none⟩)) false ty).run Try.prog (w.alloc (.mapIter (some bm) clock #[] clock)) = .ok (.tuple #[.bool true, x.key, .pointer (some ⟨bn, 0, none⟩)]) W2 := by
   rcases run_next_at (P := Try.prog) (w.alloc (.mapIter (some bm) clock #[] clock)) 0 w.heap.size bm clock clock #[] #[x] clock (heap_alloc_new _ _) ((heap_alloc_old w _ hbm).trans hm) hst.1 (Nat.le_refl _) with ⟨h0, _⟩ | ⟨e, he, w1, hal, h⟩
   · simp [leftOf] at h0
   · simp [leftOf] at he
     subst he
     rw [hx] at h
     have hB : Below w.heap.size w (w.alloc (.mapIter (some bm) clock #[] clock)) := (Below.refl _ w).alloc (Nat.le_refl _) _
     have hw : w1.heap = (w.alloc (.mapIter (some bm) clock #[] clock)).heap /\ w1.os = w.os /\ w1.tape = w.tape /\ w1.output = w.output := by
       rcases hal with rfl | rfl
       · exact ⟨rfl, rfl, rfl, rfl⟩
       · exact ⟨rfl, rfl, rfl, rfl⟩
     obtain ⟨h1, h2, h3, h4⟩ := hw
     have hl : w.heap.size < (w.alloc (.mapIter (some bm) clock #[] clock)).heap.size := by
       show w.heap.size < (w.heap.push _).size
       rw [Array.size_push]
       omega
     have hne : ∀ k, k < w.heap.size -> (w1.heap.setIfInBounds w.heap.size (.mapIter (some bm) clock #[e.born] clock))[k]? = w.heap[k]? := fun k hk => by
       rw [Array.getElem?_setIfInBounds_ne (by omega), h1]
       exact heap_alloc_old w _ hk
     refine ⟨setBlock w1 w.heap.size (.mapIter (some bm) clock #[e.born] clock), ?_, hne, ⟨h2, h3, h4, ?_, hne⟩, fun ty => h⟩
     · show (w1.heap.setIfInBounds w.heap.size _)[w.heap.size]? = _
       rw [h1, Array.getElem?_setIfInBounds, if_pos rfl, if_pos hl]
     · show w.heap.size <= (w1.heap.setIfInBounds w.heap.size _).size
       rw [h1, Array.size_setIfInBounds]
       exact Nat.le_of_lt hl
 have hm2 : W2.heap[bm]? = some (.map #[x] clock) := (hk2 bm hbm).trans hm
 have hen : (Instr.entry (.pointer (some ⟨w.heap.size, 0, none⟩))).run Try.prog W2 = .ok (.tuple #[x.key, .pointer (some ⟨bn, 0, none⟩)]) W2 := by
   have hen := run_entry_at (P := Try.prog) W2 w.heap.size bm clock #[] #[x] clock x hr2 hm2 (by simp) hst.2.1
   rw [hx] at hen
   exact hen
 have hn1 : W2.cell? ⟨bn, 0, none⟩ = some (.string s) := by
   simp only [World.cell?, hk2 bn hbn]
   exact hn
 have hnx2 : ∀ ty, (Instr.next (.pointer (some ⟨w.heap.size, 0, none⟩)) false ty).run Try.prog W2 = .ok (.tuple #[.bool false]) W2 := fun ty => by
   rcases run_next_at (P := Try.prog) W2 ty w.heap.size bm clock clock #[x.born] #[x] clock hr2 hm2 hst.1 (Nat.le_refl _) with ⟨_, h⟩ | ⟨e, he, _⟩
   · exact h
   · simp [leftOf] at he
 go_enter Try.func17, Try.ntmps17
 go_wp2
 refine wp_loop_rounds 2 ?_
 rw [rounds_succ]
 go_wp2
 rw [rounds_succ]
 go_wp2
 go_ret
 exact ⟨rfl, hB2⟩
end Go.Proofs.Ytogomcfgfnlclaa
namespace Go.Proofs
open Go.Shelf
def Try.keys34_ren : Go.Shelf.Ren := ⟨fun | 7 => 34 | 10 => 48 | n => n, fun | 23 => 60 | 26 => 9 | 3 => 64 | 28 => 76 | 0 => 0 | 27 => 75 | 33 => 65 | 4 => 4 | n => n, fun | n => n⟩
theorem Try.keys34 : Go.Proofs.SlLaysZ.n7 Try.prog Try.keys34_ren := {
 mixed := by kernel_rfl
 f7 := ⟨Try.f34.name, by decide, Try.func34.trans (congrArg some (by kernel_rfl))⟩
 f10 := ⟨Try.f48.name, by decide, Try.func48.trans (congrArg some (by kernel_rfl))⟩
 t0 := Try.underlying0
 a0 := Try.isAgg0
 z0 := Try.sizeOf0
 v0 := Try.zeroValue0
 t4 := Try.underlying4
 a4 := Try.isAgg4
 z4 := Try.sizeOf4
 v4 := Try.zeroValue4
 t23 := Try.underlying60
 a23 := Try.isAgg60
 z23 := Try.sizeOf60
 v23 := Try.zeroValue60
 t26 := Try.underlying9
 a26 := Try.isAgg9
 z26 := Try.sizeOf9
 v26 := Try.zeroValue9
 t27 := Try.underlying75
 a27 := Try.isAgg75
 z27 := Try.sizeOf75
 v27 := Try.zeroValue75
 t28 := Try.underlying76
 a28 := Try.isAgg76
 z28 := Try.sizeOf76
 v28 := Try.zeroValue76
 t33 := Try.underlying65
 a33 := Try.isAgg65
 z33 := Try.sizeOf65
 v33 := Try.zeroValue65 }
def Try.sorted33_ren : Go.Shelf.Ren := ⟨fun | 6 => 33 | 8 => 46 | 9 => 47 | 11 => 56 | 13 => 58 | 12 => 57 | 23 => 72 | 24 => 73 | 14 => 63 | 15 => 64 | 16 => 65 | 17 => 66 | 18 => 67 | 19 => 68 | 20 => 69 | 21 => 70 | 22 => 71 | 25 => 80 | 26 => 81 | 27 => 82 | 28 => 83 | 29 => 84 | 30 => 85 | 31 => 94 | n => n, fun | 26 => 9 | 28 => 76 | 24 => 36 | 0 => 0 | 3 => 3 | 37 => 87 | 48 => 111 | 50 => 83 | 4 => 4 | 40 => 104 | 39 => 103 | 45 => 108 | 5 => 5 | 9 => 9 | 51 => 120 | 55 => 124 | 57 => 141 | 58 => 142 | 33 => 65 | n => n, fun | n => n⟩
theorem Try.sorted33 : Go.Proofs.SlLaysZ.n6 Try.prog Try.sorted33_ren := {
 mixed := by kernel_rfl
 f6 := ⟨Try.f33.name, by decide, Try.func33.trans (congrArg some (by kernel_rfl))⟩
 f8 := ⟨Try.f46.name, by decide, Try.func46.trans (congrArg some (by kernel_rfl))⟩
 f11 := ⟨Try.f56.name, by decide, Try.func56.trans (congrArg some (by kernel_rfl))⟩
 t0 := Try.underlying0
 a0 := Try.isAgg0
 z0 := Try.sizeOf0
 v0 := Try.zeroValue0
 t24 := Try.underlying36
 a24 := Try.isAgg36
 z24 := Try.sizeOf36
 v24 := Try.zeroValue36
 t26 := Try.underlying9
 a26 := Try.isAgg9
 z26 := Try.sizeOf9
 v26 := Try.zeroValue9
 t28 := Try.underlying76
 a28 := Try.isAgg76
 z28 := Try.sizeOf76
 v28 := Try.zeroValue76
 i26 := by kernel_rfl }
def Try.sort47_ren : Go.Shelf.Ren := ⟨fun | 6 => 47 | 8 => 58 | 9 => 57 | 19 => 72 | 20 => 73 | 21 => 63 | 22 => 64 | 23 => 65 | 24 => 66 | 25 => 67 | 26 => 68 | 27 => 69 | 28 => 70 | 29 => 71 | 36 => 80 | 31 => 81 | 32 => 82 | 37 => 83 | 38 => 84 | 39 => 85 | 41 => 94 | n => n, fun | 27 => 36 | 29 => 9 | 3 => 3 | 32 => 87 | 26 => 36 | 0 => 0 | 44 => 111 | 46 => 83 | 4 => 4 | 36 => 104 | 35 => 103 | 41 => 108 | 5 => 5 | 9 => 9 | 53 => 120 | 57 => 124 | 63 => 141 | 64 => 142 | n => n, fun | n => n⟩
theorem Try.sort47 : Go.Proofs.SlLaysM.n6 Try.prog Try.sort47_ren := {
 mixed := by kernel_rfl
 f6 := ⟨Try.f47.name, by decide, Try.func47.trans (congrArg some (by kernel_rfl))⟩
 f8 := Try.func58.trans (congrArg some (by kernel_rfl))
 f9 := ⟨Try.f57.name, by decide, Try.func57.trans (congrArg some (by kernel_rfl))⟩
 f19 := Try.func72.trans (congrArg some (by kernel_rfl))
 f20 := Try.func73.trans (congrArg some (by kernel_rfl))
 f21 := ⟨Try.f63.name, by decide, Try.func63.trans (congrArg some (by kernel_rfl))⟩
 f22 := ⟨Try.f64.name, by decide, Try.func64.trans (congrArg some (by kernel_rfl))⟩
 f23 := ⟨Try.f65.name, by decide, Try.func65.trans (congrArg some (by kernel_rfl))⟩
 f24 := ⟨Try.f66.name, by decide, Try.func66.trans (congrArg some (by kernel_rfl))⟩
 f25 := ⟨Try.f67.name, by decide, Try.func67.trans (congrArg some (by kernel_rfl))⟩
 f26 := ⟨Try.f68.name, by decide, Try.func68.trans (congrArg some (by kernel_rfl))⟩
 f27 := ⟨Try.f69.name, by decide, Try.func69.trans (congrArg some (by kernel_rfl))⟩
 f28 := ⟨Try.f70.name, by decide, Try.func70.trans (congrArg some (by kernel_rfl))⟩
 f29 := ⟨Try.f71.name, by decide, Try.func71.trans (congrArg some (by kernel_rfl))⟩
 f31 := Try.func81.trans (congrArg some (by kernel_rfl))
 f32 := Try.func82.trans (congrArg some (by kernel_rfl))
 f36 := ⟨Try.f80.name, by decide, Try.func80.trans (congrArg some (by kernel_rfl))⟩
 f37 := ⟨Try.f83.name, by decide, Try.func83.trans (congrArg some (by kernel_rfl))⟩
 f38 := ⟨Try.f84.name, by decide, Try.func84.trans (congrArg some (by kernel_rfl))⟩
 f39 := ⟨Try.f85.name, by decide, Try.func85.trans (congrArg some (by kernel_rfl))⟩
 f41 := ⟨Try.f94.name, by decide, Try.func94.trans (congrArg some (by kernel_rfl))⟩
 t0 := Try.underlying0
 a0 := Try.isAgg0
 z0 := Try.sizeOf0
 v0 := Try.zeroValue0
 t3 := Try.underlying3
 a3 := Try.isAgg3
 z3 := Try.sizeOf3
 v3 := Try.zeroValue3
 t4 := Try.underlying4
 a4 := Try.isAgg4
 z4 := Try.sizeOf4
 v4 := Try.zeroValue4
 t5 := Try.underlying5
 a5 := Try.isAgg5
 z5 := Try.sizeOf5
 v5 := Try.zeroValue5
 t9 := Try.underlying9
 a9 := Try.isAgg9
 z9 := Try.sizeOf9
 v9 := Try.zeroValue9
 t26 := Try.underlying36
 a26 := Try.isAgg36
 z26 := Try.sizeOf36
 v26 := Try.zeroValue36
 t27 := Try.underlying36
 a27 := Try.isAgg36
 z27 := Try.sizeOf36
 v27 := Try.zeroValue36
 t29 := Try.underlying9
 a29 := Try.isAgg9
 z29 := Try.sizeOf9
 v29 := Try.zeroValue9
 t32 := Try.underlying87
 a32 := Try.isAgg87
 z32 := Try.sizeOf87
 v32 := Try.zeroValue87
 t35 := Try.underlying103
 a35 := Try.isAgg103
 z35 := Try.sizeOf103
 v35 := Try.zeroValue103
 t36 := Try.underlying104
 a36 := Try.isAgg104
 z36 := Try.sizeOf104
 v36 := Try.zeroValue104
 t41 := Try.underlying108
 a41 := Try.isAgg108
 z41 := Try.sizeOf108
 v41 := Try.zeroValue108
 t44 := Try.underlying111
 a44 := Try.isAgg111
 z44 := Try.sizeOf111
 v44 := Try.zeroValue111
 t46 := Try.underlying83
 a46 := Try.isAgg83
 z46 := Try.sizeOf83
 v46 := Try.zeroValue83
 t53 := Try.underlying120
 a53 := Try.isAgg120
 z53 := Try.sizeOf120
 v53 := Try.zeroValue120
 t57 := Try.underlying124
 a57 := Try.isAgg124
 z57 := Try.sizeOf124
 v57 := Try.zeroValue124
 t63 := Try.underlying141
 a63 := Try.isAgg141
 z63 := Try.sizeOf141
 v63 := Try.zeroValue141
 t64 := Try.underlying142
 a64 := Try.isAgg142
 z64 := Try.sizeOf142
 v64 := Try.zeroValue142 }
def Try.clone36_ren : Go.Shelf.Ren := ⟨fun | 5 => 36 | 7 => 49 | n => n, fun | 23 => 60 | 25 => 9 | 3 => 64 | 4 => 4 | 20 => 20 | n => n, fun | n => n⟩
theorem Try.clone36 : Go.Proofs.SlLaysW.n5 Try.prog Try.clone36_ren := {
 mixed := by kernel_rfl
 f5 := ⟨Try.f36.name, by decide, Try.func36.trans (congrArg some (by kernel_rfl))⟩
 f7 := Try.func49.trans (congrArg some (by kernel_rfl))
 t4 := Try.underlying4
 a4 := Try.isAgg4
 z4 := Try.sizeOf4
 v4 := Try.zeroValue4
 t20 := Try.underlying20
 a20 := Try.isAgg20
 z20 := Try.sizeOf20
 v20 := Try.zeroValue20
 t23 := Try.underlying60
 a23 := Try.isAgg60
 z23 := Try.sizeOf60
 v23 := Try.zeroValue60 }
end Go.Proofs
namespace Go.Proofs.Ytogomcfgfnlclaa
open Go Go.RowKit
open Go.WideElems (Fit rd rg rg_of)
open Go.Maps
theorem zsh (m : Nat) : AnyZ.SortsIn Try.prog Try.sorted33_ren Fence.wide m :=
 ⟨fun blk off cap ss W hH hblk hsz => callsIn_wide.2 (AnyM.slices_Sort_string Try.sort47 blk off cap ss W hH hblk hsz),
  fun p cap W => callsIn_wide.2 (AnyM.slices_Sort_string_none Try.sort47 p cap W)⟩
def zzl (_ : Value) : Option (DataW Unit × List MemPlace) := some (.lit (.bool true), [])
set_option maxHeartbeats 1000000 in
theorem yi2 (w : World) (Bm b clock : Nat) (x : MapEntry) (s : ByteArray) (hB : Bm < w.heap.size) (hc : w.cell? ⟨Bm, 0, none⟩ = some (.map (some b))) (hb : w.heap[b]? = some (.map #[x] clock)) (hst : MapKept.Stamped #[x] clock)
   (hk : x.key = .string s) (hs : s.size <= 1000) :
   Calls Try.prog 33 #[.func (.func 48) #[] #[.pointer (some ⟨Bm, 0, none⟩)]] w fun e w' => ∃ v, e = .returned v /\ w'.ownsRow w.heap.size 9 1 v 1 [.string s] /\ Below w.heap.size w w' := by
 have hrd : rd Try.prog 9 zzl x = some (.string s.data.toList, .lit (.bool true)) := by
   have hl : s.size <= maxLen := Nat.le_trans hs (by decide)
   simp [rd, zzl, Go.keyOf, hk, mapKey, Try.underlying9, hl]
 have hown : w.ownsMap Try.prog 9 zzl b 1 (.map [(.string s.data.toList, .lit (.bool true))]) := by
   refine ⟨#[x], clock, hb, ⟨(show 1 <= maxLen by decide), hst, fun y hy => ?_⟩, by simp, ?_⟩
   · simp at hy; subst hy; exact ⟨_, hrd⟩
   · simp [rg_of hrd, DataW.insert]
 have hseq := AnyZ.keys_gives (ρ := Try.keys34_ren) (F := Fence.wide) (n := 2) { Try.keys34 with } trivial rfl (by omega) Bm b 1 _ w hB hc hown
 refine (callsIn_wide.1 (AnyZ.sorted_in Try.sorted33 Fence.wide 5 trivial trivial trivial trivial rfl (by omega) (zsh _) (enters_of Try.func47 (by kernel_rfl) rfl) 48 _ trivial (enters_of Try.func48 (by kernel_rfl) rfl) _ 1 (by decide) (by omega) w hseq)).mono ?_
 rintro e w' ⟨v, ss, rfl, hS, hrow, -, hB⟩
 have : ss = [s.data.toList] := by simpa [strKeys, strOf] using hS
 subst this
 have hrow := hrow
 simp [encStr] at hrow
 exact ⟨v, rfl, hrow, hB⟩
namespace Sy
theorem ze1 {P : Program} {f : FuncId} {fn : Func} {c : Code} {vs : Array Value} {w : World} {Q : Ending -> World -> Prop} (hf : P.funcs[f]? = some fn) (hb : fn.body = some c) (hn : (fn.name == "runtime.NumGoroutine") = false) (h : Calls P f vs w Q) : zfd P f vs w Q := by
 unfold zfd
 rw [zcr hf hn hb]
 exact h
theorem zej {D D' : Nat -> Prop} {w w' : World} {μ : Mu} {O : List (Nat × Ob)} {r : AV} {v : Value} (hD : ∀ b, D b -> b < w.heap.size)
   (hdom : ∀ n, μ n = none ↔ gx (za2 O) n = none) (hobs : ∀ n o x, gx (za2 O) n = some o -> μ n = some x -> zd7 w.heap D μ o x)
   (hinj : ∀ n n' b z z', μ n = some (some (b, z)) -> μ n' = some (some (b, z')) -> n = n') (hown : ∀ n b z, μ n = some (some (b, z)) -> b < w.heap.size /\ ¬ D b)
   (B : Below w.heap.size w w') (up : ∀ b, D b -> D' b) (dn : ∀ b, D' b -> D b \/ (w.heap.size <= b /\ b < w'.heap.size)) (rv : R w'.heap D' μ r v) : yl3 D w μ O O r (.returned v) v w' D' μ :=
 { ret := rfl, os := B.os, tape := B.tape, output := B.output, size := B.size, old := fun b hb _ => B.block b hb, up := up,
   dn := fun b hb => (dn b hb).elim .inl (fun h => .inr (.inl h)), dom := hdom,
   obs := fun n o x ho hx => (hobs n o x ho hx).mono (fun b hb => B.block b (hD b hb)) up (fun _ _ h => h) (fun b z e _ => by subst e; exact B.block b (hown n b z hx).1),
   inj := hinj,
   own := fun n b z h => ⟨Nat.lt_of_lt_of_le (hown n b z h).1 B.size, fun hb => (dn b hb).elim (hown n b z h).2 (fun h2 => absurd (hown n b z h).1 (by omega)), .inr ⟨n, z, h⟩⟩,
   keep := fun _ _ _ => rfl, val := rv }
theorem zt4 {D : Nat -> Prop} {w w' : World} {μ : Mu} {O : List (Nat × Ob)} {r : AV} {v : Value} (id : Nat) (o : Ob) (z : Nat × Nat) (hD : ∀ b, D b -> b < w.heap.size) (hid : za2 O id = none)
   (hdom : ∀ n, μ n = none ↔ gx (za2 O) n = none) (hobs : ∀ n o x, gx (za2 O) n = some o -> μ n = some x -> zd7 w.heap D μ o x)
   (hinj : ∀ n n' b z z', μ n = some (some (b, z)) -> μ n' = some (some (b, z')) -> n = n') (hown : ∀ n b z, μ n = some (some (b, z)) -> b < w.heap.size /\ ¬ D b)
   (B : Below w.heap.size w w') (hlt : w.heap.size < w'.heap.size)
   (hbig : id < zbs) (hnt : zar o = false) (ok : zd7 w'.heap D (fun n => if n = id then some (some (w.heap.size, z)) else μ n) o (some (w.heap.size, z)))
   (rv : R w'.heap D (fun n => if n = id then some (some (w.heap.size, z)) else μ n) r v) :
   yl3 D w μ O (zb8 O [(id, o)]) r (.returned v) v w' D (fun n => if n = id then some (some (w.heap.size, z)) else μ n) := by
 have hgid : gx (za2 O) id = none := by rw [za7 (zat.2 hbig), hid]
 have hμ : μ id = none := (hdom id).2 hgid
 have hm : ∀ n x, μ n = some x -> (if n = id then some (some (w.heap.size, z)) else μ n) = some x := fun n x h => by
   rw [if_neg (by rintro rfl; rw [hμ] at h; cases h)]; exact h
 have ha : ∀ n, gx (za2 (zb8 O [(id, o)])) n = if n = id then some o else gx (za2 O) n := fun n => by
   have hf : za2 (zb8 O [(id, o)]) = zb3 (za2 O) [(id, o)] := by
     funext n
     rw [ze2, zi7]
     by_cases e : n = id
     · subst e; rw [hid, if_pos rfl]; simp [za2, za3]
     · rw [if_neg e]
       cases za2 O n with
       | some _ => rfl
       | none => simp [za2, za8 (fun h => e h.symm)]
   rw [hf]
   exact zhi hbig hnt (fun x hx => by rw [hid] at hx; cases hx) n
 refine { ret := rfl, os := B.os, tape := B.tape, output := B.output, size := B.size, old := fun b hb _ => B.block b hb, up := fun _ h => h, dn := fun b hb => .inl hb, dom := fun n => ?_, obs := fun n o' x ho hx => ?_, inj := fun n n' b z1 z2 h1 h2 => ?_, own := fun n b z1 h => ?_, keep := fun n h _ => ?_, val := rv }
 · rw [ha]
   by_cases e : n = id
   · simp [e]
   · simp only [if_neg e]; exact hdom n
 · rw [ha] at ho
   by_cases e : n = id
   · simp only [if_pos e] at ho hx
     cases ho; cases hx
     exact ok
   · simp only [if_neg e] at ho hx
     exact (hobs n o' x ho hx).mono (fun b hb => B.block b (hD b hb)) (fun _ h => h) hm (fun b z e _ => by subst e; exact B.block b (hown n b z hx).1)
 · by_cases e : n = id <;> by_cases e' : n' = id
   · rw [e, e']
   · simp only [if_pos e, if_neg e'] at h1 h2
     cases h1
     exact absurd (hown n' _ _ h2).1 (by omega)
   · simp only [if_neg e, if_pos e'] at h1 h2
     cases h2
     exact absurd (hown n _ _ h1).1 (by omega)
   · simp only [if_neg e, if_neg e'] at h1 h2
     exact hinj n n' b z1 z2 h1 h2
 · by_cases e : n = id
   · simp only [if_pos e] at h
     cases h
     exact ⟨hlt, fun hb => absurd (hD _ hb) (by omega), .inl (Nat.le_refl _)⟩
   · simp only [if_neg e] at h
     exact ⟨Nat.lt_of_lt_of_le (hown n b z1 h).1 B.size, (hown n b z1 h).2, .inr ⟨n, z1, h⟩⟩
 · exact if_neg (fun e => h (by rw [e]; exact hgid))
end Sy
end Go.Proofs.Ytogomcfgfnlclaa
namespace Go.Proofs.Ytogomcfgfnlclaa
namespace Sy
open Go Go.RowKit
set_option maxRecDepth 100000
set_option linter.unusedSimpArgs false
set_option linter.unusedVariables false
def ygn (x s : List UInt8) : List (Nat × Ob) := [(500001, .mapl .s [(.s nmA, .ref 500003 0)]), (500003, zct x s)]
theorem zfk {h : Array Obj} {D : Nat -> Prop} {μ : Mu} {x : AV} {vs : Array Value} (hr : RL h D μ [x] vs) : ∃ v, vs = #[v] /\ R h D μ x v := by
 obtain ⟨hl, hr⟩ := hr
 obtain ⟨a, ha⟩ : ∃ a, vs.toList = [a] := List.length_eq_one_iff.1 (by simpa using hl.symm)
 have : vs = #[a] := by rw [<- Array.toArray_toList (xs := vs), ha]
 subst this
 exact ⟨a, rfl, hr 0 x a rfl rfl⟩
theorem zou {h : Array Obj} {D : Nat -> Prop} {μ : Mu} {b z m : Nat} {v : AV} (k : zd7 h D μ (.mapl .s [(.s nmA, v)]) (some (b, z, m))) :
   ∃ x clock s, h[b]? = some (.map #[x] clock) /\ MapKept.Stamped #[x] clock /\ x.key = .string s /\ s.data.toList = nmA /\ R h D μ v x.val := by
 obtain ⟨es, clock, kf, hb, hn, hks, hnd, hr⟩ := k
 have hn : es.size = 1 := hn
 obtain ⟨x, rfl⟩ : ∃ x, es = #[x] := ⟨es[0], by
   apply Array.ext
   · simpa using hn
   · intro i h1 h2
     have : i = 0 := by simp at h2; exact h2
     subst this; rfl⟩
 obtain ⟨y, hy, ry⟩ := hr 0 x rfl
 obtain ⟨k1, k2⟩ := hks.key 0 x rfl
 obtain ⟨s, k3, k4⟩ := k1
 have hkf : kf 0 = .s nmA /\ y = v := by
   simp only [zbc] at hy
   split at hy
   · rename_i h; exact ⟨(zk8 h).symm, by cases hy; rfl⟩
   · cases hy
 obtain ⟨h1, rfl⟩ := hkf
 rw [h1] at k4
 exact ⟨x, clock, s, hb, hks.st, k3, (Ky.s.inj k4).symm, ry⟩
def zj5 : zes := (36, fun raw ob => match raw with
 | [.mp n] => match ob n with
   | some (.mapl _ [(_, .ref i _)]) => some ⟨[.mp 500001], ygn (zbh (ob i)).1 (zbh (ob i)).2, True, .mp 600000, zb8 (ygn (zbh (ob i)).1 (zbh (ob i)).2) [(600000, .mapl .s [(.s nmA, .ref 500003 0)])]⟩
   | _ => none
 | _ => none)
theorem zkq : zc4 Try.prog zj5 := by
 intro raw ob T hT hp
 unfold zj5 at hT
 simp only at hT
 repeat' split at hT
 all_goals first | (cases hT; done) | skip
 cases hT
 intro D w μ vs hD hxs hdom hobs hinj hown hg hgb
 obtain ⟨v, rfl, r1⟩ := zfk hxs
 cases r1 with
 | mp _ b z m hμ =>
   obtain ⟨es, clock, kf, hb, hn, hks, hnd, hr⟩ := hobs 500001 _ _ rfl hμ
   refine ze1 (fn := Try.f36) rfl rfl (by kernel_rfl) ((AnyW.maps_Clone Try.clone36 b es clock w hb).mono ?_)
   rintro e w' ⟨rfl, rfl⟩
   have B : Below w.heap.size w (w.alloc (.map es clock)) := (Below.refl _ w).alloc (Nat.le_refl _) _
   have hm : ∀ n x, μ n = some x -> (if n = 600000 then some (some (w.heap.size, (0, 0))) else μ n) = some x := fun n x h => by
     rw [if_neg (by rintro rfl; rw [(hdom 600000).2 rfl] at h; cases h)]; exact h
   refine ⟨_, D, _, zt4 600000 _ (0, 0) hD rfl hdom hobs hinj hown B (by show w.heap.size < (w.heap.push _).size; simp) (by unfold zbs; omega) rfl ⟨es, clock, kf, heap_alloc_new _ _, hn, hks, hnd, fun i x hx => ?_⟩ (.mp _ w.heap.size 0 0 (if_pos rfl))⟩
   obtain ⟨y, h1, h2⟩ := hr i x hx
   exact ⟨y, h1, h2.mono (fun b hb => B.block b (hD b hb)) (fun _ h => h) hm⟩
def seqO (x s : List UInt8) : List (Nat × Ob) := [(500010, .box 60 [.mp 500001]), (500001, .mapl .s [(.s nmA, .ref 500003 0)]), (500003, zct x s)]
def zit : zes := (33, fun raw ob => match raw with
 | [.fn _ [] [.ref c _]] => match ob c with
   | some (.box _ [.mp n]) => match ob n with
     | some (.mapl _ [(_, .ref i _)]) => some ⟨[.fn 48 [] [.ref 500010 0]], seqO (zbh (ob i)).1 (zbh (ob i)).2, True, .lst 1 1 (fun _ _ => .str nmA), seqO (zbh (ob i)).1 (zbh (ob i)).2⟩
     | _ => none
   | _ => none
 | _ => none)
theorem zjh : zc4 Try.prog zit := by
 intro raw ob T hT hp
 unfold zit at hT
 simp only at hT
 repeat' split at hT
 all_goals first | (cases hT; done) | skip
 cases hT
 intro D w μ vs hD hxs hdom hobs hinj hown hg hgb
 obtain ⟨v, rfl, r1⟩ := zfk hxs
 cases r1 with
 | fn _ _ _ us1 us2 e1 e2 h1 h2 =>
   obtain ⟨u, hu⟩ : ∃ u, us2.toList = [u] := List.length_eq_one_iff.1 (by simpa using e2.symm)
   have : us2 = #[u] := by rw [<- Array.toArray_toList (xs := us2), hu]
   subst this
   have : us1 = #[] := by
     apply Array.eq_empty_of_size_eq_zero
     simpa using e1.symm
   subst this
   have r2 : R w.heap D μ (.ref 500010 0) u := h2 0 _ u rfl rfl
   cases r2 with
   | ref _ _ b z m hμ =>
     obtain ⟨C, t, fr, hb, hz, hf, ho, hC⟩ := hobs 500010 _ _ rfl hμ
     obtain ⟨v0, rfl, r3⟩ := zfk hC
     cases r3 with
     | mp _ bm zm mm hμm =>
       obtain ⟨x, clock, s, hbm, hst, hk, hs, rx⟩ := zou (hobs 500001 _ _ rfl hμm)
       have hss : s.size = 1 := by
         have := congrArg List.length hs
         simpa [nmA] using this
       refine ze1 (fn := Try.f33) rfl rfl (by kernel_rfl) ((yi2 w b bm clock x s (hown _ _ _ hμ).1 (by rw [zec]; simp [zam hb]) hbm hst hk (by omega)).mono ?_)
       rintro e w' ⟨v, rfl, ⟨-, hrow⟩, B⟩
       rcases hrow with ⟨-, h0⟩ | ⟨g, cap, cur, rfl, hg0, hgb, hc1, hc2, hc3, hc4⟩
       · cases h0
       have hcur : cur[0]? = some (.string s) := by
         have := congrArg (fun l => l[0]?) hc4
         simpa using this
       have hlt : g < w'.heap.size := (Array.getElem?_eq_some_iff.1 hgb).1
       refine ⟨_, fun b => D b \/ b = g, μ, zej hD hdom hobs hinj hown B (fun b h => .inl h) (fun b h => h.elim .inl (fun e => .inr (by subst e; exact ⟨hg0, hlt⟩))) (.lst 1 1 _ g 0 cap (fun _ _ => .string s) (.inr rfl) hc1 (fun i j hi hj => ?_) (fun i j hi hj => rfl) (fun i j hi hj => .str _ s hs))⟩
       have : i = 0 := by omega
       subst this
       have : j = 0 := by omega
       subst this
       rw [zam hgb]
       exact hcur
def zbk (a : List UInt8) : Prop := a.length <= 1000
def zxv (L : za9) : zet := (45, fun xs => match xs with | [.str a] => some (L zbk a, .str a) | _ => none)
def ydc (L : za9) : zet := (32, fun xs => match xs with | [.str a] => some (L zbk a, .str a) | _ => none)
theorem zxw : zgh Try.prog (zxv std) := by
 intro xs p r h hp
 dsimp only [zxv] at h |-
 split at h <;> cases h
 try simp only [L2, L3, std] at hp |-
 rename_i a
 have h1 : a.length <= 1000 := hp
 exact zd6 (fn := Try.f45) rfl rfl (by kernel_rfl) (yg0 (zgy _)) (fun h D => zud h D zap _) (fun w => Try.stringslite_Clone ⟨a.toArray⟩ w (by show a.toArray.size <= _; rw [List.size_toArray]; omega))
theorem zsk : zgh Try.prog (ydc std) := by
 intro xs p r h hp
 dsimp only [ydc] at h |-
 split at h <;> cases h
 try simp only [L2, L3, std] at hp |-
 rename_i a
 have h1 : zbk a := hp
 refine zah (T := tt) (S := fun L => zdk [zxv L]) (lo := noA) (lb := noA) 5 (fn := Try.f32) rfl rfl (by kernel_rfl) (by kernel_rfl) rfl zaq (zas ⟨zxw, trivial⟩) (by kernel_rfl) ?_
 (intro L P1 Q1 hL hP hQ; cbv; subst hL; simp only [L2, L3, std, syT]; subst hQ)
 (simp only [syS, reduceCtorEq, Int.reduceToNat, Int.reduceAdd, Int.reduceSub])
 exact h1
def zgf (a : List UInt8) : Bool := !decide (a = []) && decide (a.length <= 32)
def zln (L : za9) : zet := (29, fun xs => match xs with | [.str a] => some (L zbk a, .bool (L zgf a)) | _ => none)
theorem zh7 : zgh Try.prog (zln std) := by
 intro xs p r h hp
 dsimp only [zln] at h |-
 split at h <;> cases h
 try simp only [L2, L3, std] at hp |-
 rename_i a
 have h1 : a.length <= 1000 := hp
 refine zah (T := tt) (S := noS) (lo := noA) (lb := noA) 5 (fn := Try.f29) rfl rfl (by kernel_rfl) (by kernel_rfl) rfl zaq (zid _) (by kernel_rfl) ?_
 (intro L P1 Q1 hL hP hQ; cbv; subst hL; simp only [L2, L3, std, syT]; subst hQ)
 (simp only [syS, reduceCtorEq, Int.reduceToNat, Int.reduceAdd, Int.reduceSub])
 refine ⟨fun h => ?_, fun h => ?_⟩
 · unfold zgf
   rw [decide_eq_false h]
   unfold ile
   simp
   omega
 · subst h; rfl
def zhe (s : List UInt8) (i q : Nat) : Int := if q < i then zqd s q else 0
def yq5 (L : za9) (s : List UInt8) : Nat -> St -> Option Ann := fun id st => match id with
 | 0 => some ⟨Nat, fun i => [(27, .int .i64 (L zaa i))], fun i => [(24, .row 5 1 (L yom s) (fun q _ => .int .u8 (L3 L zhe s i q)))], [0, 1, 6, 26], [500003],
     fun i => L2 L (fun (s : List UInt8) i => i <= s.length) s i, fun i => L2 L (fun (s : List UInt8) (i : Nat) => s.length - i) s i⟩
 | _ => none
theorem yc6 (s : List UInt8) : zb9 s.length (fun k => zqd s k) = s := by
 apply List.ext_getElem
 · simp [zb9]
 · intro i h1 h2
   simp [zb9, zqd, h2]
theorem shr0 (k : IntKind) (b : Int) : zqh k 0 b = 0 := by unfold zqh; simp
theorem ym1 {i : Nat} (h : i <= 1000) : ile 0 (Int.tmod (yox .i64 (zaa i) 64) 63) = true := by
 have e1 : (zaa i).tdiv 64 = ((i / 64 : Nat) : Int) := by
   unfold zaa
   exact (Int.ofNat_tdiv i 64).symm
 unfold yox
 rw [zgd, e1]
 have e2 : ((i / 64 : Nat) : Int) + 9223372036854775808 < 18446744073709551616 := by omega
 rw [Int.emod_eq_of_lt (by omega) e2]
 unfold ile
 rw [decide_eq_true_eq]
 exact Int.tmod_nonneg _ (by omega)
def yan (L : za9) : zes := (38, fun raw ob => match raw with
 | [.ref i 0, .int .u64 _] => some ⟨[.ref 500003 0, .int .u64 0], [(500003, zct (zbh (ob i)).1 (zbh (ob i)).2)], L zbk (zbh (ob i)).2, .str (zbh (ob i)).2, [(500003, zct (zbh (ob i)).1 (zbh (ob i)).2)]⟩
 | _ => none)
theorem yjh (x s : List UInt8) (hs : zbk s) : zay Try.prog 38 [.ref 500003 0, .int .u64 0] [(500003, zct x s)] (.str s) [(500003, zct x s)] := by
 have hs : s.length <= 1000 := hs
 refine zai (T := tt) (S := fun L => zb5 [] []) (lo := fun L => yq5 L s) (lb := noA) 8 (fn := Try.f38) (xs := fun L => [.ref 500003 0, .int .u64 0]) (rts := fun _ => [.str s]) (O := fun L => [(500003, zct x s)]) (O1 := fun L => [(500003, zct x s)])
   rfl rfl (by kernel_rfl) (by kernel_rfl) (by kernel_rfl) zaq (za5 trivial trivial) (by kernel_rfl) ?_
 intro L P' Q' hL hP hQ
 (cbv; try simp only [syT, true_and, and_true])
 refine ⟨?_, fun h1 => ?_, fun h1 => ⟨?_, ⟨0, ?_⟩, fun i hi => ?_⟩⟩
 · subst hL; decide
 · exfalso
   subst hL
   revert h1
   simp only [std, L2]
   decide
 · subst hL
   show yla 1 (slen s) (slen s) = true
   rw [ya3]
   unfold slen
   omega
 · (cbv; try simp only [syT, true_and, and_true])
   subst hL
   refine ⟨⟨rfl, fun a b ha hb => ?_⟩, rfl, Nat.zero_le _⟩
   have : b = 0 := by omega
   subst this
   simp [zbj, L3, std, zhe]
 · (cbv; try simp only [syT, true_and, and_true])
   refine ⟨fun h2 => ⟨?_, ?_, ?_, fun h3 => ?_, fun h3 => ⟨fun h4 => ⟨?_, ?_, ⟨i + 1, ?_⟩⟩, fun h4 => ?_⟩⟩, fun h2 => ?_⟩
   · subst hL; decide
   · subst hL; decide
   · subst hL
     have hi : i <= s.length := hi
     exact ym1 (by omega)
   · exfalso
     subst hL
     revert h3
     simp only [std, shr0]
     decide
   · subst hL
     have h4 : ilt (zaa i) (slen s) = true := h4
     rw [zgq] at h4
     show inR (zaa i) (slen s) = true
     rw [zpj]
     exact ⟨Int.natCast_nonneg _, h4⟩
   · subst hL
     have h4 : ilt (zaa i) (slen s) = true := h4
     rw [zgq] at h4
     show inR (zaa i) (zaa (Int.toNat (slen s))) = true
     rw [zpj]
     exact ⟨Int.natCast_nonneg _, h4⟩
   · (cbv; try simp only [syT, true_and, and_true])
     subst hL
     have hi : i <= s.length := hi
     have h4 : ilt (zaa i) (slen s) = true := h4
     rw [zgq] at h4
     have h4 : (i : Int) < (s.length : Int) := h4
     refine ⟨fun a b ha hb => ?_, ?_, ?_, ?_⟩
     · refine (yms _ .u8 _ (zhe s i) a b hb).trans (congrArg (AV.int .u8) ?_)
       show (if a = 0 + (zaa i).toNat then zqd s (zaa i) else zhe s i a) = zhe s (i + 1) a
       have e1 : 0 + (zaa i).toNat = i := by unfold zaa; omega
       rw [e1]
       unfold zhe
       by_cases e : a = i
       · subst e
         rw [if_pos rfl, if_pos (by omega)]; rfl
       · rw [if_neg e]
         by_cases e2 : a < i
         · rw [if_pos e2, if_pos (by omega)]
         · rw [if_neg e2, if_neg (by omega)]
     · show wadd .i64 (zaa i) 1 = zaa (i + 1)
       unfold wadd zaa
       rw [zgd]
       omega
     · show i + 1 <= s.length
       omega
     · show s.length - (i + 1) < s.length - i
       omega
   · exfalso
     subst hL
     have h2 : ilt (zaa i) (zaa (Int.toNat (slen s))) = true := h2
     have h4 : ilt (zaa i) (slen s) = false := h4
     have e : zaa (Int.toNat (slen s)) = slen s := by unfold zaa slen; omega
     rw [e, h4] at h2
     cases h2
   · subst hL
     have hi : i <= s.length := hi
     have h2 : ilt (zaa i) (zaa (Int.toNat (slen s))) = false := h2
     rw [znm] at h2
     have e : i = s.length := by unfold zaa slen at h2; omega
     subst e
     refine ⟨⟨?_, fun k _ => ⟨_, rfl⟩⟩, ?_⟩
     · show 0 + s.length <= s.length
       omega
     · show zb9 s.length (fun k => zhe s s.length (0 + k)) = s
       refine Eq.trans ?_ (yc6 s)
       unfold zb9
       refine List.map_congr_left fun k hk => ?_
       have hk : k < s.length := by simpa using hk
       show UInt8.ofNat (zhe s s.length (0 + k)).toNat = UInt8.ofNat (zqd s k).toNat
       unfold zhe
       rw [if_pos (by omega), Nat.zero_add]
theorem yao : zc4 Try.prog (yan std) := by
 intro raw ob T hT hp
 unfold yan at hT
 simp only at hT
 repeat' split at hT
 all_goals first | (cases hT; done) | (cases hT; exact yjh _ _ hp)
theorem zox (l : List Nd) (k q : Nat) (v : Nd) : zae (l.set k v) q = if q = k /\ k < l.length then v else zae l q := by
 unfold zae
 rw [List.getD_eq_getElem?_getD, List.getD_eq_getElem?_getD, List.getElem?_set]
 by_cases h : k = q
 · subst h
   by_cases h2 : k < l.length
   · simp [h2]
   · simp [h2]
 · rw [if_neg h, if_neg (fun e => h e.1.symm)]
theorem ygh (l : List Nd) (k : Nat) (a : List UInt8) {q j : Nat} (hq : q < l.length) (hj : j < 2) : zze std k 0 0 1 [AV.str a] (fun q _ => ndC std (zae l q)) q 0 j = ndC std (zae (l.set k ⟨a, (zae l k).sure⟩) q) j := by
 rw [zox]
 match j, hj with
 | 0, _ =>
   show zcd std (za4 q k && za4 0 0) (.str a) (.str (zae l q).now) = _
   by_cases h : q = k
   · subst h; rw [if_pos ⟨rfl, hq⟩, za3, za3]; rfl
   · rw [if_neg (fun e => h e.1), za8 h]; rfl
 | 1, _ =>
   show AV.str (zae l q).sure = _
   by_cases h : q = k
   · subst h; rw [if_pos ⟨rfl, hq⟩]; rfl
   · rw [if_neg (fun e => h e.1)]; rfl
theorem yiw (l : List Nd) (k : Nat) (a : List UInt8) {q j : Nat} (hq : q < l.length) (hj : j < 2) : zze std k 0 1 1 [AV.str a] (fun q _ => ndC std (zae l q)) q 0 j = ndC std (zae (l.set k ⟨(zae l k).now, a⟩) q) j := by
 rw [zox]
 match j, hj with
 | 0, _ =>
   show AV.str (zae l q).now = _
   by_cases h : q = k
   · subst h; rw [if_pos ⟨rfl, hq⟩]; rfl
   · rw [if_neg (fun e => h e.1)]; rfl
 | 1, _ =>
   show zcd std (za4 q k && za4 0 0) (.str a) (.str (zae l q).sure) = _
   by_cases h : q = k
   · subst h; rw [if_pos ⟨rfl, hq⟩, za3, za3]; rfl
   · rw [if_neg (fun e => h e.1), za8 h]; rfl
theorem yls {x : Dk} {s : List UInt8} (h : thE x s = 0) : thB x s = true /\ x.down = false /\ zbo x.names s = true := by
 unfold thE at h
 unfold thB
 split at h
 · cases h
 · rename_i h1
   split at h
   · rename_i h2
     have h1 : x.down = false := by simpa using h1
     rw [h1, h2]; exact ⟨rfl, rfl, rfl⟩
   · cases h
def zhz (x : Dk) (s : List UInt8) : List UInt8 := if thE x s = 0 then (zae x.nd (thK x s)).now else []
def zz1 (L : za9) : zes := (14, fun raw ob => match raw with
 | [.ref id 0, .str s] => match rdS L ob id with
   | some x => some ⟨[.ref 500000 0, .str s], dpO L x, True, .tup [.str (L2 L zhz x s), .int .i64 (L2 L thE x s)], dpO L x⟩
   | _ => none
 | _ => none)
theorem yit (x : Dk) (s : List UInt8) : zay Try.prog 14 [.ref 500000 0, .str s] (dpO std x) (.tup [.str (zhz x s), .int .i64 (thE x s)]) (dpO std x) := by
 refine zai (T := tt) (S := fun L => zb5 [] [zje L]) (lo := noA) (lb := noA) 8 (fn := Try.f14) (xs := fun L => [.ref 500000 0, .str s]) (rts := fun L => [.str (L2 L zhz x s), .int .i64 (L2 L thE x s)]) (O := fun L => dpO L x) (O1 := fun L => dpO L x)
   rfl rfl (by kernel_rfl) (by kernel_rfl) (by kernel_rfl) zaq (za5 trivial ⟨zgk, trivial⟩) (by kernel_rfl) ?_
 intro L P' Q' hL hP hQ
 have hE : ∀ x : Dk, L zqf ⟨L Dk.room x, L Dk.names x, L Dk.sure x, L zjt (L Dk.pend x), fun q => tnC L (L (L zee (L Dk.pend x)) q), L zcb (L Dk.nd x), fun k _ => ndC L (L (L zae (L Dk.nd x)) k), L Dk.steps x, L Dk.fuse x, L Dk.down x⟩ = x := by subst hL; exact zjq
 (cbv; try simp only [syT, true_and, and_true])
 simp only [hE, true_and]
 subst hL
 simp only [std]
 refine ⟨Nat.le_refl _, ⟨fun _ _ => trivial, fun _ _ _ _ _ _ => trivial⟩, fun _ _ _ _ => trivial, fun h => ?_, fun h => ?_⟩
 · have h : ¬ thE x s = 0 := by simpa [ine] using h
   have hx : zhz x s = [] := if_neg h
   rw [hx]
   repeat' (first | exact Nat.le_refl _ | exact trivial | exact rfl | refine And.intro ?_ ?_ | intro _)
 · have h : thE x s = 0 := by simpa [ine] using h
   have hx : zhz x s = (zae x.nd (thK x s)).now := if_pos h
   rw [hx, (yls h).1, h]
   repeat' (first | exact Nat.le_refl _ | exact trivial | exact rfl | refine And.intro ?_ ?_ | intro _)
theorem zvd : zc4 Try.prog (zz1 std) := by
 intro raw ob T hT hp
 unfold zz1 at hT
 simp only at hT
 repeat' split at hT
 all_goals first | (cases hT; done) | (cases hT; exact yit _ _)
def zcu (x : Dk) (s : List UInt8) : Dk := if thE x s = 0 then (if zaw x = 0 then { zan x with nd := x.nd.set (thK x s) ⟨(zae x.nd (thK x s)).now, (zae x.nd (thK x s)).now⟩ } else zan x) else x
def zo9 (x : Dk) (s : List UInt8) : Int := if thE x s = 0 then zaw x else thE x s
def zxb (L : za9) : zes := (13, fun raw ob => match raw with
 | [.ref id 0, .str s] => match rdS L ob id with
   | some x => some ⟨[.ref 500000 0, .str s], dpO L x, True, .int .i64 (L2 L zo9 x s), dpO L (L2 L zcu x s)⟩
   | _ => none
 | _ => none)
theorem yhm (x : Dk) (s : List UInt8) : zay Try.prog 13 [.ref 500000 0, .str s] (dpO std x) (.int .i64 (zo9 x s)) (dpO std (zcu x s)) := by
 refine zai (T := tt) (S := fun L => zb5 [] [zje L, zle L]) (lo := noA) (lb := noA) 8 (fn := Try.f13) (xs := fun L => [.ref 500000 0, .str s]) (rts := fun L => [.int .i64 (L2 L zo9 x s)]) (O := fun L => dpO L x) (O1 := fun L => dpO L (L2 L zcu x s))
   rfl rfl (by kernel_rfl) (by kernel_rfl) (by kernel_rfl) zaq (za5 trivial ⟨zgk, zfy, trivial⟩) (by kernel_rfl) ?_
 intro L P' Q' hL hP hQ
 have hE : ∀ x : Dk, L zqf ⟨L Dk.room x, L Dk.names x, L Dk.sure x, L zjt (L Dk.pend x), fun q => tnC L (L (L zee (L Dk.pend x)) q), L zcb (L Dk.nd x), fun k _ => ndC L (L (L zae (L Dk.nd x)) k), L Dk.steps x, L Dk.fuse x, L Dk.down x⟩ = x := by subst hL; exact zjq
 (cbv; try simp only [syT, true_and, and_true])
 simp only [hE, true_and]
 subst hL
 simp only [std]
 obtain ⟨e1, e2, e3, e4, e5⟩ := zc6 x
 refine ⟨Nat.le_refl _, ⟨fun _ _ => trivial, fun _ _ _ _ _ _ => trivial⟩, fun _ _ _ _ => trivial, fun h => ⟨?_, ⟨fun _ _ => trivial, fun _ _ _ _ _ _ => trivial⟩, fun _ _ _ _ => trivial, fun h2 => ?_, fun h2 => ?_⟩, fun h => ?_⟩
 · rw [e1]; exact Nat.le_refl _
 · have h : thE x s = 0 := of_decide_eq_true h
   have h2 : zaw x = 0 := of_decide_eq_true h2
   have hx : zcu x s = { zan x with nd := x.nd.set (thK x s) ⟨(zae x.nd (thK x s)).now, (zae x.nd (thK x s)).now⟩ } := by
     unfold zcu; rw [if_pos h, if_pos h2]
   have hz : zo9 x s = zaw x := if_pos h
   have hl : zcb (x.nd.set (thK x s) ⟨(zae x.nd (thK x s)).now, (zae x.nd (thK x s)).now⟩) = zcb x.nd := List.length_set
   rw [hx, hz, (yls h).1]
   simp only [e1, hl]
   refine ⟨trivial, trivial, Nat.le_refl _, Nat.le_refl _, Nat.le_refl _, Nat.le_refl _, ⟨trivial, fun _ _ => trivial, fun q i j hq hi hj => ?_⟩, ⟨trivial, fun _ _ _ _ => trivial⟩, trivial, trivial, trivial, trivial, trivial, trivial, trivial, trivial⟩
   obtain rfl : i = 0 := by omega
   exact yiw x.nd (thK x s) _ hq hj
 · have h : thE x s = 0 := of_decide_eq_true h
   have h2 : ¬ zaw x = 0 := of_decide_eq_false h2
   have hx : zcu x s = zan x := by
     unfold zcu; rw [if_pos h, if_neg h2]
   have hz : zo9 x s = zaw x := if_pos h
   rw [hx, hz]
   simp only [e1]
   repeat' (first | exact Nat.le_refl _ | exact trivial | exact rfl | refine And.intro ?_ ?_ | intro _)
 · have h : ¬ thE x s = 0 := of_decide_eq_false h
   have hx : zcu x s = x := if_neg h
   have hz : zo9 x s = thE x s := if_neg h
   rw [hx, hz]
   repeat' (first | exact Nat.le_refl _ | exact trivial | exact rfl | refine And.intro ?_ ?_ | intro _)
theorem zub : zc4 Try.prog (zxb std) := by
 intro raw ob T hT hp
 unfold zxb at hT
 simp only at hT
 repeat' split at hT
 all_goals first | (cases hT; done) | (cases hT; exact yhm _ _)
end Sy
end Go.Proofs.Ytogomcfgfnlclaa
namespace Go.Proofs.Ytogomcfgfnlclaa
open Go Go.RowKit
open Go.ChangeMaps (setBlock)
def ye6 (f : MapEntry -> Int) (e : MapEntry) : MapEntry := { e with val := .int .i64 (f e) }
theorem ye5 (f : MapEntry -> Int) (l : List MapEntry) : ((l.map (ye6 f)).map fun e => valOf e.val) = l.map f := by
 rw [List.map_map]; rfl
theorem zzm (f : MapEntry -> Int) (l : List MapEntry) : (l.map (ye6 f)).map (·.born) = l.map (·.born) := by
 rw [List.map_map]; rfl
theorem yhf (x : Int) (n : Nat) : wrap64 (wrap64 x + (n : Int)) = wrap64 (x + n) := by
 unfold wrap64
 omega
set_option maxRecDepth 1000000 in
theorem yp4 (w : World) (b bm : Nat) (clock : Nat) (es : Array MapEntry) (f : MapEntry -> Int) (hc : w.cell? ⟨b, 1, none⟩ = some (.map (some bm))) (hm : w.heap[bm]? = some (.map es clock)) (hst : MapKept.Stamped es clock)
   (hv : ∀ x ∈ es.toList, ∃ (bn : Nat) (s : ByteArray), x.val = .pointer (some ⟨bn, 0, none⟩) /\ w.cell? ⟨bn, 0, none⟩ = some (.string s) /\ f x = s.size) :
   Calls Try.prog 17 #[.pointer (some ⟨b, 0, none⟩)] w fun e w' => e = .returned (.int .i64 (wrap64 ((es.toList.map f).sum))) /\ Below w.heap.size w w' := by
 have hrg := run_range_map (P := Try.prog) w 60 9 64 bm es clock Try.underlying60 hm
 have hbm : bm < w.heap.size := by
   rcases Nat.lt_or_ge bm w.heap.size with h | h
   · exact h
   · simp [Array.getElem?_eq_none h] at hm
 go_enter Try.func17, Try.ntmps17
 go_wp2
 go_loopw [3] (fun s w' => ∃ seen : Array Nat, w'.heap[w.heap.size]? = some (.mapIter (some bm) clock seen clock) /\ (∀ k, k < w.heap.size -> w'.heap[k]? = w.heap[k]?) /\ Below w.heap.size w w' /\ s = .int .i64 (wrap64 (seenSum (es.toList.map (ye6 f)) seen))) (fun _ w' => (leftOf es (w'.iterSeen w.heap.size)).size)
 case atStart =>
   exact ⟨#[], heap_alloc_new _ _, fun k hk => heap_alloc_old _ _ hk, (Below.refl _ w).alloc (Nat.le_refl _) _, by rw [seenSum_none]; unfold wrap64; rfl⟩
 case round =>
   obtain ⟨seen, hr, hk, hB, rfl⟩ := hrel
   have hmr : wr.heap[bm]? = some (.map es clock) := (hk bm hbm).trans hm
   rcases run_next_at (P := Try.prog) wr 0 w.heap.size bm clock clock seen es clock hr hmr hst.1 (Nat.le_refl _) with ⟨h0, hrun⟩ | ⟨e, he, w1, hal, hrun⟩
   · have hnx : ∀ ty, (Instr.next (.pointer (some ⟨w.heap.size, 0, none⟩)) false ty).run Try.prog wr = _ := fun _ => hrun
     go_wp2
     go_ret
     rw [seenSum_full seen _ (fun x hx => by
       obtain ⟨y, hy, rfl⟩ := List.mem_map.1 hx
       exact all_seen es seen h0 y hy), ye5]
     exact ⟨rfl, hB⟩
   · obtain ⟨bn, s, hx, hn, hf⟩ := hv e (mem_left he).1
     rw [hx] at hrun
     have hbn : bn < w.heap.size := by
       rcases Nat.lt_or_ge bn w.heap.size with h | h
       · exact h
       · simp [World.cell?, Array.getElem?_eq_none h] at hn
     obtain ⟨W2, hr2, hk2, hB2, hrun2⟩ : ∃ W2 : World, W2.heap[w.heap.size]? = some (.mapIter (some bm) clock (seen.push e.born) clock) /\ (∀ k, k < w.heap.size -> W2.heap[k]? = w.heap[k]?) /\ Below w.heap.size w W2 /\ (Instr.next (.pointer (some ⟨w.heap.size, 0, none⟩)) false 0).run Try.prog wr = .ok (.tuple #[.bool true, e.key, .pointer (some ⟨bn, 0, none⟩)]) W2 := by
       have hw : w1.heap = wr.heap /\ w1.os = wr.os /\ w1.tape = wr.tape /\ w1.output = wr.output := by
         rcases hal with rfl | rfl
         · exact ⟨rfl, rfl, rfl, rfl⟩
         · exact ⟨rfl, rfl, rfl, rfl⟩
       obtain ⟨h1, h2, h3, h4⟩ := hw
       have hl : w.heap.size < wr.heap.size := (Array.getElem?_eq_some_iff.1 hr).1
       have hne : ∀ k, k < w.heap.size -> (w1.heap.setIfInBounds w.heap.size (.mapIter (some bm) clock (seen.push e.born) clock))[k]? = w.heap[k]? := fun k hk' => by
         rw [Array.getElem?_setIfInBounds_ne (by omega), h1]
         exact hk k hk'
       refine ⟨setBlock w1 w.heap.size (.mapIter (some bm) clock (seen.push e.born) clock), ?_, hne, ⟨h2.trans hB.os, h3.trans hB.tape, h4.trans hB.output, ?_, hne⟩, hrun⟩
       · show (w1.heap.setIfInBounds w.heap.size _)[w.heap.size]? = _
         rw [h1, Array.getElem?_setIfInBounds, if_pos rfl, if_pos hl]
       · show w.heap.size <= (w1.heap.setIfInBounds w.heap.size _).size
         rw [h1, Array.size_setIfInBounds]
         exact Nat.le_of_lt hl
     clear hrun hal
     have hnx : ∀ ty, (Instr.next (.pointer (some ⟨w.heap.size, 0, none⟩)) false ty).run Try.prog wr = _ := fun _ => hrun2
     have hm2 : W2.heap[bm]? = some (.map es clock) := (hk2 bm hbm).trans hm
     have hen := run_entry_at (P := Try.prog) W2 w.heap.size bm clock seen es clock e hr2 hm2 (mem_left he).1 hst.2.1
     rw [hx] at hen
     have hn1 : W2.cell? ⟨bn, 0, none⟩ = some (.string s) := by
       simp only [World.cell?, hk2 bn hbn]
       exact hn
     go_wp2
     go_roundw
     case rel =>
       refine ⟨seen.push e.born, hr2, hk2, hB2, ?_⟩
       have hmem : ye6 f e ∈ es.toList.map (ye6 f) := List.mem_map.2 ⟨e, (mem_left he).1, rfl⟩
       have hs := seenSum_push seen (ye6 f e) (mem_left he).2 (es.toList.map (ye6 f)) (by rw [zzm]; exact hst.2.1) hmem
       have hs : seenSum (es.toList.map (ye6 f)) (seen.push e.born) = seenSum (es.toList.map (ye6 f)) seen + f e := hs
       rw [hs, hf, yhf]
     case measure =>
       have e1 : W2.iterSeen w.heap.size = seen.push e.born := by unfold World.iterSeen; rw [hr2]
       have e2 : wr.iterSeen w.heap.size = seen := by unfold World.iterSeen; rw [hr]
       rw [e1, e2]
       exact left_shrinks es seen e he
end Go.Proofs.Ytogomcfgfnlclaa
namespace Go.Proofs.Ytogomcfgfnlclaa
open Go Go.RowKit
open Go.WideElems (Fit rd rg rg_of)
open Go.Maps
theorem zkl {H : Type} : ∀ l : List (Lit × DataW H), (l.foldr DataW.insert []).Perm l
 | [] => .refl _
 | x :: l => by
   have ins : ∀ r : List (Lit × DataW H), (DataW.insert x r).Perm (x :: r) := by
     intro r
     induction r with
     | nil => exact .refl _
     | cons y r ih =>
       unfold DataW.insert
       split
       · exact .refl _
       · exact (ih.cons y).trans (.swap x y r)
   exact (ins _).trans ((zkl l).cons x)
theorem yi1 (w : World) (Bm b clock : Nat) (es : Array MapEntry) (ks : List (List UInt8)) (hB : Bm < w.heap.size) (hc : w.cell? ⟨Bm, 0, none⟩ = some (.map (some b))) (hb : w.heap[b]? = some (.map es clock)) (hst : MapKept.Stamped es clock)
   (hk : ∀ x ∈ es.toList, ∃ s : ByteArray, x.key = .string s /\ s.data.toList ∈ ks) (hks : ∀ k ∈ ks, ∃ x ∈ es.toList, ∃ s : ByteArray, x.key = .string s /\ s.data.toList = k) (hri : ks.Pairwise (fun a b => Op.bytesLess a b = true)) (hl : ks.length <= 1000000) (hs : ∀ k ∈ ks, k.length <= maxLen) :
   Calls Try.prog 33 #[.func (.func 48) #[] #[.pointer (some ⟨Bm, 0, none⟩)]] w fun e w' => ∃ v, e = .returned v /\ w'.ownsRow w.heap.size 9 1 v ks.length (ks.map encStr) /\ Below w.heap.size w w' := by
 have hrd : ∀ x ∈ es.toList, ∃ s : ByteArray, x.key = .string s /\ s.data.toList ∈ ks /\ rd Try.prog 9 zzl x = some (.string s.data.toList, .lit (.bool true)) := fun x hx => by
   obtain ⟨s, h1, h2⟩ := hk x hx
   have hl : s.size <= maxLen := by have := hs _ h2; simpa using this
   exact ⟨s, h1, h2, by simp [rd, zzl, Go.keyOf, h1, mapKey, Try.underlying9, hl]⟩
 let g : MapEntry -> List UInt8 := fun x => match x.key with | .string s => s.data.toList | _ => []
 have hnd : (es.toList.map g).Nodup := by
   have h := hst.2.2
   rw [List.Nodup, List.pairwise_map] at h |-
   refine h.imp_of_mem fun {x y} hx hy hne he => ?_
   obtain ⟨s, h1, _⟩ := hk x hx
   obtain ⟨t, h2, _⟩ := hk y hy
   apply hne
   have he : s.data.toList = t.data.toList := by
     have e1 : g x = s.data.toList := by simp only [g, h1]
     have e2 : g y = t.data.toList := by simp only [g, h2]
     rw [<- e1, <- e2]; exact he
   rw [h1, h2]
   congr 1
   exact ByteArray.ext (Array.ext' he)
 have hlt : ∀ a b : List UInt8, Op.bytesLess a b = true -> a < b := fun a b h => by rw [bytesLess_eq] at h; exact of_decide_eq_true h
 have hknd : ks.Nodup := hri.imp fun {a b} h he => by
   subst he
   exact absurd (hlt _ _ h) (List.lt_irrefl a)
 have hperm : (es.toList.map g).Perm ks := by
   refine (List.perm_ext_iff_of_nodup hnd hknd).2 fun k => ⟨fun hm => ?_, fun hm => ?_⟩
   · obtain ⟨x, hx, rfl⟩ := List.mem_map.1 hm
     obtain ⟨s, h1, h2⟩ := hk x hx
     simp only [g, h1]; exact h2
   · obtain ⟨x, hx, s, h1, h2⟩ := hks k hm
     exact List.mem_map.2 ⟨x, hx, by simp only [g, h1]; exact h2⟩
 have hesl : es.size = ks.length := by have := hperm.length_eq; simpa using this
 have hmx : (1000000 : Nat) <= maxLen := by decide
 have hown : w.ownsMap Try.prog 9 zzl b es.size (.map ((es.toList.map (rg Try.prog 9 zzl)).foldr DataW.insert [])) :=
   ⟨es, clock, hb, ⟨by omega, hst, fun y hy => by obtain ⟨s, _, _, h⟩ := hrd y hy; exact ⟨_, h⟩⟩, Nat.le_refl _, rfl⟩
 have hsk : (strKeys (.map ((es.toList.map (rg Try.prog 9 zzl)).foldr DataW.insert []) : DataW Unit)).Perm ks := by
   refine List.Perm.trans ?_ hperm
   refine ((zkl _).map _).trans (List.Perm.of_eq ?_)
   rw [List.map_map]
   refine List.map_congr_left fun x hx => ?_
   obtain ⟨s, h1, _, h3⟩ := hrd x hx
   simp only [Function.comp, rg_of h3, strOf, g, h1]
 have hsize : Maps.size (.map ((es.toList.map (rg Try.prog 9 zzl)).foldr DataW.insert []) : DataW Unit) <= 1000000 := by
   have := (zkl (es.toList.map (rg Try.prog 9 zzl))).length_eq
   show (List.foldr DataW.insert [] (es.toList.map (rg Try.prog 9 zzl))).length <= 1000000
   rw [this, List.length_map, Array.length_toList]
   omega
 have hseq := AnyZ.keys_gives (ρ := Try.keys34_ren) (F := Fence.wide) (n := 2) { Try.keys34 with } trivial rfl (by omega) Bm b es.size _ w hB hc hown
 refine (callsIn_wide.1 (AnyZ.sorted_in Try.sorted33 Fence.wide 5 trivial trivial trivial trivial rfl (by omega) (zsh _) (enters_of Try.func47 (by kernel_rfl) rfl) 48 _ trivial (enters_of Try.func48 (by kernel_rfl) rfl) _ _ (by omega) (by omega) w hseq)).mono ?_
 rintro e w' ⟨v, ss, rfl, hS, hrow, -, hB⟩
 have hS : ss.Perm ks := hS.trans hsk
 have hsort : ss.mergeSort (fun x y => decide (x <= y)) = ks := by
   have hp := List.pairwise_mergeSort (le := fun x y : List UInt8 => decide (x <= y)) (fun a b c h1 h2 => decide_eq_true (List.le_trans (of_decide_eq_true h1) (of_decide_eq_true h2))) (fun a b => by
     rcases List.le_total a b with h | h
     · rw [decide_eq_true h]; rfl
     · rw [decide_eq_true h, Bool.or_true]) ss
   exact List.Perm.eq_of_pairwise (le := fun a b : List UInt8 => decide (a <= b) = true) (fun a b _ _ h1 h2 => List.le_antisymm (of_decide_eq_true h1) (of_decide_eq_true h2)) hp (hri.imp fun {a b} h => decide_eq_true (List.le_of_lt (hlt _ _ h))) ((List.mergeSort_perm _ _).trans hS)
 have hl2 : ss.length = ks.length := hS.length_eq
 rw [hsort, hl2] at hrow
 exact ⟨v, rfl, hrow, hB⟩
end Go.Proofs.Ytogomcfgfnlclaa
namespace Go.Proofs.Ytogomcfgfnlclaa
namespace Sy
open Go Go.RowKit
set_option maxRecDepth 100000
set_option linter.unusedSimpArgs false
set_option linter.unusedVariables false
def znu : zes := (36, fun raw ob => match raw with
 | [.mp n] => match zlo ob n, ob 600100 with
   | some l, some (.tab _ _ nn len get) => some ⟨[.mp 500001], doO l (.tab 68 2 nn len get), True, .mp 21, zb8 (doO l (.tab 68 2 nn len get)) [(21, .mapp 600100 2 l)]⟩
   | _, _ => none
 | _ => none)
theorem zpy : zc4 Try.prog znu := by
 intro raw ob T hT hp
 unfold znu at hT
 simp only at hT
 repeat' split at hT
 all_goals first | (cases hT; done) | skip
 cases hT
 rename_i l _ _ nn len get _ _
 intro D w μ vs hD hxs hdom hobs hinj hown hg hgb
 obtain ⟨v, rfl, r1⟩ := zfk hxs
 cases r1 with
 | mp _ b z m hμ =>
   obtain ⟨hq, es, clock, kf, hb, hn, hks, hri, hr⟩ := hobs 500001 _ _ (by rw [za7 (zat.2 (by unfold zbs; omega))]; rfl) hμ
   refine ze1 (fn := Try.f36) rfl rfl (by kernel_rfl) ((AnyW.maps_Clone Try.clone36 b es clock w hb).mono ?_)
   rintro e w' ⟨rfl, rfl⟩
   have B : Below w.heap.size w (w.alloc (.map es clock)) := (Below.refl _ w).alloc (Nat.le_refl _) _
   have h21 : gx (za2 (doO l (.tab 68 2 nn len get))) 21 = none := by rw [za7 (zat.2 (by unfold zbs; omega))]; rfl
   have hm : ∀ n x, μ n = some x -> (if n = 21 then some (some (w.heap.size, (0, 0))) else μ n) = some x := fun n x h => by
     rw [if_neg (by rintro rfl; rw [(hdom 21).2 h21] at h; cases h)]; exact h
   refine ⟨_, D, _, zt4 21 _ (0, 0) hD rfl hdom hobs hinj hown B (by show w.heap.size < (w.heap.push _).size; simp) (by unfold zbs; omega) rfl ⟨hq, es, clock, kf, heap_alloc_new _ _, hn, hks, hri, fun i x hx => ?_⟩ (.mp _ w.heap.size 0 0 (if_pos rfl))⟩
   exact (hr i x hx).mono (fun b hb => B.block b (hD b hb)) (fun _ h => h) (zmu hm)
def kyO (l : List (List UInt8 × Nat)) (tb : Ob) : List (Nat × Ob) := [(500010, .box 60 [.mp 500001]), (500001, .mapp 600100 2 l), (600100, tb)]
def zrs : zes := (34, fun raw ob => match raw with
 | [.mp n] => match zlo ob n, ob 600100 with
   | some l, some (.tab _ _ nn len get) => some ⟨[.mp 500001], doO l (.tab 68 2 nn len get), True, .fn 48 [] [.ref 1 0], zb8 [(1, .box 60 [.mp 500001])] (doO l (.tab 68 2 nn len get))⟩
   | _, _ => none
 | _ => none)
theorem yfq (l : List (List UInt8 × Nat)) (nn : Nat) (len : Nat -> Nat) (get : Nat -> Nat -> Nat -> AV) : zay Try.prog 34 [.mp 500001] (doO l (.tab 68 2 nn len get)) (.fn 48 [] [.ref 1 0]) (zb8 [(1, .box 60 [.mp 500001])] (doO l (.tab 68 2 nn len get))) := by
 refine zai (T := tt) (S := fun L => zb5 [] []) (lo := noA) (lb := noA) 8 (fn := Try.f34) (xs := fun L => [.mp 500001]) (rts := fun _ => [.fn 48 [] [.ref 1 0]]) (O := fun L => doO l (.tab 68 2 nn len get)) (O1 := fun L => zb8 [(1, .box 60 [.mp 500001])] (doO l (.tab 68 2 nn len get)))
   rfl rfl (by kernel_rfl) (by kernel_rfl) (by kernel_rfl) zaq (za5 trivial trivial) (by kernel_rfl) ?_
 intro L P' Q' hL hP hQ
 (cbv; try simp only [syT, true_and, and_true])
 repeat' (first | exact Nat.le_refl _ | exact trivial | exact rfl | refine And.intro ?_ ?_ | intro _)
theorem zrr : zc4 Try.prog zrs := by
 intro raw ob T hT hp
 unfold zrs at hT
 simp only at hT
 repeat' split at hT
 all_goals first | (cases hT; done) | (cases hT; exact yfq _ _ _ _)
def zgg (l : List (List UInt8 × Nat)) (i : Nat) : List UInt8 := (l.map Prod.fst).getD i []
def zpb (l : List (List UInt8 × Nat)) : Prop := l.length <= 1000000 /\ ∀ y ∈ l, y.1.length <= maxLen
def zmi (L : za9) : zes := (33, fun raw ob => match raw with
 | [.fn _ [] [.ref c _]] => match ob c, ob 600100 with
   | some (.box _ [.mp n]), some (.tab _ _ nn len get) => match zlo ob n with
     | some l => some ⟨[.fn 48 [] [.ref 500010 0]], kyO l (.tab 68 2 nn len get), L zpb l, .lst 1 (L mlen l) (fun i _ => .str (L2 L zgg l i)), kyO l (.tab 68 2 nn len get)⟩
     | _ => none
   | _, _ => none
 | _ => none)
theorem zoa : zc4 Try.prog (zmi std) := by
 intro raw ob T hT hp
 unfold zmi at hT
 simp only at hT
 repeat' split at hT
 all_goals first | (cases hT; done) | skip
 cases hT
 rename_i c _ _ n _ nn len get _ _ _ l _
 have hp : zpb l := hp
 intro D w μ vs hD hxs hdom hobs hinj hown hg hgb
 obtain ⟨v, rfl, r1⟩ := zfk hxs
 cases r1 with
 | fn _ _ _ us1 us2 e1 e2 h1 h2 =>
   obtain ⟨u, hu⟩ : ∃ u, us2.toList = [u] := List.length_eq_one_iff.1 (by simpa using e2.symm)
   have : us2 = #[u] := by rw [<- Array.toArray_toList (xs := us2), hu]
   subst this
   have : us1 = #[] := by
     apply Array.eq_empty_of_size_eq_zero
     simpa using e1.symm
   subst this
   have r2 : R w.heap D μ (.ref 500010 0) u := h2 0 _ u rfl rfl
   cases r2 with
   | ref _ _ b z m hμ =>
     obtain ⟨C, t, fr, hb, hz, hf, ho, hC⟩ := hobs 500010 _ _ (by rw [za7 (zat.2 (by unfold zbs; omega))]; rfl) hμ
     obtain ⟨v0, rfl, r3⟩ := zfk hC
     cases r3 with
     | mp _ bm zm mm hμm =>
       obtain ⟨hq, es, clock, kf, hbm, hn, hks, hri, hr⟩ := hobs 500001 _ _ (by rw [za7 (zat.2 (by unfold zbs; omega))]; rfl) hμm
       have hkk : ∀ x ∈ es.toList, ∃ s : ByteArray, x.key = .string s /\ s.data.toList ∈ l.map Prod.fst := fun x hx => by
         obtain ⟨i, hi⟩ := List.getElem?_of_mem hx
         obtain ⟨⟨s, k1, k2⟩, k3⟩ := hks.key i x (by simpa using hi)
         rw [k2] at k3
         exact ⟨s, k1, ze7.1 k3⟩
       have hkk2 : ∀ k ∈ l.map Prod.fst, ∃ x ∈ es.toList, ∃ s : ByteArray, x.key = .string s /\ s.data.toList = k := fun k hk => by
         obtain ⟨i, i1, i2⟩ := hks.all (.s k) (ze7.2 hk)
         obtain ⟨⟨s, k1, k2⟩, _⟩ := hks.key i es[i] (by simp [i1])
         rw [i2] at k2
         exact ⟨es[i], by simp, s, k1, (Ky.s.inj k2).symm⟩
       refine ze1 (fn := Try.f33) rfl rfl (by kernel_rfl) ((yi1 w b bm clock es (l.map Prod.fst) (hown _ _ _ hμ).1 (by rw [zec]; simp [zam hb]) hbm hks.st hkk hkk2 (List.pairwise_map.2 hri) (by rw [List.length_map]; exact hp.1) (fun k hk => by obtain ⟨y, hy, rfl⟩ := List.mem_map.1 hk; exact hp.2 y hy)).mono ?_)
       rintro e w' ⟨v, rfl, ⟨-, hrow⟩, B⟩
       have hml : mlen l = (l.map Prod.fst).length := by unfold mlen; simp
       rcases hrow with ⟨rfl, h0⟩ | ⟨g, cap, cur, rfl, hg0, hgb, hc1, hc2, hc3, hc4⟩
       · refine ⟨_, D, μ, zej hD hdom hobs hinj hown B (fun b h => h) (fun b h => .inl h) ?_⟩
         have h0 : mlen l = 0 := by rw [hml]; exact h0
         show R _ _ _ (.lst 1 (mlen l) _) _
         rw [h0]
         exact .lst0 _ _ _ _ (fun _ => rfl)
       · have hlt : g < w'.heap.size := (Array.getElem?_eq_some_iff.1 hgb).1
         rw [<- hml] at hc1 hc4 |-
         refine ⟨_, fun b => D b \/ b = g, μ, zej hD hdom hobs hinj hown B (fun b h => .inl h) (fun b h => h.elim .inl (fun e => .inr (by subst e; exact ⟨hg0, hlt⟩))) (.lst 1 (mlen l) _ g 0 cap (fun i _ => .string ⟨(zgg l i).toArray⟩) (.inr rfl) hc1 (fun i j hi hj => ?_) (fun i j hi hj => rfl) (fun i j hi hj => .str _ _ (by show (zgg l i).toArray.toList = zgg l i; simp)))⟩
         have : j = 0 := by omega
         subst this
         rw [zam hgb]
         have h1 := congrArg (fun l => l[i]?) hc4
         simp only [List.getElem?_take, Nat.mul_one, if_pos hi, List.getElem?_map] at h1
         have hi2 : i < (l.map Prod.fst).length := by rw [<- hml]; exact hi
         rw [show 0 + i * 1 + 0 = i by omega, <- Array.getElem?_toList, h1, <- List.getElem?_map, List.getElem?_eq_getElem hi2]
         unfold zgg
         rw [List.getD_eq_getElem?_getD, List.getElem?_eq_getElem hi2]; rfl
def zzt (nd : List Nd) (y : List UInt8 × Nat) : Int := ((zae nd y.2).now.length : Int)
def zik (x : Dk) : Int := wrap64 ((x.names.map (zzt x.nd)).sum)
theorem ye0 {l l' : List Int} (h : l.Perm l') : l.sum = l'.sum := by
 induction h with
 | nil => rfl
 | cons x _ ih => simp [ih]
 | swap x y l => simp; omega
 | trans _ _ h1 h2 => exact h1.trans h2
def zpd (x : MapEntry) : List UInt8 := match x.key with | .string s => s.data.toList | _ => []
theorem yam {l : List (List UInt8 × Nat)} {es : Array MapEntry} {clock : Nat} {kf : Nat -> Ky} (hks : zcs .s (yju l) es clock kf) (hri : zfg l) : (es.toList.map zpd).Perm (l.map Prod.fst) /\ ∀ i e, es[i]? = some e -> kf i = .s (zpd e) := by
 have hk : ∀ (i : Nat) e, es[i]? = some e -> ∃ s : ByteArray, e.key = .string s /\ kf i = .s s.data.toList /\ zbo l s.data.toList = true := fun i e he => by
   obtain ⟨⟨s, k1, k2⟩, k3⟩ := hks.key i e he
   rw [k2] at k3
   exact ⟨s, k1, k2, k3⟩
 refine ⟨(List.perm_ext_iff_of_nodup ?_ ?_).2 fun k => ⟨fun hm => ?_, fun hm => ?_⟩, fun i e he => ?_⟩
 · have h := hks.st.2.2
   rw [List.Nodup, List.pairwise_map] at h |-
   refine h.imp_of_mem fun {x y} hx hy hne he => ?_
   obtain ⟨i, hi⟩ := List.getElem?_of_mem hx
   obtain ⟨j, hj⟩ := List.getElem?_of_mem hy
   obtain ⟨s, h1, _⟩ := hk i x (by simpa using hi)
   obtain ⟨t, h2, _⟩ := hk j y (by simpa using hj)
   apply hne
   simp only [zpd, h1, h2] at he
   rw [h1, h2]
   congr 1
   exact ByteArray.ext (Array.ext' he)
 · rw [List.Nodup, List.pairwise_map]
   refine List.Pairwise.imp (fun {a b} h he => ?_) (show l.Pairwise (fun a b => slt a.1 b.1 = true) from hri)
   rw [he, zhv] at h; cases h
 · obtain ⟨x, hx, rfl⟩ := List.mem_map.1 hm
   obtain ⟨i, hi⟩ := List.getElem?_of_mem hx
   obtain ⟨s, h1, _, h3⟩ := hk i x (by simpa using hi)
   simp only [zpd, h1]
   exact ze7.1 h3
 · obtain ⟨i, i1, i2⟩ := hks.all (.s k) (ze7.2 hm)
   obtain ⟨s, h1, h2, _⟩ := hk i es[i] (by simp [i1])
   rw [i2] at h2
   exact List.mem_map.2 ⟨es[i], by simp, by simp only [zpd, h1]; exact (Ky.s.inj h2).symm⟩
 · obtain ⟨s, h1, h2, _⟩ := hk i e he
   rw [h2]
   simp only [zpd, h1]
theorem zt0 : ∀ {l : List (List UInt8 × Nat)}, zfg l -> ∀ y ∈ l, zd9 l y.1 = y.2
 | [], _, y, hy => by cases hy
 | x :: l, h, y, hy => by
   have h' := List.pairwise_cons.1 h
   unfold zd9
   rcases List.mem_cons.1 hy with rfl | hy
   · rw [decide_eq_true rfl]; rfl
   · have hne : ¬ x.1 = y.1 := fun e => by
       have := h'.1 y hy
       rw [e, zhv] at this; cases this
     rw [decide_eq_false hne, cond_false]
     exact zt0 h'.2 y hy
def zx4 (L : za9) : zes := (17, fun raw ob => match raw with
 | [.ref id 0] => match rdS L ob id with
   | some x => some ⟨[.ref 500000 0], dpO L x, True, .int .i64 (L zik x), dpO L x⟩
   | _ => none
 | _ => none)
theorem yhj (x : Dk) : zay Try.prog 17 [.ref 500000 0] (dpO std x) (.int .i64 (zik x)) (dpO std x) := by
 intro D w μ vs hD hxs hdom hobs hinj hown hg hgb
 obtain ⟨v, rfl, r1⟩ := zfk hxs
 cases r1 with
 | ref _ _ b z m hμ =>
   obtain ⟨C, t, fr, hb, hz, hf, ho, hC1, hC2⟩ := hobs 500000 _ _ (by rw [za7 (zat.2 (by unfold zbs; omega))]; rfl) hμ
   obtain ⟨v1, hv1⟩ : ∃ v1, C[1]? = some v1 := ⟨C[1]'(by rw [<- hC1]; simp), by simp⟩
   have r2 : R w.heap D μ (.mp 500001) v1 := hC2 1 _ v1 rfl hv1
   cases r2 with
   | mp _ bm zm mm hμm =>
     obtain ⟨hq, es, clock, kf, hbm, hn, hks, hri, hr⟩ := hobs 500001 _ _ (by rw [za7 (zat.2 (by unfold zbs; omega))]; rfl) hμm
     have hri : zfg x.names := hri
     obtain ⟨kp1, kp2⟩ := yam (l := x.names) hks hri
     have hv : ∀ e ∈ es.toList, ∃ (bn : Nat) (s : ByteArray), e.val = .pointer (some ⟨bn, 0, none⟩) /\ w.cell? ⟨bn, 0, none⟩ = some (.string s) /\ ((zae x.nd (zd9 x.names (zpd e))).now.length : Int) = s.size := fun e he => by
       obtain ⟨i, hi⟩ := List.getElem?_of_mem he
       have hi : es[i]? = some e := by simpa using hi
       have re := hr i e hi
       rw [kp2 i e hi] at re
       have re : R w.heap D (pm 600100 μ) (.aer 600100 (zd9 x.names (zpd e)) 2 0 0) e.val := re
       generalize e.val = ev at re
       cases re with
       | aer _ _ _ _ _ bn zn mn hμn hin =>
         have hμn := zzb hμn
         have hgx : gx (za2 (dpO std x)) (mid 600100 (zd9 x.names (zpd e))) = zdq (za2 (dpO std x) 600100) (zd9 x.names (zpd e)) := ygz (by unfold zbs; omega) _
         have hmem : zdq (za2 (dpO std x) 600100) (zd9 x.names (zpd e)) = if zd9 x.names (zpd e) < zcb x.nd then some (.row 68 2 1 (fun _ => ndC std (zae x.nd (zd9 x.names (zpd e))))) else none := rfl
         have hlt : zd9 x.names (zpd e) < zcb x.nd := by
           rcases Nat.lt_or_ge (zd9 x.names (zpd e)) (zcb x.nd) with h | h
           · exact h
           · rw [hmem, if_neg (by omega)] at hgx
             rw [(hdom _).2 hgx] at hμn; cases hμn
         rw [hmem, if_pos hlt] at hgx
         obtain ⟨_, C', t', fr', hb', hz', hf', ho', hC'⟩ := hobs _ _ _ hgx hμn
         obtain ⟨v2, hv2, _, r3⟩ := hC' 0 0 Nat.one_pos (by omega)
         obtain ⟨s2, rfl, hs2⟩ := r3.inv_str
         refine ⟨bn, s2, by simp, ?_, ?_⟩
         · rw [zec, zam hb']; exact hv2
         · have := congrArg List.length hs2
           have h3 : s2.data.toList.length = s2.size := by simp
           rw [h3] at this
           rw [this]; rfl
     refine ze1 (fn := Try.f17) rfl rfl (by kernel_rfl) ((yp4 w b bm clock es (fun e => ((zae x.nd (zd9 x.names (zpd e))).now.length : Int)) (by rw [zec, zam hb]; exact hv1) hbm hks.st hv).mono ?_)
     rintro e w' ⟨rfl, B⟩
     have hs : (es.toList.map fun e => ((zae x.nd (zd9 x.names (zpd e))).now.length : Int)).sum = (x.names.map (zzt x.nd)).sum := by
       have h1 : _ = _ := ye0 (kp1.map fun k => ((zae x.nd (zd9 x.names k)).now.length : Int))
       rw [List.map_map, List.map_map] at h1
       have h2 : (x.names.map ((fun k => ((zae x.nd (zd9 x.names k)).now.length : Int)) ∘ Prod.fst)) = x.names.map (zzt x.nd) := List.map_congr_left fun y hy => by
         show ((zae x.nd (zd9 x.names y.1)).now.length : Int) = _
         rw [zt0 hri y hy]; rfl
       rw [h2] at h1
       exact h1
     rw [hs]
     exact ⟨_, D, μ, zej hD hdom hobs hinj hown B (fun b h => h) (fun b h => .inl h) (.int _ _)⟩
theorem zu7 : zc4 Try.prog (zx4 std) := by
 intro raw ob T hT hp
 unfold zx4 at hT
 simp only at hT
 repeat' split at hT
 all_goals first | (cases hT; done) | (cases hT; exact yhj _)
def yok (room : Int) : Dk := ⟨room, [], [], [], [], 0, -1, false⟩
def newO (L : za9) (x : Dk) : List (Nat × Ob) := dpX L 10 11 12 13 x
def tab0 : List (Nat × Ob) := [(600100, .tab 68 2 0 (fun _ => 0) (fun _ _ _ => .dead))]
def yj2 (L : za9) : zes := (8, fun raw ob => match raw with
 | [.int .i64 n] => match ob 600100 with
   | some (.tab _ _ nn len get) => some ⟨[.int .i64 n], [(600100, .tab 68 2 nn len get)], L (fun n : Int => 0 <= n /\ n <= 65536) n /\ L (fun n : Nat => n = 0) nn, .tup [.ref 10 0, .int .i64 0], newO L (L yok n)⟩
   | _ => none
 | _ => none)
theorem yn2 (n : Int) (hn : 0 <= n /\ n <= 65536) (len : Nat -> Nat) (get : Nat -> Nat -> Nat -> AV) : zay Try.prog 8 [.int .i64 n] [(600100, .tab 68 2 0 len get)] (.tup [.ref 10 0, .int .i64 0]) (newO std (yok n)) := by
 refine zai (T := tt) (S := fun L => zb5 [] []) (lo := noA) (lb := noA) 8 (fn := Try.f8) (xs := fun L => [.int .i64 n]) (rts := fun L => [.ref 10 0, .int .i64 0]) (O := fun L => [(600100, .tab 68 2 0 len get)]) (O1 := fun L => newO L (L yok n))
   rfl rfl (by kernel_rfl) (by kernel_rfl) (by kernel_rfl) zaq (za5 trivial trivial) (by kernel_rfl) ?_
 intro L P' Q' hL hP hQ
 (cbv; try simp only [syT, true_and, and_true])
 subst hL
 simp only [std]
 refine ⟨fun h => ?_, fun _ => ⟨fun h => ?_, fun _ => ?_⟩⟩
 · have h : n < 0 := of_decide_eq_true h
   omega
 · have h : 65536 < n := of_decide_eq_true h
   omega
 · refine ⟨Nat.zero_le _, ⟨rfl, fun k hk => absurd hk (Nat.not_lt_zero k), fun k i j hk => absurd hk (Nat.not_lt_zero k)⟩, ?_⟩
   repeat' (first | exact Nat.le_refl _ | exact trivial | exact rfl | refine And.intro ?_ ?_ | intro _)
theorem zzu : zc4 Try.prog (yj2 std) := by
 intro raw ob T hT hp
 unfold yj2 at hT
 simp only at hT
 repeat' split at hT
 all_goals first | (cases hT; done) | skip
 cases hT
 obtain ⟨h1, rfl⟩ : (0 <= _ /\ _ <= 65536) /\ _ = 0 := hp
 exact yn2 _ h1 _ _
def zie (x : Dk) : Nat := if x.down = true then 0 else mlen x.names
def zr8 (L : za9) : zes := (12, fun raw ob => match raw with
 | [.ref id 0] => match rdS L ob id with
   | some x => some ⟨[.ref 500000 0], dpO L x, L zpb (L Dk.names x), .lst 1 (L zie x) (fun i _ => .str (L2 L zgg (L Dk.names x) i)), dpO L x⟩
   | _ => none
 | _ => none)
theorem yeb (x : Dk) (hk : zpb x.names) : zay Try.prog 12 [.ref 500000 0] (dpO std x) (.lst 1 (zie x) (fun i _ => .str (zgg x.names i))) (dpO std x) := by
 refine zai (T := tt) (S := fun L => zb5 [] [yl7 L, zrs, zmi L]) (lo := noA) (lb := noA) 8 (fn := Try.f12) (xs := fun L => [.ref 500000 0]) (rts := fun L => [.lst 1 (L zie x) (fun i _ => .str (L2 L zgg (L Dk.names x) i))]) (O := fun L => dpO L x) (O1 := fun L => dpO L x)
   rfl rfl (by kernel_rfl) (by kernel_rfl) (by kernel_rfl) zaq (za5 trivial ⟨ziz, zrr, zoa, trivial⟩) (by kernel_rfl) ?_
 intro L P' Q' hL hP hQ
 have hE : ∀ x : Dk, L zqf ⟨L Dk.room x, L Dk.names x, L Dk.sure x, L zjt (L Dk.pend x), fun q => tnC L (L (L zee (L Dk.pend x)) q), L zcb (L Dk.nd x), fun k _ => ndC L (L (L zae (L Dk.nd x)) k), L Dk.steps x, L Dk.fuse x, L Dk.down x⟩ = x := by subst hL; exact zjq
 (cbv; try simp only [syT, true_and, and_true])
 simp only [hE, true_and]
 subst hL
 simp only [std]
 refine ⟨Nat.le_refl _, ⟨fun _ _ => trivial, fun _ _ _ _ _ _ => trivial⟩, fun _ _ _ _ => trivial, fun h => ?_, fun h => ?_⟩
 · have hd : x.down = true := by
     unfold onZ at h
     split at h
     · assumption
     · cases h
   have hx : zie x = 0 := if_pos hd
   rw [hx]
   repeat' (first | exact Nat.le_refl _ | exact trivial | exact rfl | refine And.intro ?_ ?_ | intro _)
 · have hd : ¬ x.down = true := by
     unfold onZ at h
     split at h
     · cases h
     · assumption
   have hx : zie x = mlen x.names := if_neg hd
   rw [hx]
   refine ⟨Nat.le_refl _, ⟨fun _ _ => trivial, fun _ _ _ _ _ _ => trivial⟩, Nat.le_refl _, ⟨fun _ _ => trivial, fun _ _ _ _ _ _ => trivial⟩, hk, ?_⟩
   repeat' (first | exact Nat.le_refl _ | exact trivial | exact rfl | refine And.intro ?_ ?_ | intro _)
theorem zr7 : zc4 Try.prog (zr8 std) := by
 intro raw ob T hT hp
 unfold zr8 at hT
 simp only at hT
 repeat' split at hT
 all_goals first | (cases hT; done) | (cases hT; exact yeb _ hp)
def zge (x : Dk) : Dk := if x.down = true then x else if zaw x = 0 then { zan x with sure := x.names, pend := [] } else zan x
def zmp (x : Dk) : Int := if x.down = true then 15 else zaw x
def zxr (L : za9) : zes := (15, fun raw ob => match raw with
 | [.ref id 0] => match rdS L ob id with
   | some x => some ⟨[.ref 500000 0], dpO L x, True, .int .i64 (L zmp x), dpX L 500000 500001 12 13 (L zge x)⟩
   | _ => none
 | _ => none)
theorem yib (x : Dk) : zay Try.prog 15 [.ref 500000 0] (dpO std x) (.int .i64 (zmp x)) (dpX std 500000 500001 12 13 (zge x)) := by
 refine zai (T := tt) (S := fun L => zb5 [] [yl7 L, zle L, znu]) (lo := noA) (lb := noA) 8 (fn := Try.f15) (xs := fun L => [.ref 500000 0]) (rts := fun L => [.int .i64 (L zmp x)]) (O := fun L => dpO L x) (O1 := fun L => dpX L 500000 500001 12 13 (L zge x))
   rfl rfl (by kernel_rfl) (by kernel_rfl) (by kernel_rfl) zaq (za5 trivial ⟨ziz, zfy, zpy, trivial⟩) (by kernel_rfl) ?_
 intro L P' Q' hL hP hQ
 have hE : ∀ x : Dk, L zqf ⟨L Dk.room x, L Dk.names x, L Dk.sure x, L zjt (L Dk.pend x), fun q => tnC L (L (L zee (L Dk.pend x)) q), L zcb (L Dk.nd x), fun k _ => ndC L (L (L zae (L Dk.nd x)) k), L Dk.steps x, L Dk.fuse x, L Dk.down x⟩ = x := by subst hL; exact zjq
 (cbv; try simp only [syT, true_and, and_true])
 simp only [hE, true_and]
 subst hL
 simp only [std]
 obtain ⟨e1, e2, e3, e4, e5⟩ := zc6 x
 refine ⟨Nat.le_refl _, ⟨fun _ _ => trivial, fun _ _ _ _ _ _ => trivial⟩, fun _ _ _ _ => trivial, fun h => ⟨?_, ⟨fun _ _ => trivial, fun _ _ _ _ _ _ => trivial⟩, fun _ _ _ _ => trivial, fun h2 => ?_, fun h2 => ?_⟩, fun h => ?_⟩
 · rw [e1]; exact Nat.le_refl _
 · have hd : ¬ x.down = true := by
     unfold onZ at h
     split at h
     · cases h
     · assumption
   have h2 : zaw x = 0 := of_decide_eq_true h2
   have hx : zge x = { zan x with sure := x.names, pend := [] } := by
     unfold zge; rw [if_neg hd, if_pos h2]
   have hz : zmp x = zaw x := if_neg hd
   rw [hx, hz]
   simp only [e1, e2]
   repeat' (first | exact Nat.le_refl _ | exact trivial | exact rfl | refine And.intro ?_ ?_ | intro _)
 · have hd : ¬ x.down = true := by
     unfold onZ at h
     split at h
     · cases h
     · assumption
   have h2 : ¬ zaw x = 0 := of_decide_eq_false h2
   have hx : zge x = zan x := by
     unfold zge; rw [if_neg hd, if_neg h2]
   have hz : zmp x = zaw x := if_neg hd
   rw [hx, hz]
   simp only [e1]
   repeat' (first | exact Nat.le_refl _ | exact trivial | exact rfl | refine And.intro ?_ ?_ | intro _)
 · have hd : x.down = true := by
     unfold onZ at h
     split at h
     · assumption
     · cases h
   have hx : zge x = x := if_pos hd
   have hz : zmp x = 15 := if_pos hd
   have ho : onZ x = 15 := if_pos hd
   rw [hx, hz, ho]
   repeat' (first | exact Nat.le_refl _ | exact trivial | exact rfl | refine And.intro ?_ ?_ | intro _)
theorem zui : zc4 Try.prog (zxr std) := by
 intro raw ob T hT hp
 unfold zxr at hT
 simp only at hT
 repeat' split at hT
 all_goals first | (cases hT; done) | (cases hT; exact yib _)
theorem ye4 {a b : List UInt8} (h : seq a b = true) : a = b := by simpa [seq] using h
theorem zsw {a b : List UInt8} (h : seq a b = false) : a ≠ b := by
 intro e
 subst e
 have e : seq a a = true := by simp [seq]
 rw [e] at h
 cases h
def zlk (x : Dk) (fr to_ : List UInt8) : Dk := if thE x fr = 0 /\ zgf to_ = true /\ fr ≠ to_ then (if zaw x = 0 then zht (zan x) ⟨2, fr, to_, false, 0⟩ else zan x) else x
def zqy (x : Dk) (fr to_ : List UInt8) : Int := if thE x fr = 0 then (if zgf to_ = true then (if fr = to_ then 0 else zaw x) else 2) else thE x fr
def zsp (x : Dk) : Prop := x.pend.length <= 1000000
def yis (L : za9) : zes := (19, fun raw ob => match raw with
 | [.ref id 0, .str fr, .str to_] => match rdS L ob id with
   | some x => some ⟨[.ref 500000 0, .str fr, .str to_], dpO L x, L zsp x /\ L zbk to_, .int .i64 (L3 L zqy x fr to_), dpX L 500000 500001 500002 13 (L3 L zlk x fr to_)⟩
   | _ => none
 | _ => none)
theorem yme (x : Dk) (fr to_ : List UInt8) (hp : zsp x) (hs : zbk to_) : zay Try.prog 19 [.ref 500000 0, .str fr, .str to_] (dpO std x) (.int .i64 (zqy x fr to_)) (dpX std 500000 500001 500002 13 (zlk x fr to_)) := by
 refine zai (T := tt) (S := fun L => zb5 [zln L] [zje L, zle L, zir L]) (lo := noA) (lb := noA) 8 (fn := Try.f19) (xs := fun L => [.ref 500000 0, .str fr, .str to_]) (rts := fun L => [.int .i64 (L3 L zqy x fr to_)]) (O := fun L => dpO L x) (O1 := fun L => dpX L 500000 500001 500002 13 (L3 L zlk x fr to_))
   rfl rfl (by kernel_rfl) (by kernel_rfl) (by kernel_rfl) zaq (za5 ⟨zh7, trivial⟩ ⟨zgk, zfy, zia, trivial⟩) (by kernel_rfl) ?_
 intro L P' Q' hL hP hQ
 have hE : ∀ x : Dk, L zqf ⟨L Dk.room x, L Dk.names x, L Dk.sure x, L zjt (L Dk.pend x), fun q => tnC L (L (L zee (L Dk.pend x)) q), L zcb (L Dk.nd x), fun k _ => ndC L (L (L zae (L Dk.nd x)) k), L Dk.steps x, L Dk.fuse x, L Dk.down x⟩ = x := by subst hL; exact zjq
 (cbv; try simp only [syT, true_and, and_true])
 simp only [hE, true_and]
 subst hL
 simp only [std]
 obtain ⟨e1, e2, e3, e4, e5⟩ := zc6 x
 refine ⟨Nat.le_refl _, ⟨fun _ _ => trivial, fun _ _ _ _ _ _ => trivial⟩, fun _ _ _ _ => trivial, fun h => ⟨hs, fun hn => ⟨fun _ => ?_, fun h2 => absurd h2 (by decide)⟩, fun hn => ⟨fun h3 => absurd (of_decide_eq_true h : thE x fr = 0) (by simpa [ine] using h3), fun _ => ⟨fun hq => ?_, fun hq => ⟨?_, ⟨fun _ _ => trivial, fun _ _ _ _ _ _ => trivial⟩, fun _ _ _ _ => trivial, fun h2 => ⟨?_, ⟨fun _ _ => trivial, fun _ _ _ _ _ _ => trivial⟩, fun _ _ _ _ => trivial, ⟨fun e => absurd e (by decide), ?_⟩, ?_⟩, fun h2 => ?_⟩⟩⟩⟩, fun h => ⟨fun _ => ?_, fun h3 => absurd (show thE x fr = 0 by simpa [ine] using h3) (of_decide_eq_false h : ¬ thE x fr = 0)⟩⟩
 · have h : thE x fr = 0 := of_decide_eq_true h
   have hn : ¬ zgf to_ = true := by
     intro e
     rw [e] at hn
     cases hn
   have hx : zlk x fr to_ = x := if_neg (fun e => hn e.2.1)
   have hz : zqy x fr to_ = 2 := by
     unfold zqy; rw [if_pos h, if_neg hn]
   rw [hx, hz]
   repeat' (first | exact Nat.le_refl _ | exact trivial | exact rfl | refine And.intro ?_ ?_ | intro _)
 · have h : thE x fr = 0 := of_decide_eq_true h
   have hn : zgf to_ = true := by
     cases e : zgf to_
     · rw [e] at hn; cases hn
     · rfl
   have hq : fr = to_ := ye4 hq
   have hx : zlk x fr to_ = x := if_neg (fun e => e.2.2 hq)
   have hz : zqy x fr to_ = 0 := by
     unfold zqy; rw [if_pos h, if_pos hn, if_pos hq]
   rw [hx, hz, h]
   repeat' (first | exact Nat.le_refl _ | exact trivial | exact rfl | refine And.intro ?_ ?_ | intro _)
 · rw [e1]; exact Nat.le_refl _
 · exact Nat.le_refl _
 · show (zan x).pend.length <= 1000000
   rw [e4]; exact hp
 · have h : thE x fr = 0 := of_decide_eq_true h
   have hn : zgf to_ = true := by
     cases e : zgf to_
     · rw [e] at hn; cases hn
     · rfl
   have hq : fr ≠ to_ := zsw hq
   have h2 : zaw x = 0 := of_decide_eq_true h2
   have hx : zlk x fr to_ = zht (zan x) ⟨2, fr, to_, false, 0⟩ := by
     unfold zlk; rw [if_pos ⟨h, hn, hq⟩, if_pos h2]
   have hz : zqy x fr to_ = zaw x := by
     unfold zqy; rw [if_pos h, if_pos hn, if_neg hq]
   have hl : ∀ t, (zht (zan x) t).nd = x.nd := fun t => e1
   rw [hx, hz]
   simp only [hl, e1]
   repeat' (first | exact Nat.le_refl _ | exact trivial | exact rfl | refine And.intro ?_ ?_ | intro _)
 · have h : thE x fr = 0 := of_decide_eq_true h
   have hn : zgf to_ = true := by
     cases e : zgf to_
     · rw [e] at hn; cases hn
     · rfl
   have hq : fr ≠ to_ := zsw hq
   have h2 : ¬ zaw x = 0 := of_decide_eq_false h2
   have hx : zlk x fr to_ = zan x := by
     unfold zlk; rw [if_pos ⟨h, hn, hq⟩, if_neg h2]
   have hz : zqy x fr to_ = zaw x := by
     unfold zqy; rw [if_pos h, if_pos hn, if_neg hq]
   rw [hx, hz]
   simp only [e1]
   repeat' (first | exact Nat.le_refl _ | exact trivial | exact rfl | refine And.intro ?_ ?_ | intro _)
 · have h : ¬ thE x fr = 0 := of_decide_eq_false h
   have hx : zlk x fr to_ = x := if_neg (fun e => h e.1)
   have hz : zqy x fr to_ = thE x fr := if_neg h
   rw [hx, hz]
   repeat' (first | exact Nat.le_refl _ | exact trivial | exact rfl | refine And.intro ?_ ?_ | intro _)
theorem zyx : zc4 Try.prog (yis std) := by
 intro raw ob T hT hp
 unfold yis at hT
 simp only at hT
 repeat' split at hT
 all_goals first | (cases hT; done) | (cases hT; exact yme _ _ _ hp.1 hp.2)
def yo0 (a : List UInt8) : Prop := a.length <= 100000
def zqp (L : za9) : zet := (45, fun xs => match xs with | [.str a] => some (L yo0 a, .str a) | _ => none)
def zxt (L : za9) : zet := (32, fun xs => match xs with | [.str a] => some (L yo0 a, .str a) | _ => none)
theorem zuj : zgh Try.prog (zqp std) := by
 intro xs p r h hp
 dsimp only [zqp] at h |-
 split at h <;> cases h
 try simp only [L2, L3, std] at hp |-
 rename_i a
 have h1 : a.length <= 100000 := hp
 exact zd6 (fn := Try.f45) rfl rfl (by kernel_rfl) (yg0 (zgy _)) (fun h D => zud h D zap _) (fun w => Try.stringslite_Clone ⟨a.toArray⟩ w (by show a.toArray.size <= _; rw [List.size_toArray]; omega))
theorem zxu : zgh Try.prog (zxt std) := by
 intro xs p r h hp
 dsimp only [zxt] at h |-
 split at h <;> cases h
 try simp only [L2, L3, std] at hp |-
 rename_i a
 have h1 : yo0 a := hp
 refine zah (T := tt) (S := fun L => zdk [zqp L]) (lo := noA) (lb := noA) 5 (fn := Try.f32) rfl rfl (by kernel_rfl) (by kernel_rfl) rfl zaq (zas ⟨zuj, trivial⟩) (by kernel_rfl) ?_
 (intro L P1 Q1 hL hP hQ; cbv; subst hL; simp only [L2, L3, std, syT]; subst hQ)
 (simp only [syS, reduceCtorEq, Int.reduceToNat, Int.reduceAdd, Int.reduceSub])
 exact h1
def oldT (x : Dk) (s : List UInt8) : List UInt8 := (zae x.nd (zd9 x.names s)).now
def zji (x : Dk) (s t : List UInt8) : Int := if zbo x.names s = true then zqb .i64 (wadd .i64 (slen t) (zik x)) (slen (oldT x s)) else wadd .i64 (slen t) (zik x)
def zkx (x : Dk) (s t : List UInt8) : Int :=
 if x.down = true then 15 else if zgf s = true then (if zbo x.names s = false /\ 16 <= mlen x.names then 17 else if x.room < zji x s t then 16 else 0) else 2
def zlh (x : Dk) (k : Nat) (t : List UInt8) : Dk := { x with nd := x.nd.set k ⟨t, (zae x.nd k).sure⟩ }
def zl3 (x : Dk) : Dk := { x with nd := x.nd ++ [ndD] }
def zfe (x : Dk) (s t : List UInt8) : Dk :=
 if zkx x s t = 0 then (if zaw x = 0 then (if zbo x.names s = true then zlh (zan x) (zd9 x.names s) t else zlh (zht (zl3 (zan x)) ⟨1, [], s, true, x.nd.length⟩) x.nd.length t) else zan x) else x
def zs3 (x : Dk) (s t : List UInt8) : Int := if zkx x s t = 0 then zaw x else zkx x s t
theorem zoy (l : List Nd) (q : Nat) (v : Nd) : zae (l ++ [v]) q = if q = l.length then v else zae l q := by
 unfold zae
 rw [List.getD_eq_getElem?_getD, List.getD_eq_getElem?_getD]
 by_cases h : q < l.length
 · rw [List.getElem?_append_left h, if_neg (by omega)]
 · rw [List.getElem?_append_right (by omega)]
   by_cases h2 : q = l.length
   · subst h2; simp
   · rw [if_neg h2, List.getElem?_eq_none (by simp; omega), List.getElem?_eq_none (by omega)]
theorem zmy (l : List Nd) (q j : Nat) (hj : j < 2) : zcd std (za4 q (zcb l)) (zbj .dead (AV.agg [AV.str [], AV.str []]).cells j) (ndC std (zae l q) j) = ndC std (zae (l ++ [ndD]) q) j := by
 rw [zoy]
 by_cases h : q = l.length
 · subst h
   rw [if_pos rfl, show za4 l.length (zcb l) = true from za3 _]
   match j, hj with
   | 0, _ => rfl
   | 1, _ => rfl
 · rw [if_neg h, show za4 q (zcb l) = false from za8 h]
   match j, hj with
   | 0, _ => rfl
   | 1, _ => rfl
theorem ymi (x : Dk) : zqf ⟨x.room, x.names, x.sure, zjt x.pend, fun q => tnC std (zee x.pend q), Nat.add (zcb x.nd) 1, fun k _ j => zcd std (za4 k (zcb x.nd)) (zbj .dead (AV.agg [AV.str [], AV.str []]).cells j) (ndC std (zae x.nd k) j), x.steps, x.fuse, x.down⟩ = zl3 x := by
 refine Eq.trans ?_ (zjq (zl3 x))
 have e : Nat.add (zcb x.nd) 1 = zcb (zl3 x).nd := by
   show x.nd.length + 1 = (x.nd ++ [ndD]).length
   simp
 rw [e]
 unfold zqf
 congr 1
 refine List.map_congr_left fun k hk => ?_
 show (⟨_, _⟩ : Nd) = ⟨_, _⟩
 congr 1
 · exact congrArg AV.toS (zmy x.nd k 0 (by decide))
 · exact congrArg AV.toS (zmy x.nd k 1 (by decide))
theorem ymw {x : Dk} (h : ine (onZ x) 0 = true) : x.down = true := by
 unfold onZ at h
 split at h
 · assumption
 · cases h
theorem zov {x : Dk} (h : ine (onZ x) 0 = false) : x.down = false := by
 unfold onZ at h
 split at h
 · cases h
 · rename_i h1
   simpa using h1
theorem zzq {b : Bool} (h : (!b) = true) : b = false := by simpa using h
theorem zl1 {b : Bool} (h : (!b) = false) : b = true := by simpa using h
def yhe (L : za9) : zes := (10, fun raw ob => match raw with
 | [.ref id 0, .str s, .str t] => match rdS L ob id with
   | some x => some ⟨[.ref 500000 0, .str s, .str t], dpO L x, L zsp x /\ L zbk s /\ L yo0 t, .int .i64 (L3 L zs3 x s t), dpX L 500000 500001 500002 13 (L3 L zfe x s t)⟩
   | _ => none
 | _ => none)
theorem ylm (x : Dk) (s t : List UInt8) (hp : zsp x) (hs : zbk s) (ht : yo0 t) : zay Try.prog 10 [.ref 500000 0, .str s, .str t] (dpO std x) (.int .i64 (zs3 x s t)) (dpX std 500000 500001 500002 13 (zfe x s t)) := by
 refine zai (T := tt) (S := fun L => zb5 [zln L, zxt L] [yl7 L, zle L, zir L, zx4 L]) (lo := noA) (lb := noA) 8 (fn := Try.f10) (xs := fun L => [.ref 500000 0, .str s, .str t]) (rts := fun L => [.int .i64 (L3 L zs3 x s t)]) (O := fun L => dpO L x) (O1 := fun L => dpX L 500000 500001 500002 13 (L3 L zfe x s t))
   rfl rfl (by kernel_rfl) (by kernel_rfl) (by kernel_rfl) zaq (za5 ⟨zh7, zxu, trivial⟩ ⟨ziz, zfy, zia, zu7, trivial⟩) (by kernel_rfl) ?_
 intro L P' Q' hL hP hQ
 have hE : ∀ x : Dk, L zqf ⟨L Dk.room x, L Dk.names x, L Dk.sure x, L zjt (L Dk.pend x), fun q => tnC L (L (L zee (L Dk.pend x)) q), L zcb (L Dk.nd x), fun k _ => ndC L (L (L zae (L Dk.nd x)) k), L Dk.steps x, L Dk.fuse x, L Dk.down x⟩ = x := by subst hL; exact zjq
 (cbv; try simp only [syT, true_and, and_true])
 have hN : ∀ x : Dk, L zqf ⟨L Dk.room x, L Dk.names x, L Dk.sure x, L zjt (L Dk.pend x), fun q => tnC L (L (L zee (L Dk.pend x)) q), L (L Nat.add (L zcb (L Dk.nd x))) 1, fun k _ j => zcd L (L2 L za4 k (L zcb (L Dk.nd x))) (zbj .dead (AV.agg [AV.str [], AV.str []]).cells j) (ndC L (L (L zae (L Dk.nd x)) k) j), L Dk.steps x, L Dk.fuse x, L Dk.down x⟩ = L zl3 x := by subst hL; exact ymi
 simp only [hE, hN, true_and]
 subst hL
 simp only [std]
 obtain ⟨e1, e2, e3, e4, e5⟩ := zc6 x
 refine ⟨Nat.le_refl _, ⟨fun _ _ => trivial, fun _ _ _ _ _ _ => trivial⟩, fun _ _ _ _ => trivial, fun h => ?_, fun h => ⟨hs, fun h2 => ?_, fun h2 => ⟨fun h3 => ⟨fun h4 => ?_, fun h4 => ⟨Nat.le_refl _, ⟨fun _ _ => trivial, fun _ _ _ _ _ _ => trivial⟩, fun _ _ _ _ => trivial, fun h5 => ?_, fun h5 => ?_⟩⟩, fun h3 => ⟨Nat.le_refl _, ⟨fun _ _ => trivial, fun _ _ _ _ _ _ => trivial⟩, fun _ _ _ _ => trivial, fun h5 => ?_, fun h5 => ?_⟩⟩⟩⟩
 · have hz0 : zkx x s t = 15 := if_pos (ymw h)
   have hz1 : onZ x = 15 := if_pos (ymw h)
   have hx : zfe x s t = x := if_neg (by rw [hz0]; decide)
   have hz : zs3 x s t = 15 := (if_neg (by rw [hz0]; decide)).trans hz0
   rw [hx, hz]
   rw [hz1]
   repeat' (first | exact Nat.le_refl _ | exact trivial | exact rfl | refine And.intro ?_ ?_ | intro _)
 · have hz0 : zkx x s t = 2 := by
     unfold zkx; rw [if_neg (by rw [zov h]; decide), if_neg (by rw [zzq h2]; decide)]
   have hx : zfe x s t = x := if_neg (by rw [hz0]; decide)
   have hz : zs3 x s t = 2 := (if_neg (by rw [hz0]; decide)).trans hz0
   rw [hx, hz]
   repeat' (first | exact Nat.le_refl _ | exact trivial | exact rfl | refine And.intro ?_ ?_ | intro _)
 · have h4 : 16 <= mlen x.names := by
     have h4 : (16 : Int) <= (mlen x.names : Int) := of_decide_eq_true h4
     omega
   have hz0 : zkx x s t = 17 := by
     unfold zkx; rw [if_neg (by rw [zov h]; decide), if_pos (zl1 h2), if_pos ⟨zzq h3, h4⟩]
   have hx : zfe x s t = x := if_neg (by rw [hz0]; decide)
   have hz : zs3 x s t = 17 := (if_neg (by rw [hz0]; decide)).trans hz0
   rw [hx, hz]
   repeat' (first | exact Nat.le_refl _ | exact trivial | exact rfl | refine And.intro ?_ ?_ | intro _)
 · exact absurd h5 (by rw [zzq h3]; decide)
 · have h4 : ¬ 16 <= mlen x.names := by
     have h4 : ¬ (16 : Int) <= (mlen x.names : Int) := of_decide_eq_false h4
     omega
   have hw : zji x s t = wadd .i64 (slen t) (zik x) := if_neg (by rw [h5]; decide)
   refine ⟨fun h6 => ?_, fun h6 => ⟨?_, ⟨fun _ _ => trivial, fun _ _ _ _ _ _ => trivial⟩, fun _ _ _ _ => trivial, fun h7 => ?_, fun h7 => ⟨fun h8 => ?_, fun h8 => absurd (zl1 h8) (by rw [h5]; decide)⟩⟩⟩
   · have h6 : x.room < zji x s t := by
       rw [hw]; exact of_decide_eq_true h6
     have hz0 : zkx x s t = 16 := by
       unfold zkx; rw [if_neg (by rw [zov h]; decide), if_pos (zl1 h2), if_neg (fun e => h4 e.2), if_pos h6]
     have hx : zfe x s t = x := if_neg (by rw [hz0]; decide)
     have hz : zs3 x s t = 16 := (if_neg (by rw [hz0]; decide)).trans hz0
     rw [hx, hz]
     repeat' (first | exact Nat.le_refl _ | exact trivial | exact rfl | refine And.intro ?_ ?_ | intro _)
   · rw [e1]; exact Nat.le_refl _
   · have h6 : ¬ x.room < zji x s t := by
       rw [hw]; exact of_decide_eq_false h6
     have hz0 : zkx x s t = 0 := by
       unfold zkx; rw [if_neg (by rw [zov h]; decide), if_pos (zl1 h2), if_neg (fun e => h4 e.2), if_neg h6]
     have h7 : ¬ zaw x = 0 := by simpa [ine] using h7
     have hx : zfe x s t = zan x := by
       unfold zfe; rw [if_pos hz0, if_neg h7]
     have hz : zs3 x s t = zaw x := if_pos hz0
     rw [hx, hz]
     simp only [e1]
     repeat' (first | exact Nat.le_refl _ | exact trivial | exact rfl | refine And.intro ?_ ?_ | intro _)
   · have h6 : ¬ x.room < zji x s t := by
       rw [hw]; exact of_decide_eq_false h6
     have hz0 : zkx x s t = 0 := by
       unfold zkx; rw [if_neg (by rw [zov h]; decide), if_pos (zl1 h2), if_neg (fun e => h4 e.2), if_neg h6]
     have h7 : zaw x = 0 := by simpa [ine] using h7
     have hx : zfe x s t = zlh (zht (zl3 (zan x)) ⟨1, [], s, true, x.nd.length⟩) x.nd.length t := by
       unfold zfe; rw [if_pos hz0, if_pos h7, if_neg (by rw [h5]; decide)]
     have hz : zs3 x s t = zaw x := if_pos hz0
     rw [hx, hz]
     have hk : zcb (zan x).nd = x.nd.length := congrArg List.length e1
     have hk2 : zcb x.nd = x.nd.length := rfl
     have hk3 : zcb (zl3 (zan x)).nd = x.nd.length + 1 := by
       show ((zan x).nd ++ [ndD]).length = _
       rw [e1]; simp
     have hk4 : ∀ u, zcb (zht (zl3 (zan x)) u).nd = x.nd.length + 1 := fun u => hk3
     have hk5 : ∀ u, zcb (zlh (zht (zl3 (zan x)) u) x.nd.length t).nd = x.nd.length + 1 := fun u => List.length_set.trans hk3
     simp only [hk, hk2, hk3, hk4, hk5]
     refine ⟨Nat.le_refl _, ⟨trivial, fun q hq => ?_, fun q i j hq hi hj => ?_⟩, ⟨rfl, fun _ _ _ _ => rfl⟩, rfl, rfl, rfl, rfl, rfl, rfl, rfl, ⟨fun _ => rfl, ?_⟩, ht, Nat.le_refl _, Nat.le_refl _, Nat.le_refl _, Nat.le_succ _, Nat.le_succ _, Nat.le_succ _, Nat.le_succ _, ⟨trivial, fun _ _ => trivial, fun q i j hq hi hj => ?_⟩, ⟨rfl, fun _ _ _ _ => rfl⟩, rfl, rfl, rfl, rfl, rfl, rfl, rfl, trivial⟩
     · show yda (za4 q x.nd.length) 1 1 = 1
       cases za4 q x.nd.length <;> rfl
     · have := zmy (zan x).nd q j hj
       rw [hk] at this
       exact this
     · show (zan x).pend.length <= 1000000
       rw [e4]; exact hp
     · obtain rfl : i = 0 := by omega
       exact ygh (zl3 (zan x)).nd x.nd.length t (by rw [<- hk3] at hq; exact hq) hj
 · have hw : zji x s t = zqb .i64 (wadd .i64 (slen t) (zik x)) (slen (oldT x s)) := if_pos h5
   refine ⟨h5, fun h6 => ?_, fun h6 => ⟨?_, ⟨fun _ _ => trivial, fun _ _ _ _ _ _ => trivial⟩, fun _ _ _ _ => trivial, fun h7 => ?_, fun h7 => ⟨fun h8 => absurd (zzq h8) (by rw [h5]; decide), fun h8 => ?_⟩⟩⟩
   · have h6 : x.room < zji x s t := by
       rw [hw]; exact of_decide_eq_true h6
     have hz0 : zkx x s t = 16 := by
       unfold zkx; rw [if_neg (by rw [zov h]; decide), if_pos (zl1 h2), if_neg (fun e => by rw [h5] at e; cases e.1), if_pos h6]
     have hx : zfe x s t = x := if_neg (by rw [hz0]; decide)
     have hz : zs3 x s t = 16 := (if_neg (by rw [hz0]; decide)).trans hz0
     rw [hx, hz]
     repeat' (first | exact Nat.le_refl _ | exact trivial | exact rfl | refine And.intro ?_ ?_ | intro _)
   · rw [e1]; exact Nat.le_refl _
   · have h6 : ¬ x.room < zji x s t := by
       rw [hw]; exact of_decide_eq_false h6
     have hz0 : zkx x s t = 0 := by
       unfold zkx; rw [if_neg (by rw [zov h]; decide), if_pos (zl1 h2), if_neg (fun e => by rw [h5] at e; cases e.1), if_neg h6]
     have h7 : ¬ zaw x = 0 := by simpa [ine] using h7
     have hx : zfe x s t = zan x := by
       unfold zfe; rw [if_pos hz0, if_neg h7]
     have hz : zs3 x s t = zaw x := if_pos hz0
     rw [hx, hz]
     simp only [e1]
     repeat' (first | exact Nat.le_refl _ | exact trivial | exact rfl | refine And.intro ?_ ?_ | intro _)
   · have h6 : ¬ x.room < zji x s t := by
       rw [hw]; exact of_decide_eq_false h6
     have hz0 : zkx x s t = 0 := by
       unfold zkx; rw [if_neg (by rw [zov h]; decide), if_pos (zl1 h2), if_neg (fun e => by rw [h5] at e; cases e.1), if_neg h6]
     have h7 : zaw x = 0 := by simpa [ine] using h7
     have hx : zfe x s t = zlh (zan x) (zd9 x.names s) t := by
       unfold zfe; rw [if_pos hz0, if_pos h7, if_pos h5]
     have hz : zs3 x s t = zaw x := if_pos hz0
     rw [hx, hz]
     have hk5 : zcb (zlh (zan x) (zd9 x.names s) t).nd = zcb x.nd := List.length_set.trans (congrArg List.length e1)
     simp only [hk5, e1]
     refine ⟨ht, h5, Nat.le_refl _, Nat.le_refl _, Nat.le_refl _, Nat.le_refl _, Nat.le_refl _, ⟨trivial, fun _ _ => trivial, fun q i j hq hi hj => ?_⟩, ⟨rfl, fun _ _ _ _ => rfl⟩, rfl, rfl, rfl, rfl, rfl, rfl, rfl, trivial⟩
     obtain rfl : i = 0 := by omega
     have := ygh (zan x).nd (zd9 x.names s) t (q := q) (by rw [e1]; exact hq) hj
     rw [e1] at this
     refine this.trans ?_
     show ndC std (zae (x.nd.set _ _) q) j = ndC std (zae ((zan x).nd.set _ ⟨t, (zae (zan x).nd _).sure⟩) q) j
     rw [e1]
 · exact absurd h5 (by rw [zl1 h3]; decide)
theorem zwt : zc4 Try.prog (yhe std) := by
 intro raw ob T hT hp
 unfold yhe at hT
 simp only at hT
 repeat' split at hT
 all_goals first | (cases hT; done) | (cases hT; exact ylm _ _ _ hp.1 hp.2.1 hp.2.2)
def yj3 (x : Nd) : Prop := x.now.length <= 100000 /\ x.sure.length <= 100000
theorem zd8 (n : Nat) : (zaa n).toNat = n := by unfold zaa; omega
theorem zgw (i : Nat) (h : i <= 1000000) : wadd .i64 (zaa i) 1 = zaa (i + 1) := by
 unfold wadd zaa
 rw [zgd]
 omega
def crK (s : List (List UInt8 × Nat)) (j : Nat) : Nat := zd9 s (zgg s j)
theorem zph {i n : Nat} (h : ilt (zaa i) (zaa n) = true) : inR (zaa i) (zaa n) = true := by
 rw [zgq] at h
 rw [zpj]
 exact ⟨Int.natCast_nonneg _, h⟩
theorem zi6 {i n : Nat} (h : ilt (zaa i) (zaa n) = true) : i < n := by
 rw [zgq] at h
 unfold zaa at h
 omega
theorem zpk {i n : Nat} (h : ilt (zaa i) (zaa n) = false) : n <= i := by
 rw [znm] at h
 unfold zaa at h
 omega
theorem zmg {n i : Nat} (h : i < n) : n - (i + 1) + 1 <= n - i := by omega
theorem zvo {l : List (List UInt8 × Nat)} {j : Nat} (h : j < mlen l) : zbo l (zgg l j) = true := by
 have h : j < l.length := h
 refine ze7.2 ?_
 unfold zgg
 rw [List.getD_eq_getElem?_getD, List.getElem?_eq_getElem (by simpa using h)]
 exact List.getElem_mem _
end Sy
end Go.Proofs.Ytogomcfgfnlclaa
namespace Go.Proofs.Ytogomcfgfnlclaa
namespace Sy
open Go Go.RowKit
set_option linter.unusedVariables false
def DW (W : World) : Nat -> Prop := fun b => b < W.heap.size
structure zgu {H : Type} (enc : TypeId × Value -> H) (P : Program) (W : World) (t : TypeId) (α : Type) (sz : Nat) (av : α -> Nat -> AV) (ok : α -> Prop) : Prop where
 size : P.cellsOf t = sz
 go : ∀ fuel cs x, DataW.trod enc P W 0 (fun _ => true) true fuel t cs = some x -> ∃ y : α, ok y /\ cs.length = sz /\ ∀ j, j < sz -> ∃ v, cs[j]? = some v /\ one v /\ R W.heap (DW W) zap (av y j) v
structure zu4 {H : Type} (enc : TypeId × Value -> H) (P : Program) (W : World) (fs : List Field) (off : Nat) (α : Type) (sz : Nat) (av : α -> Nat -> AV) (ok : α -> Prop) : Prop where
 go : ∀ fuel (cs : List Value) (xs : List (DataW H × List MemPlace)), (∀ (i : Nat) (f : Field), fs[i]? = some f -> ∃ x, DataW.trod enc P W 0 (fun _ => true) true fuel f.type ((cs.drop f.offset).take (P.cellsOf f.type)) = some x) -> ∃ y : α, ok y /\ ∀ j, j < sz -> ∃ v, cs[off + j]? = some v /\ one v /\ R W.heap (DW W) zap (av y j) v
theorem sgl {h : Array Obj} {D : Nat -> Prop} {f : Nat -> AV} {v : Value} (h1 : one v) (h2 : R h D zap (f 0) v) : ∀ j, j < 1 -> ∃ u, [v][j]? = some u /\ one u /\ R h D zap (f j) u := by
 intro j hj
 obtain rfl : j = 0 := by omega
 exact ⟨v, rfl, h1, h2⟩
theorem yah {α : Type} (p : Nat -> α -> Prop) : ∀ n, (∀ i, i < n -> ∃ y, p i y) -> ∃ l : List α, l.length = n /\ ∀ i, i < n -> ∃ y, l[i]? = some y /\ p i y
 | 0, _ => ⟨[], rfl, fun i hi => by omega⟩
 | m + 1, h => by
   obtain ⟨l, e1, e2⟩ := yah p m (fun i hi => h i (by omega))
   obtain ⟨y, hy⟩ := h m (by omega)
   refine ⟨l ++ [y], by simp [e1], fun i hi => ?_⟩
   by_cases hi' : i < m
   · obtain ⟨z, z1, z2⟩ := e2 i hi'
     exact ⟨z, by rw [List.getElem?_append_left (by omega)]; exact z1, z2⟩
   · have : i = m := by omega
     subst this
     exact ⟨y, by rw [<- e1]; simp, hy⟩
section
variable {H : Type} {enc : TypeId × Value -> H} {P : Program} {W : World}
theorem zjx {t : TypeId} {k : IntKind} (ht : P.underlying t = some (.int k)) (hc : P.cellsOf t = 1) : zgu enc P W t Int 1 (fun n _ => .int k n) (fun n => (Lit.int k n).wf = true) := by
 refine ⟨hc, fun fuel cs x h => ?_⟩
 obtain ⟨n, rfl, rfl, hw⟩ := DataW.trod_int ht h
 exact ⟨n, hw, rfl, sgl rfl (.int k n)⟩
theorem zvh {t : TypeId} (ht : P.underlying t = some .bool) (hc : P.cellsOf t = 1) : zgu enc P W t Bool 1 (fun b _ => .bool b) (fun _ => True) := by
 refine ⟨hc, fun fuel cs x h => ?_⟩
 obtain ⟨b, rfl, rfl⟩ := DataW.trod_bool ht h
 exact ⟨b, trivial, rfl, sgl rfl (.bool b)⟩
theorem zos {t : TypeId} (ht : P.underlying t = some .string) (hc : P.cellsOf t = 1) : zgu enc P W t (List UInt8) 1 (fun l _ => .str l) (fun l => l.length <= maxLen) := by
 refine ⟨hc, fun fuel cs x h => ?_⟩
 obtain ⟨s, rfl, rfl, hs⟩ := DataW.trod_string ht h
 exact ⟨s.data.toList, by rw [Array.length_toList]; exact hs, rfl, sgl rfl (.str _ _ rfl)⟩
def avL {α : Type} (av : α -> Nat -> AV) (l : List α) (i j : Nat) : AV := match l[i]? with | some y => av y j | none => .dead
theorem opens_slice {t e : TypeId} {α : Type} {sz : Nat} {av : α -> Nat -> AV} {ok : α -> Prop} (ht : P.underlying t = some (.slice e)) (hc : P.cellsOf t = 1) (he : zgu enc P W e α sz av ok) (hs : 0 < sz) :
   zgu enc P W t (List α) 1 (fun l _ => .lst sz l.length (avL av l)) (fun l => l.length <= maxLen /\ ∀ y ∈ l, ok y) := by
 refine ⟨hc, fun fuel cs x h => ?_⟩
 rcases DataW.trod_slice ht h with ⟨rfl, rfl⟩ | ⟨a, len, cap, elems, rest, n, _, rfl, rfl, hb, hl, hm, hlen, hel, _, _⟩
 · exact ⟨[], ⟨Nat.zero_le _, fun y hy => by cases hy⟩, rfl, sgl rfl (.lst0 _ _ _ _ (fun _ => rfl))⟩
 · have each : ∀ i, i < len -> ∃ y : α, ok y /\ ∀ j, j < sz -> ∃ v, W.cell? ((a.add (i * sz)).add j) = some v /\ one v /\ R W.heap (DW W) zap (av y j) v := by
     intro i hi
     have h1 := hel i hi
     rw [he.size] at h1
     obtain ⟨z, hz⟩ : ∃ z, elems[i]? = some z := ⟨elems[i], by simp [hlen, hi]⟩
     rw [hz, Option.bind_eq_some_iff] at h1
     obtain ⟨cs', h2, h3⟩ := h1
     obtain ⟨y, y1, y2, y3⟩ := he.go _ _ _ h3
     refine ⟨y, y1, fun j hj => ?_⟩
     obtain ⟨v, v1, v2, v3⟩ := y3 j hj
     exact ⟨v, by rw [(World.cells?_some h2).2.2 j hj]; exact v1, v2, v3⟩
   obtain ⟨l, hl1, hl2⟩ : ∃ l : List α, l.length = len /\ ∀ i, i < len -> ∃ y, l[i]? = some y /\ ok y /\ ∀ j, j < sz -> ∃ v, W.cell? ((a.add (i * sz)).add j) = some v /\ one v /\ R W.heap (DW W) zap (av y j) v :=
     yah (fun i y => ok y /\ ∀ j, j < sz -> ∃ v, W.cell? ((a.add (i * sz)).add j) = some v /\ one v /\ R W.heap (DW W) zap (av y j) v) len each
   refine ⟨l, ⟨by omega, fun y hy => ?_⟩, rfl, sgl rfl ?_⟩
   · obtain ⟨i, hi, rfl⟩ := List.getElem_of_mem hy
     obtain ⟨z, z1, z2, _⟩ := hl2 i (by omega)
     rw [List.getElem?_eq_getElem hi] at z1
     cases z1; exact z2
   · show R W.heap (DW W) zap (.lst sz l.length (avL av l)) _
     by_cases h0 : len = 0
     · subst h0; rw [hl1]; exact .lst0 _ _ _ _ (fun h => by cases h)
     · have cell : ∀ i j, i < len -> j < sz -> ∃ v, hcell W.heap a.block (a.off + i * sz + j) = some v /\ one v /\ R W.heap (DW W) zap (avL av l i j) v := by
         intro i j hi hj
         obtain ⟨y, y1, _, y3⟩ := hl2 i hi
         obtain ⟨v, v1, v2, v3⟩ := y3 j hj
         refine ⟨v, ?_, v2, by rw [avL, y1]; exact v3⟩
         rw [<- zec]
         have hsp : ∀ p : Addr, W.cell? p = some v -> p.spot = none := by
           intro p hp
           unfold World.cell? at hp
           split at hp
           · split at hp
             · cases hp
             · rename_i hn; simpa using hn
           · cases hp
         have h1 := hsp _ v1
         have e : (a.add (i * sz)).add j = ⟨a.block, a.off + i * sz + j, none⟩ := by
           have hb1 : ((a.add (i * sz)).add j).block = a.block := by simp only [Addr.add]; split <;> split <;> rfl
           have hb2 : ((a.add (i * sz)).add j).off = a.off + i * sz + j := by simp only [Addr.add]; split <;> split <;> simp_all
           cases hq : (a.add (i * sz)).add j with
           | mk b o s => rw [hq] at h1 hb1 hb2; simp_all
         rw [<- e]; exact v1
       have hsp0 : a.spot = none := by
         obtain ⟨y, _, _, y3⟩ := hl2 0 (by omega)
         obtain ⟨v, v1, _⟩ := y3 0 hs
         rw [Nat.zero_mul] at v1
         simp only [Addr.add, if_true] at v1
         unfold World.cell? at v1
         split at v1
         · split at v1
           · cases v1
           · rename_i hn; simpa using hn
         · cases v1
       have hD : DW W a.block := by
         obtain ⟨v, v1, _⟩ := cell 0 0 (by omega) hs
         refine Classical.byContradiction fun hn => ?_
         unfold hcell at v1
         rw [Array.getElem?_eq_none (by unfold DW at hn; omega)] at v1
         cases v1
       have ea : a = ⟨a.block, a.off, none⟩ := by cases a; simp_all
       rw [ea, <- hl1]
       refine .lst sz l.length (avL av l) a.block a.off cap (fun i j => (hcell W.heap a.block (a.off + i * sz + j)).getD undef) hD (by omega) (fun i j hi hj => ?_) (fun i j hi hj => ?_) (fun i j hi hj => ?_)
       all_goals
         obtain ⟨v, v1, v2, v3⟩ := cell i j (by omega) hj
         rw [v1]
         first | rfl | exact v2 | exact v3
theorem zvi (off : Nat) : zu4 enc P W [] off Unit 0 (fun _ _ => .dead) (fun _ => True) := ⟨fun _ _ _ _ => ⟨(), trivial, fun j hj => by omega⟩⟩
theorem zd0 {f : Field} {fs : List Field} {off : Nat} {α β : Type} {sz sz' : Nat} {av : α -> Nat -> AV} {av' : β -> Nat -> AV} {ok : α -> Prop} {ok' : β -> Prop} (ho : f.offset = off) (hf : zgu enc P W f.type α sz av ok) (hr : zu4 enc P W fs (off + sz) β sz' av' ok') :
   zu4 enc P W (f :: fs) off (α × β) (sz + sz') (fun y j => if j < sz then av y.1 j else av' y.2 (j - sz)) (fun y => ok y.1 /\ ok' y.2) := by
 refine ⟨fun fuel cs xs h => ?_⟩
 obtain ⟨x, hx⟩ := h 0 f rfl
 obtain ⟨y, y1, y2, y3⟩ := hf.go _ _ _ hx
 obtain ⟨z, z1, z2⟩ := hr.go fuel cs xs (fun i g hg => h (i + 1) g hg)
 refine ⟨(y, z), ⟨y1, z1⟩, fun j hj => ?_⟩
 by_cases hlt : j < sz
 · obtain ⟨v, v1, v2, v3⟩ := y3 j hlt
   refine ⟨v, ?_, v2, by simp only [if_pos hlt]; exact v3⟩
   rw [hf.size, List.getElem?_take, if_pos hlt, List.getElem?_drop, ho] at v1
   exact v1
 · obtain ⟨v, v1, v2, v3⟩ := z2 (j - sz) (by omega)
   refine ⟨v, ?_, v2, by simp only [if_neg hlt]; exact v3⟩
   rw [<- v1]; congr 1; omega
theorem zor {t : TypeId} {fs : Array Field} {α : Type} {sz : Nat} {av : α -> Nat -> AV} {ok : α -> Prop} (ht : P.underlying t = some (.struct fs)) (hc : P.cellsOf t = sz) (hf : zu4 enc P W fs.toList 0 α sz av ok) : zgu enc P W t α sz av ok := by
 refine ⟨hc, fun fuel cs x h => ?_⟩
 obtain ⟨xs, n, rfl, rfl, hl, hx, hfs⟩ := DataW.trod_struct ht h
 obtain ⟨y, y1, y2⟩ := hf.go n cs xs (fun i f hi => by
   have := hfs i f (by simpa using hi)
   have hlt : i < xs.length := by rw [hx]; simpa using (List.getElem?_eq_some_iff.1 hi).1
   exact ⟨xs[i], by rw [this]; simp [hlt]⟩)
 exact ⟨y, y1, by omega, fun j hj => by obtain ⟨v, v1, v2⟩ := y2 j hj; exact ⟨v, by simpa using v1, v2⟩⟩
theorem zgu.map {t : TypeId} {α β : Type} {sz : Nat} {av : α -> Nat -> AV} {av' : β -> Nat -> AV} {ok : α -> Prop} {ok' : β -> Prop} (O : zgu enc P W t α sz av ok) (f : α -> β) (h1 : ∀ y j, j < sz -> av y j = av' (f y) j) (h2 : ∀ y, ok y -> ok' (f y)) : zgu enc P W t β sz av' ok' := by
 refine ⟨O.size, fun fuel cs x h => ?_⟩
 obtain ⟨y, y1, y2, y3⟩ := O.go fuel cs x h
 refine ⟨f y, h2 y y1, y2, fun j hj => ?_⟩
 obtain ⟨v, v1, v2, v3⟩ := y3 j hj
 exact ⟨v, v1, v2, by rw [<- h1 y j hj]; exact v3⟩
theorem open_one {t : TypeId} {α : Type} {av : α -> Nat -> AV} {ok : α -> Prop} {v : Value} {d : DataW H} {p : List MemPlace} (O : zgu enc P W t α 1 av ok) (hv : v.cells = #[v]) (h : DataW.Trod enc P W 0 (fun _ => true) true t v d p) :
   ∃ y, ok y /\ R W.heap (DW W) zap (av y 0) v := by
 obtain ⟨fuel, h⟩ := h
 obtain ⟨y, y1, y2, y3⟩ := O.go _ _ _ h
 obtain ⟨u, u1, u2, u3⟩ := y3 0 (by omega)
 rw [hv] at u1
 simp at u1
 subst u1
 exact ⟨y, y1, u3⟩
end
theorem yky {P : Program} {f : FuncId} {xs ys : List AV} {r : AV} (h : ∀ h D vs, RL h D zap xs vs -> RL h D zap ys vs) (ha : zbi P f ys r) : zbi P f xs r := fun D w vs hD hx => ha D w vs hD (h _ _ _ hx)
end Sy
end Go.Proofs.Ytogomcfgfnlclaa
namespace Go.Proofs.Ytogomcfgfnlclaa
namespace Sy
open Go Go.RowKit
set_option maxRecDepth 100000
set_option linter.unusedSimpArgs false
set_option linter.unusedVariables false
def zo2 (n : Int) : Nat := (n.tmod 3000).toNat
def yod (n : Int) : Prop := 0 <= n /\ n < 65536
def isS (x : AV) : Prop := ∃ s, x = .str s
end Sy
end Go.Proofs.Ytogomcfgfnlclaa
namespace Go.Proofs.Ytogomcfgfnlclaa
namespace Sy
open Go Go.RowKit
theorem zgu.turn {H : Type} {enc : TypeId × Value -> H} {P : Program} {W : World} {t : TypeId} {α β : Type} {sz : Nat} {av : α -> Nat -> AV} {av' : β -> Nat -> AV} {ok : α -> Prop} {ok' : β -> Prop} (O : zgu enc P W t α sz av ok) (f : α -> β) (h2 : ∀ y, ok y -> ok' (f y))
   (h1 : ∀ y, ok y -> ∀ j, j < sz -> ∀ v, R W.heap (DW W) zap (av y j) v -> R W.heap (DW W) zap (av' (f y) j) v) : zgu enc P W t β sz av' ok' := by
 refine ⟨O.size, fun fuel cs x h => ?_⟩
 obtain ⟨y, y1, y2, y3⟩ := O.go fuel cs x h
 refine ⟨f y, h2 y y1, y2, fun j hj => ?_⟩
 obtain ⟨v, v1, v2, v3⟩ := y3 j hj
 exact ⟨v, v1, v2, h1 y y1 j hj v v3⟩
end Sy
end Go.Proofs.Ytogomcfgfnlclaa
namespace Go.Proofs.Ytogomcfgfnlclaa
namespace Sy
open Go Go.RowKit
set_option maxRecDepth 100000
set_option linter.unusedSimpArgs false
set_option linter.unusedVariables false
def DkS.used (L : za9) : DkS -> Int
 | .c _ x _ => L slen x
 | _ => 0
def DkS.usable : DkS -> Prop
 | .a _ => True
 | .c _ x _ => zbk x
 | _ => False
def zs4 (L : za9) : zes := (17, fun raw ob => match raw with
 | [.ref id 0] => match ybe ob id with
   | some sh => some ⟨[.ref 500000 0], dkO 500005 sh, L DkS.usable sh, .int .i64 (sh.used L), dkO 500005 sh⟩
   | _ => none
 | _ => none)
theorem zo5 : zc4 Try.prog (zs4 std) := by
 intro raw ob T hT hp
 unfold zs4 at hT
 simp only at hT
 repeat' split at hT
 all_goals first | (cases hT; done) | skip
 rename_i sh hsh
 cases hT
 intro D w μ vs hD hxs hdom hobs hinj hown hg hgb
 obtain ⟨v, rfl, r1⟩ := zfk hxs
 cases r1 with
 | ref _ _ b z m hμ =>
   cases sh with
   | b k x s => exact hp.elim
   | d k x s y t => exact hp.elim
   | a k =>
     obtain ⟨C, t, fr, hb, hz, hf, ho, hC1, hC2⟩ := hobs 500000 _ _ rfl hμ
     obtain ⟨v1, hv1⟩ : ∃ v1, C[1]? = some v1 := ⟨C[1]'(by rw [<- hC1]; simp), by simp⟩
     have r2 : R w.heap D μ (.mp 500001) v1 := hC2 1 _ v1 rfl hv1
     cases r2 with
     | mp _ bm zm mm hμm =>
       obtain ⟨es, clock, kf, hbm, hn, hks, hnd, hr⟩ := hobs 500001 _ _ rfl hμm
       have hes : es = #[] := Array.eq_empty_of_size_eq_zero hn
       subst hes
       refine ze1 (fn := Try.f17) rfl rfl (by kernel_rfl) ((yp6 w b bm clock (by rw [zec, zam hb]; exact hv1) hbm).mono ?_)
       rintro e w' ⟨rfl, B⟩
       exact ⟨_, D, μ, zej hD hdom hobs hinj hown B (fun b h => h) (fun b h => .inl h) (.int _ _)⟩
   | c k x s =>
     obtain ⟨C, t, fr, hb, hz, hf, ho, hC1, hC2⟩ := hobs 500000 _ _ rfl hμ
     obtain ⟨v1, hv1⟩ : ∃ v1, C[1]? = some v1 := ⟨C[1]'(by rw [<- hC1]; simp), by simp⟩
     have r2 : R w.heap D μ (.mp 500001) v1 := hC2 1 _ v1 rfl hv1
     cases r2 with
     | mp _ bm zm mm hμm =>
       obtain ⟨e, clock, s1, hbm, hst, hk, hs, rx⟩ := zou (hobs 500001 _ _ rfl hμm)
       generalize hev : e.val = ev at rx
       cases rx with
       | ref _ _ bn zn mn hμn =>
         obtain ⟨C', t', fr', hb', hz', hf', ho', hC1', hC2'⟩ := hobs 500003 _ _ rfl hμn
         obtain ⟨v2, hv2⟩ : ∃ v2, C'[0]? = some v2 := ⟨C'[0]'(by rw [<- hC1']; simp), by simp⟩
         have r3 : R w.heap D μ (.str x) v2 := hC2' 0 _ v2 rfl hv2
         obtain ⟨s2, rfl, hs2⟩ := r3.inv_str
         have hsh : x.length <= 1000 := hp
         have hsz : s2.size = x.length := by rw [<- hs2]; simp
         refine ze1 (fn := Try.f17) rfl rfl (by kernel_rfl) ((yp5 w b bm bn clock e s2 (by rw [zec, zam hb]; exact hv1) hbm hst hev (by rw [zec, zam hb']; exact hv2)).mono ?_)
         rintro e w' ⟨rfl, B⟩
         have he : wrap64 (s2.size : Int) = slen x := by
           unfold wrap64 slen
           omega
         rw [he]
         exact ⟨_, D, μ, zej hD hdom hobs hinj hown B (fun b h => h) (fun b h => .inl h) (.int _ _)⟩
def wrO (L : za9) (x : List UInt8) : DkS -> List (Nat × Ob)
 | .a k => [(500000, zrt (.sl 17 4 0 1) (L inc k)), (500001, .mapl .s [(.s nmA, .ref 64 0)]), (500002, .mapl .s []), (64, zct x []), (17, ye1 nmA)]
 | .c k y s => [(500000, zrt (.sl 17 4 0 1) (L inc k)), (500001, .mapl .s [(.s nmA, .ref 500003 0), (.s nmB, .ref 64 0)]), (500002, .mapl .s [(.s nmA, .ref 500003 0)]), (500003, zct y s), (64, zct x []), (17, ye1 nmB)]
 | _ => []
def yow : DkS -> List UInt8
 | .a _ => nmA
 | _ => nmB
def yob (x : List UInt8) : DkS -> Prop
 | .a k => zci k /\ x.length <= 50
 | .c k y s => zci k /\ x.length <= 50 /\ y.length <= 50
 | _ => False
def zqi (L : za9) : zes := (10, fun raw ob => match raw with
 | [.ref id 0, .str _, .str x] => match ybe ob id with
   | some sh => some ⟨[.ref 500000 0, .str (yow sh), .str x], dkO 500005 sh, L2 L yob x sh, .int .i64 0, wrO L x sh⟩
   | _ => none
 | _ => none)
theorem yhd (k : Int) (x : List UInt8) (hk : zci k) (hx : x.length <= 50) : zay Try.prog 10 [.ref 500000 0, .str nmA, .str x] (dkO 500005 (.a k)) (.int .i64 0) (wrO std x (.a k)) := by
 refine zai (T := tt) (S := fun L => zb5 [ydc L, zln L] [yiy, zs4 L, zi9 L, ziq]) (lo := noA) (lb := noA) 8 (fn := Try.f10) (xs := fun L => [.ref 500000 0, .str nmA, .str x]) (rts := fun _ => [.int .i64 0]) (O := fun L => dkO 500005 (.a k)) (O1 := fun L => wrO L x (.a k))
   rfl rfl (by kernel_rfl) (by kernel_rfl) (by kernel_rfl) zaq (za5 ⟨zsk, zh7, trivial⟩ ⟨zjy, zo5, zg9, zjd, trivial⟩) (by kernel_rfl) ?_
 intro L P' Q' hL hP hQ
 (cbv; try simp only [syT, true_and, and_true])
 subst hL
 have e0 : ine 0 0 = false := by decide
 have e1 : zgf [97] = true := by decide
 have e2 : ile 16 (Int.ofNat 0) = false := by decide
 have e3 : ilt 100 (wadd .i64 (slen x) 0) = false := by
   rw [znm]
   unfold wadd slen
   rw [zgd]
   omega
 have e4 : zbk x := by unfold zbk; omega
 have e5 : zbk [97] := by unfold zbk; decide
 simp [std, e0, e1, e2, e3, e4, e5, DkS.usable, DkS.k, hk]
 decide
theorem yhc (k : Int) (x y s : List UInt8) (hk : zci k) (hx : x.length <= 50) (hy : y.length <= 50) : zay Try.prog 10 [.ref 500000 0, .str nmB, .str x] (dkO 500005 (.c k y s)) (.int .i64 0) (wrO std x (.c k y s)) := by
 refine zai (T := tt) (S := fun L => zb5 [ydc L, zln L] [yiy, zs4 L, zi9 L, ziq]) (lo := noA) (lb := noA) 8 (fn := Try.f10) (xs := fun L => [.ref 500000 0, .str nmB, .str x]) (rts := fun _ => [.int .i64 0]) (O := fun L => dkO 500005 (.c k y s)) (O1 := fun L => wrO L x (.c k y s))
   rfl rfl (by kernel_rfl) (by kernel_rfl) (by kernel_rfl) zaq (za5 ⟨zsk, zh7, trivial⟩ ⟨zjy, zo5, zg9, zjd, trivial⟩) (by kernel_rfl) ?_
 intro L P' Q' hL hP hQ
 (cbv; try simp only [syT, true_and, and_true])
 subst hL
 have e0 : ine 0 0 = false := by decide
 have e1 : zgf [98] = true := by decide
 have e2 : ile 16 (Int.ofNat 1) = false := by decide
 have e3 : ilt 100 (wadd .i64 (slen x) (slen y)) = false := by
   rw [znm]
   unfold wadd slen
   rw [zgd]
   omega
 have e4 : zbk x := by unfold zbk; omega
 have e6 : zbk y := by unfold zbk; omega
 have e5 : zbk [98] := by unfold zbk; decide
 simp [std, e0, e1, e2, e3, e4, e5, e6, DkS.usable, DkS.k, hk]
 decide
theorem zu6 : zc4 Try.prog (zqi std) := by
 intro raw ob T hT hp
 unfold zqi at hT
 simp only at hT
 repeat' split at hT
 all_goals first | (cases hT; done) | skip
 rename_i x _ sh hsh
 cases hT
 have hp : yob x sh := hp
 cases sh with
 | a k => exact yhd k x hp.1 hp.2
 | b k y s => exact hp.elim
 | c k y s => exact yhc k x y s hp.1 hp.2.1 hp.2.2
 | d k y s z t => exact hp.elim
def zxa (L : za9) : zes := (13, fun raw ob => match raw with
 | [.ref id 0, .str _] => match ybe ob id with
   | some (.b k x s) => some ⟨[.ref 500000 0, .str nmA], dkO 500005 (.b k x s), L zci k, .int .i64 0, dkO 500005 (.b (L inc k) x x)⟩
   | _ => none
 | _ => none)
theorem ylv (k : Int) (x s : List UInt8) (hk : zci k) : zay Try.prog 13 [.ref 500000 0, .str nmA] (dkO 500005 (.b k x s)) (.int .i64 0) (dkO 500005 (.b (inc k) x x)) := by
 refine zai (T := tt) (S := fun L => zb5 [] [zmf, zi9 L]) (lo := noA) (lb := noA) 8 (fn := Try.f13) (xs := fun L => [.ref 500000 0, .str nmA]) (rts := fun _ => [.int .i64 0]) (O := fun L => dkO 500005 (.b k x s)) (O1 := fun L => dkO 500005 (.b (L inc k) x x))
   rfl rfl (by kernel_rfl) (by kernel_rfl) (by kernel_rfl) zaq (za5 trivial ⟨zlc, zg9, trivial⟩) (by kernel_rfl) ?_
 intro L P' Q' hL hP hQ
 (cbv; try simp only [syT, true_and, and_true])
 subst hL
 have e0 : ieq 0 0 = true := by decide
 simp [std, e0, DkS.k, hk]
theorem zxc : zc4 Try.prog (zxa std) := by
 intro raw ob T hT hp
 unfold zxa at hT
 simp only at hT
 repeat' split at hT
 all_goals first | (cases hT; done) | (cases hT; exact ylv _ _ _ hp)
def sdO (k : Int) (x s : List UInt8) : List (Nat × Ob) := [(500000, ztz 500001 18 .nils k), (500001, .mapl .s [(.s nmA, .ref 500003 0)]), (18, .mapl .s [(.s nmA, .ref 500003 0)]), (500003, zct x s)]
def zxq (L : za9) : zes := (15, fun raw ob => match raw with
 | [.ref id 0] => match ybe ob id with
   | some (.b k x s) => some ⟨[.ref 500000 0], dkO 500005 (.b k x s), L zci k, .int .i64 0, sdO (L inc k) x s⟩
   | _ => none
 | _ => none)
theorem ym8 (k : Int) (x s : List UInt8) (hk : zci k) : zay Try.prog 15 [.ref 500000 0] (dkO 500005 (.b k x s)) (.int .i64 0) (sdO (inc k) x s) := by
 refine zai (T := tt) (S := fun L => zb5 [] [yiy, zi9 L, zj5]) (lo := noA) (lb := noA) 8 (fn := Try.f15) (xs := fun L => [.ref 500000 0]) (rts := fun _ => [.int .i64 0]) (O := fun L => dkO 500005 (.b k x s)) (O1 := fun L => sdO (L inc k) x s)
   rfl rfl (by kernel_rfl) (by kernel_rfl) (by kernel_rfl) zaq (za5 trivial ⟨zjy, zg9, zkq, trivial⟩) (by kernel_rfl) ?_
 intro L P' Q' hL hP hQ
 (cbv; try simp only [syT, true_and, and_true])
 subst hL
 have e0 : ieq 0 0 = true := by decide
 simp [std, e0, DkS.k, hk]
theorem zxs : zc4 Try.prog (zxq std) := by
 intro raw ob T hT hp
 unfold zxq at hT
 simp only at hT
 repeat' split at hT
 all_goals first | (cases hT; done) | (cases hT; exact ym8 _ _ _ hp)
def zz0 : zes := (14, fun raw ob => match raw with
 | [.ref id 0, .str _] => match ybe ob id with
   | some (.c k x s) => some ⟨[.ref 500000 0, .str nmA], dkO 500005 (.c k x s), True, .tup [.str x, .int .i64 0], dkO 500005 (.c k x s)⟩
   | _ => none
 | _ => none)
theorem ymh (k : Int) (x s : List UInt8) : zay Try.prog 14 [.ref 500000 0, .str nmA] (dkO 500005 (.c k x s)) (.tup [.str x, .int .i64 0]) (dkO 500005 (.c k x s)) := by
 refine zai (T := tt) (S := fun L => zb5 [] [zmf]) (lo := noA) (lb := noA) 8 (fn := Try.f14) (xs := fun L => [.ref 500000 0, .str nmA]) (rts := fun _ => [.str x, .int .i64 0]) (O := fun L => dkO 500005 (.c k x s)) (O1 := fun L => dkO 500005 (.c k x s))
   rfl rfl (by kernel_rfl) (by kernel_rfl) (by kernel_rfl) zaq (za5 trivial ⟨zlc, trivial⟩) (by kernel_rfl) ?_
 intro L P' Q' hL hP hQ
 (cbv; try simp only [syT, true_and, and_true])
 subst hL
 have e0 : ine 0 0 = false := by decide
 simp [std, e0]
theorem zz2 : zc4 Try.prog zz0 := by
 intro raw ob T hT hp
 unfold zz0 at hT
 simp only at hT
 repeat' split at hT
 all_goals first | (cases hT; done) | (cases hT; exact ymh _ _ _)
def znt : zes := (34, fun raw ob => match raw with
 | [.mp n] => match ob n with
   | some (.mapl _ [(_, .ref i _)]) => some ⟨[.mp 500001], ygn (zbh (ob i)).1 (zbh (ob i)).2, True, .fn 48 [] [.ref 1 0], zb8 [(1, .box 60 [.mp 500001])] (ygn (zbh (ob i)).1 (zbh (ob i)).2)⟩
   | _ => none
 | _ => none)
theorem yfp (x s : List UInt8) : zay Try.prog 34 [.mp 500001] (ygn x s) (.fn 48 [] [.ref 1 0]) (zb8 [(1, .box 60 [.mp 500001])] (ygn x s)) := by
 refine zai (T := tt) (S := fun L => zb5 [] []) (lo := noA) (lb := noA) 8 (fn := Try.f34) (xs := fun L => [.mp 500001]) (rts := fun _ => [.fn 48 [] [.ref 1 0]]) (O := fun L => ygn x s) (O1 := fun L => zb8 [(1, .box 60 [.mp 500001])] (ygn x s))
   rfl rfl (by kernel_rfl) (by kernel_rfl) (by kernel_rfl) zaq (za5 trivial trivial) (by kernel_rfl) ?_
 intro L P' Q' hL hP hQ
 (cbv; try simp only [syT, true_and, and_true])
theorem zm3 : zc4 Try.prog znt := by
 intro raw ob T hT hp
 unfold znt at hT
 simp only at hT
 repeat' split at hT
 all_goals first | (cases hT; done) | (cases hT; exact yfp _ _)
def zr6 : zes := (12, fun raw ob => match raw with
 | [.ref id 0] => match ybe ob id with
   | some (.c k x s) => some ⟨[.ref 500000 0], dkO 500005 (.c k x s), True, .lst 1 1 (fun _ _ => .str nmA), dkO 500005 (.c k x s)⟩
   | _ => none
 | _ => none)
theorem yj5 (k : Int) (x s : List UInt8) : zay Try.prog 12 [.ref 500000 0] (dkO 500005 (.c k x s)) (.lst 1 1 (fun _ _ => .str nmA)) (dkO 500005 (.c k x s)) := by
 refine zai (T := tt) (S := fun L => zb5 [] [yiy, znt, zit]) (lo := noA) (lb := noA) 8 (fn := Try.f12) (xs := fun L => [.ref 500000 0]) (rts := fun _ => [.lst 1 1 (fun _ _ => .str nmA)]) (O := fun L => dkO 500005 (.c k x s)) (O1 := fun L => dkO 500005 (.c k x s))
   rfl rfl (by kernel_rfl) (by kernel_rfl) (by kernel_rfl) zaq (za5 trivial ⟨zjy, zm3, zjh, trivial⟩) (by kernel_rfl) ?_
 intro L P' Q' hL hP hQ
 (cbv; try simp only [syT, true_and, and_true])
 subst hL
 have e0 : ine 0 0 = false := by decide
 simp [std, e0]
theorem zvn : zc4 Try.prog zr6 := by
 intro raw ob T hT hp
 unfold zr6 at hT
 simp only at hT
 repeat' split at hT
 all_goals first | (cases hT; done) | (cases hT; exact yj5 _ _ _)
def zzp (x s : List UInt8) (i : Nat) : List UInt8 := if i = 0 then x else s
def isZ (i : Nat) : Bool := decide (i = 0)
def crA (L : za9) (k : Int) (x s y t : List UInt8) : Nat -> St -> Option Ann := fun id st => match id with
 | 0 => some ⟨Nat, fun i => [(21, .int .i64 (L zaa i))], fun _ => [], [0, 1, 2, 19, 20], [500000, 500001, 500002, 500003, 500004, 500005], fun i => L (fun i => i <= 1) i, fun i => L (fun (i : Nat) => 1 - i) i⟩
 | 2 => some ⟨Nat, fun i => [(51, .int .i64 (L zaa i)), (9, .int .i64 (L zaa i))], fun i => [(500000, zrt (.sl 500005 4 0 1) k), (500001, .mapl .s [(.s nmA, .ref 500003 0), (.s nmB, .ref 500004 0)]), (500002, .mapl .s [(.s nmA, .ref 500003 0)]), (500003, .box 68 [.str (L3 L zzp x s i), .str s]), (500004, zct y t), (43, .mapq (L isZ i))], [0, 2, 8, 49, 50], [500005], fun i => L (fun i => i <= 1) i, fun i => L (fun (i : Nat) => 1 - i) i⟩
 | _ => none
def crO (k : Int) (s : List UInt8) : List (Nat × Ob) := [(500000, ztz 19 500002 .nils k), (19, .mapl .s [(.s nmA, .ref 500003 0)]), (500002, .mapl .s [(.s nmA, .ref 500003 0)]), (500003, zct s s)]
def zru (L : za9) : zes := (18, fun raw ob => match raw with
 | [.ref id 0, .nils, .nils] => match ybe ob id with
   | some (.d k x s y t) => some ⟨[.ref 500000 0, .nils, .nils], dkO 500005 (.d k x s y t), L zbk s, .tup [], crO k s⟩
   | _ => none
 | _ => none)
theorem yk9 (k : Int) (x s y t : List UInt8) (hs : zbk s) : zay Try.prog 18 [.ref 500000 0, .nils, .nils] (dkO 500005 (.d k x s y t)) (.tup []) (crO k s) := by
 refine zai (T := tt) (S := fun L => zb5 [] [ynu, znt, zit, yan L, zj5]) (lo := fun L => crA L k x s y t) (lb := noA) 12 (fn := Try.f18) (xs := fun L => [.ref 500000 0, .nils, .nils]) (rts := fun _ => []) (O := fun L => dkO 500005 (.d k x s y t)) (O1 := fun L => crO k s)
   rfl rfl (by kernel_rfl) (by kernel_rfl) (by kernel_rfl) zaq (za5 trivial ⟨zrq, zm3, zjh, yao, zkq, trivial⟩) (by kernel_rfl) ?_
 intro L P' Q' hL hP hQ
 (cbv; try simp only [syT, true_and, and_true])
 refine ⟨fun h => (by cases h), fun _ => ⟨⟨0, ?_⟩, fun i hi => ?_⟩⟩
 · (cbv; try simp only [syT, true_and, and_true])
   subst hL
   exact ⟨fun _ _ _ _ => trivial, rfl, Nat.zero_le _⟩
 · (cbv; try simp only [syT, true_and, and_true])
   refine ⟨fun h2 => ⟨?_, fun h3 => ?_, fun h3 => ⟨i + 1, ?_⟩⟩, fun h2 => ⟨⟨0, ?_⟩, fun j hj => ?_⟩⟩
   · subst hL
     have h2 : ilt (zaa i) (zaa 1) = true := h2
     rw [zgq] at h2
     show inR (zaa i) (zaa 1) = true
     rw [zpj]
     exact ⟨Int.natCast_nonneg _, h2⟩
   · subst hL
     have h3 : ilt (zaa i) 0 = true := h3
     rw [zgq] at h3
     unfold zaa at h3
     omega
   · (cbv; try simp only [syT, true_and, and_true])
     subst hL
     have hi : i <= 1 := hi
     have h2 : ilt (zaa i) (zaa 1) = true := h2
     rw [zgq] at h2
     unfold zaa at h2
     refine ⟨fun _ _ _ _ => trivial, ?_, ?_, ?_⟩
     · show wadd .i64 (zaa i) 1 = zaa (i + 1)
       unfold wadd zaa
       rw [zgd]
       omega
     · show i + 1 <= 1
       omega
     · show 1 - (i + 1) < 1 - i
       omega
   · (cbv; try simp only [syT, true_and, and_true])
     subst hL
     exact ⟨fun _ _ _ _ => trivial, fun _ => trivial, rfl, fun _ _ _ _ => trivial, rfl, rfl, Nat.zero_le _⟩
   · (cbv; try simp only [syT, true_and, and_true])
     refine ⟨fun h3 => ⟨?_, ?_, fun h => (by cases h), fun _ => ⟨fun h4 => ?_, fun h4 => ⟨?_, ?_, ⟨j + 1, ?_⟩⟩⟩⟩, fun h3 => ?_⟩
     · subst hL
       have h3 : ilt (zaa j) (zaa 1) = true := h3
       rw [zgq] at h3
       show inR (zaa j) (zaa 1) = true
       rw [zpj]
       exact ⟨Int.natCast_nonneg _, h3⟩
     · subst hL
       have h3 : ilt (zaa j) (zaa 1) = true := h3
       rw [zgq] at h3
       unfold zaa at h3
       exact decide_eq_true (show j = 0 by omega)
     · subst hL
       have h4 : ilt (zaa j) 0 = true := h4
       rw [zgq] at h4
       unfold zaa at h4
       omega
     · subst hL
       exact hs
     · subst hL
       have h3 : ilt (zaa j) (zaa 1) = true := h3
       rw [zgq] at h3
       unfold zaa at h3
       exact decide_eq_true (show j = 0 by omega)
     · (cbv; try simp only [syT, true_and, and_true])
       subst hL
       have hj : j <= 1 := hj
       have h3 : ilt (zaa j) (zaa 1) = true := h3
       rw [zgq] at h3
       unfold zaa at h3
       have ew : wadd .i64 (zaa j) 1 = zaa (j + 1) := by
         unfold wadd zaa
         rw [zgd]
         omega
       refine ⟨fun _ _ _ _ => trivial, fun h => ?_, ?_, fun _ _ _ _ => trivial, ew, ew, ?_, ?_⟩
       · have h : decide (j + 1 = 0) = true := h
         simp at h
       · show s = zzp x s (j + 1)
         unfold zzp
         rw [if_neg (by omega)]
       · show j + 1 <= 1
         omega
       · show 1 - (j + 1) < 1 - j
         omega
     · subst hL
       have h3 : ilt (zaa j) (zaa 1) = false := h3
       rw [znm] at h3
       unfold zaa at h3
       show zzp x s j = s
       unfold zzp
       rw [if_neg (by omega)]
theorem zw7 : zc4 Try.prog (zru std) := by
 intro raw ob T hT hp
 unfold zru at hT
 simp only at hT
 repeat' split at hT
 all_goals first | (cases hT; done) | (cases hT; exact yk9 _ _ _ _ _ hp)
theorem zwe : zbi Try.prog 7 [] (.bool true) := by
 refine zah (T := tt) (S := fun L => zb5 [] [yj1 L, zqi L, zxa L, zxq L, zru L, zz0, zr6]) (lo := noA) (lb := noA) 12 (fn := Try.f7) rfl rfl (by kernel_rfl) (by kernel_rfl) rfl zaq (za5 trivial ⟨yea, zu6, zxc, zxs, zw7, zz2, zvn, trivial⟩) (by kernel_rfl) ?_
 intro L P' Q' hL hP hQ
 (cbv; try simp only [syT, true_and, and_true])
 subst hL
 subst hQ
 have e0 : ine 0 0 = false := by decide
 have e1 : ieq 0 0 = true := by decide
 have s0 : zci 0 := ⟨by decide, by decide⟩
 have s1 : zci (inc 0) := ⟨by decide, by decide⟩
 have s2 : zci (inc (inc 0)) := ⟨by decide, by decide⟩
 have s3 : zci (inc (inc (inc 0))) := ⟨by decide, by decide⟩
 have w1 : yob [120] (.a 0) := ⟨s0, by decide⟩
 have w2 : yob [121] (.c (inc (inc (inc 0))) [120] [120]) := ⟨s3, by decide, by decide⟩
 have sh : zbk [120] := by unfold zbk; decide
 have q1 : seq [120] [120] = true := by decide
 have q2 : ieq (zaa 1) 1 = true := by decide
 simp [std, e0, e1, s1, s2, w1, w2, sh, q1, q2, zdg]
theorem ypz {h : Array Obj} {D : Nat -> Prop} {μ : Mu} {sz n : Nat} {get get' : Nat -> Nat -> AV} {v : Value} (e : ∀ i j, i < n -> j < sz -> get i j = get' i j) (r : R h D μ (.lst sz n get) v) : R h D μ (.lst sz n get') v := by
 cases r with
 | lst0 _ _ a cap hn => exact .lst0 _ _ a cap hn
 | lst _ _ _ b o cap vs hD hc hv h1 hr => exact .lst _ _ _ b o cap vs hD hc hv h1 (fun i j hi hj => by rw [<- e i j hi hj]; exact hr i j hi hj)
theorem zwb {n : Int} (h : (Lit.int .u16 n).wf = true) : 0 <= n /\ n < 65536 := by
 have := bounds_u16 h
 omega
structure WI (x : Dk) (i : Nat) : Prop where
 down : x.down = false
 fuse : x.fuse = -1
 pend : x.pend.length <= i
 names : x.names.length <= i
 keys : ∀ y ∈ x.names, y.1.length <= 60
 ok : ∀ k, yj3 (zae x.nd k)
theorem zqm {x : Dk} (h : x.fuse = -1) : zaw x = 0 /\ (zan x).down = x.down /\ (zan x).fuse = -1 := by
 have h0 : ¬ x.fuse = 0 := by omega
 refine ⟨if_neg h0, ?_, ?_⟩
 · unfold zan; rw [if_neg h0]
 · unfold zan; rw [if_neg h0]
   show (if 0 < x.fuse then _ else x.fuse) = -1
   rw [if_neg (by omega), h]
theorem ym5 {l : List Nd} {k : Nat} {v : Nd} (h : ∀ q, yj3 (zae l q)) (hv : yj3 v) (q : Nat) : yj3 (zae (l.set k v) q) := by
 rw [zox]
 split
 · exact hv
 · exact h q
theorem zs2 (x : Dk) (s t : List UInt8) : zcb x.nd <= zcb (zfe x s t).nd := by
 obtain ⟨e1, e2, e3, e4, e5⟩ := zc6 x
 unfold zfe zcb
 split
 · split
   · split
     · show x.nd.length <= ((zan x).nd.set _ _).length
       rw [List.length_set, e1]; exact Nat.le_refl _
     · show x.nd.length <= (((zan x).nd ++ [ndD]).set _ _).length
       rw [List.length_set, e1, List.length_append]; exact Nat.le_add_right _ _
   · rw [e1]; exact Nat.le_refl _
 · exact Nat.le_refl _
theorem yhk {n : Int} (h : yod n) : zo2 n < 3000 := by
 have h : 0 <= n /\ n < 65536 := h
 have : n.tmod 3000 = ((n.toNat % 3000 : Nat) : Int) := by
   obtain ⟨k, rfl⟩ : ∃ k : Nat, n = k := ⟨n.toNat, by omega⟩
   exact (Int.ofNat_tmod k 3000).symm
 unfold zo2
 omega
def syD (x : Dk) : Nat -> Dk
 | 0 => x
 | j + 1 => zcu (syD x j) (zgg x.names j)
structure SI (x y : Dk) (j : Nat) : Prop where
 down : y.down = false
 fuse : y.fuse = -1
 names : y.names = x.names
 pend : y.pend = x.pend
 len : zcb y.nd = zcb x.nd
 now : ∀ k, (zae y.nd k).now = (zae x.nd k).now
 ok : ∀ k, yj3 (zae y.nd k)
 same : ∀ q, q < j -> (zae y.nd (crK x.names q)).sure = (zae y.nd (crK x.names q)).now
theorem sy_0 {x : Dk} {i : Nat} (h : WI x i) : SI x (syD x 0) 0 := ⟨h.down, h.fuse, rfl, rfl, rfl, fun _ => rfl, h.ok, fun q hq => absurd hq (Nat.not_lt_zero q)⟩
theorem ylw {x y : Dk} {j q : Nat} (h : SI x y j) (hq : q < mlen x.names) : thE y (zgg x.names q) = 0 := by
 unfold thE
 rw [if_neg (by rw [h.down]; decide), if_pos (by rw [h.names]; exact zvo hq)]
theorem yhn {x y : Dk} {j : Nat} (h : SI x y j) (hj : j < mlen x.names) : SI x (zcu y (zgg x.names j)) (j + 1) := by
 obtain ⟨s1, s2, s3⟩ := zqm h.fuse
 obtain ⟨e1, e2, e3, e4, e5⟩ := zc6 y
 have hk : thK y (zgg x.names j) = crK x.names j := by
   unfold thK crK; rw [h.names]
 have hx : zcu y (zgg x.names j) = { zan y with nd := y.nd.set (crK x.names j) ⟨(zae y.nd (crK x.names j)).now, (zae y.nd (crK x.names j)).now⟩ } := by
   unfold zcu
   rw [if_pos (ylw h hj), if_pos s1, hk]
 rw [hx]
 refine ⟨s2.trans h.down, s3, e2.trans h.names, e4.trans h.pend, List.length_set.trans h.len, fun k => ?_, fun k => ym5 h.ok (v := ⟨(zae y.nd (crK x.names j)).now, (zae y.nd (crK x.names j)).now⟩) ⟨(h.ok (crK x.names j)).1, (h.ok (crK x.names j)).1⟩ k, fun q hq => ?_⟩
 · show (zae (y.nd.set _ _) k).now = _
   rw [zox]
   split
   · rename_i e; rw [e.1]; exact h.now _
   · exact h.now k
 · show (zae (y.nd.set _ _) _).sure = (zae (y.nd.set _ _) _).now
   rw [zox]
   split
   · rfl
   · rename_i e
     by_cases e2 : q = j
     · subst e2
       have : ¬ crK x.names q < y.nd.length := fun e3 => e ⟨rfl, e3⟩
       unfold zae
       rw [List.getD_eq_getElem?_getD, List.getElem?_eq_none (by omega)]; rfl
     · exact h.same q (by omega)
theorem zsb {x : Dk} {i : Nat} (h : WI x i) : ∀ j, j <= mlen x.names -> SI x (syD x j) j
 | 0, _ => sy_0 h
 | j + 1, hj => yhn (zsb h j (by omega)) hj
def syE (x : Dk) : Dk := zge (syD x (mlen x.names))
structure EI (x z : Dk) : Prop where
 down : z.down = false
 fuse : z.fuse = -1
 names : z.names = x.names
 sure : z.sure = x.names
 pend : z.pend = []
 now : ∀ k, (zae z.nd k).now = (zae x.nd k).now
 ok : ∀ k, yj3 (zae z.nd k)
 same : ∀ q, q < mlen x.names -> (zae z.nd (crK x.names q)).sure = (zae z.nd (crK x.names q)).now
theorem ei {x : Dk} {i : Nat} (h : WI x i) : EI x (syE x) := by
 have s := zsb h (mlen x.names) (Nat.le_refl _)
 obtain ⟨s1, s2, s3⟩ := zqm s.fuse
 obtain ⟨e1, e2, e3, e4, e5⟩ := zc6 (syD x (mlen x.names))
 have hx : syE x = { zan (syD x (mlen x.names)) with sure := (syD x (mlen x.names)).names, pend := [] } := by
   unfold syE zge
   rw [if_neg (by rw [s.down]; decide), if_pos s1]
 rw [hx]
 exact ⟨s2.trans s.down, s3, e2.trans s.names, s.names, rfl, fun k => by show (zae (zan _).nd k).now = _; rw [e1]; exact s.now k, fun k => by show yj3 (zae (zan _).nd k); rw [e1]; exact s.ok k, fun q hq => by show (zae (zan _).nd _).sure = (zae (zan _).nd _).now; rw [e1]; exact s.same q hq⟩
theorem zsc (x : Dk) (s : List UInt8) : zcb (zcu x s).nd = zcb x.nd := by
 obtain ⟨e1, e2, e3, e4, e5⟩ := zc6 x
 unfold zcu zcb
 split
 · split
   · exact List.length_set
   · rw [e1]
 · rfl
theorem zsi (x : Dk) : zcb (zge x).nd = zcb x.nd := by
 obtain ⟨e1, e2, e3, e4, e5⟩ := zc6 x
 unfold zge zcb
 split
 · rfl
 · split
   · rw [e1]
   · rw [e1]
def zhw (n : Int) : Prop := 0 <= n /\ n < 18446744073709551616
def zdn (n : Int) : List UInt8 := zdo n.toNat
def zml (L : za9) : zet := (52, fun xs => match xs with | [.int .u64 n] => some (L zhw n, .str (L zdn n)) | _ => none)
theorem zlf : zgh Try.prog (zml std) := by
 intro xs p r h hp
 dsimp only [zml] at h |-
 split at h <;> cases h
 try simp only [L2, L3, std] at hp |-
 rename_i n
 obtain ⟨h0, h1⟩ : zhw n := hp
 obtain ⟨k, rfl⟩ := zzv h0
 exact zd6 (fn := Try.f52) rfl rfl (by kernel_rfl) (yg0 (zgz _ _)) (fun h D => zud h D _ _) (fun w => zxj k w (by omega))
theorem zwg : zbi Try.prog 54 [] (.bool true) := by
 refine zah (T := tt) (S := fun L => zdk [zml L, zve L]) (lo := noA) (lb := noA) 5 (fn := Try.f54) rfl rfl (by kernel_rfl) (by kernel_rfl) rfl zaq (zas ⟨zlf, ziv, trivial⟩) (by kernel_rfl) ?_
 (intro L P1 Q1 hL hP hQ; cbv; subst hL; simp only [L2, L3, std, syT]; subst hQ)
 (simp only [syS, reduceCtorEq, Int.reduceToNat, Int.reduceAdd, Int.reduceSub])
 exact ⟨by unfold zhw; omega, fun _ => ⟨by unfold ydx; omega, by decide +kernel⟩, by rw [zdn, show (300 : Int).toNat = 300 from rfl, zg0 (by decide), zde (by decide)]; rfl⟩
def tru (f : Nat) : zet := (f, fun xs => match xs with | [] => some (True, .bool true) | _ => none)
theorem ze3 {P : Program} {f : Nat} (h : zbi P f [] (.bool true)) : zgh P (tru f) := by
 intro xs p r h' hp
 match xs with
 | [] => cases h'; exact h
 | x :: xs => cases h'
theorem zm9 : zbi Try.prog 41 [] (.bool true) := by
 refine zah (T := tt) (S := fun L => zdk [tru 54]) (lo := noA) (lb := noA) 5 (fn := Try.f41) rfl rfl (by kernel_rfl) (by kernel_rfl) rfl zaq (zas ⟨ze3 zwg, trivial⟩) (by kernel_rfl) ?_
 (intro L P1 Q1 hL hP hQ; cbv; subst hL; simp only [L2, L3, std, syT]; subst hQ)
 (simp only [syS, reduceCtorEq, Int.reduceToNat, Int.reduceAdd, Int.reduceSub])
theorem yfx {l m : List UInt8} {i : Nat} (h : i < l.length) : zc9 (l ++ m) i = zc9 l i := by
 simp [zc9, List.getElem?_append_left h]
theorem yfw {l m : List UInt8} {i : Nat} (h : ¬ i < l.length) : zc9 (l ++ m) i = zc9 m (i - l.length) := by
 simp [zc9, List.getElem?_append_right (show l.length <= i by omega)]
theorem zwa (l : List UInt8) : zb9 l.length (fun i => zc9 l i) = l := by
 apply List.ext_getElem
 · simp [zb9]
 · intro i h1 h2
   simp [zb9, zc9, h2]
def m32 : Int := 4294967295
def mulW (x y : Int) : Int := zjb .u64 (zwr .u64 x m32) (zwr .u64 y m32)
def mulT (x y : Int) : Int := wadd .u64 (zjb .u64 (zqh .u64 x 32) (zwr .u64 y m32)) (zqh .u64 (mulW x y) 32)
def mulU (x y : Int) : Int := wadd .u64 (zwr .u64 (mulT x y) m32) (zjb .u64 (zwr .u64 x m32) (zqh .u64 y 32))
def yee (x y : Int) : Int := wadd .u64 (wadd .u64 (zjb .u64 (zqh .u64 x 32) (zqh .u64 y 32)) (zqh .u64 (mulT x y) 32)) (zqh .u64 (mulU x y) 32)
def ygp (x y : Int) : Int := zjb .u64 x y
def yj6 (L : za9) : zet := (102, fun xs => match xs with | [.int .u64 x, .int .u64 y] => some (True, .tup [.int .u64 (L2 L yee x y), .int .u64 (L2 L ygp x y)]) | _ => none)
theorem yed : zgh Try.prog (yj6 std) := by
 intro xs p r h hp
 dsimp only [yj6] at h |-
 split at h <;> cases h
 try simp only [L2, L3, std] at hp |-
 rename_i x y
 refine zah (T := tt) (S := noS) (lo := noA) (lb := noA) 5 (fn := Try.f102) rfl rfl (by kernel_rfl) (by kernel_rfl) rfl zaq (zid _) (by kernel_rfl) ?_
 intro L P' Q' hL hP hQ
 (cbv; try simp only [syT, true_and, and_true])
 subst hL; subst hQ
 refine ⟨rfl, rfl, rfl, rfl, rfl, ?_⟩
 show zhl (.tup [.int .u64 (yee x y), .int .u64 (ygp x y)]) (.tup [.int .u64 (yee x y), .int .u64 (ygp x y)])
 simp only [sySet]
 trivial
def ylj (y p : Int) (three : Bool) : Bool := match three with
 | false => decide (p < yee y y) || (decide (yee y y = p) && decide (0 < ygp y y))
 | true => decide (ycl .u64 p 32 < wadd .u64 (zjb .u64 (yee y y) y) (yee (ygp y y) y)) || (decide (wadd .u64 (zjb .u64 (yee y y) y) (yee (ygp y y) y) = ycl .u64 p 32) && decide (0 < ygp (ygp y y) y))
def ykz (L : za9) : zet := (99, fun xs => match xs with | [.int .u64 y, .int .u64 p, .bool t] => some (True, .bool (L3 L ylj y p t)) | _ => none)
theorem yg3 : zgh Try.prog (ykz std) := by
 intro xs p r h hp
 dsimp only [ykz] at h |-
 split at h <;> cases h
 try simp only [L2, L3, std] at hp |-
 rename_i y p t
 refine zah (T := tt) (S := fun L => zdk [yj6 L]) (lo := noA) (lb := noA) 5 (fn := Try.f99) rfl rfl (by kernel_rfl) (by kernel_rfl) rfl zaq (zas ⟨yed, trivial⟩) (by kernel_rfl) ?_
 (intro L P1 Q1 hL hP hQ; cbv; subst hL; simp only [L2, L3, std, syT]; subst hQ)
 cases t
 · refine ⟨trivial, fun _ => ⟨fun h => ?_, fun h => ⟨fun h2 => ?_, fun h2 => ?_⟩⟩, fun h => by cases h⟩
   all_goals simp only [zdg]
   all_goals simp_all [ylj, ilt, ieq]
 · refine ⟨trivial, fun h => (by cases h), fun _ => ⟨trivial, rfl, fun h => ?_, fun h => ⟨rfl, fun h2 => ?_, fun h2 => ?_⟩⟩⟩
   all_goals simp only [zdg]
   all_goals simp_all [ylj, ilt, ieq]
def ygs (p : Int) (three : Bool) : Nat -> Int -> Int
 | 0, x => x
 | f + 1, x => ygs p three f (if ylj (bor .u64 x (2 ^ f)) p three = true then x else bor .u64 x (2 ^ f))
def yey (k n : Nat) : Nat := k + 0 * n
theorem zti (k n : Nat) : yey k n = k := by rw [yey, Nat.zero_mul]; rfl
def zfo (p : Int) (three : Bool) : Int := ygs p three (yey 37 p.toNat) 0 % 4294967296
theorem zp4 (p : Int) (three : Bool) : zfo p three = ygs p three 37 0 % 4294967296 := by rw [zfo, zti]
def zte (p : Int) (three : Bool) (x : Int × Nat) : Prop := x.2 <= 36 /\ ygs p three (x.2 + 1) x.1 = ygs p three 37 0
def zso (f : Nat) : Int := 2 ^ f
def lstA (L : za9) (p : Int) (t : Bool) : Nat -> St -> Option Ann := fun id st => match id with
 | 0 => some ⟨Int × Nat, fun x => [(5, .int .u64 (L Prod.fst x)), (6, .int .u64 (L zso (L Prod.snd x)))], fun _ => [], [0, 1], [], fun x => L3 L zte p t x, fun x => L Prod.snd x⟩
 | _ => none
theorem zza : ∀ f : _root_.Fin 37, zqh .u64 (zso f.val) 1 = if f.val = 0 then 0 else zso (f.val - 1) := by decide +kernel
theorem zsn (f : Nat) : 0 < zso f := by unfold zso; exact Int.pow_pos (by decide)
theorem zj1 {f : Nat} (h : f <= 36) : zqh .u64 (zso f) 1 = if f = 0 then 0 else zso (f - 1) := zza ⟨f, by omega⟩
theorem ztd {p : Int} {t : Bool} {x : Int} {f : Nat} (h : zte p t (x, f)) (h0 : ¬ f = 0) : zte p t ((if ylj (bor .u64 x (zso f)) p t = true then x else bor .u64 x (zso f)), f - 1) := by
 obtain ⟨h1, h2⟩ := h
 refine ⟨by show f - 1 <= 36; have : f <= 36 := h1; omega, ?_⟩
 rw [<- h2]
 show ygs p t (f - 1 + 1) _ = ygs p t (f + 1) x
 rw [show f - 1 + 1 = f by omega]
 rfl
theorem yad {p : Int} {t : Bool} {x : Int} {f : Nat} (h : zte p t (x, f)) (h0 : f = 0) : (if ylj (bor .u64 x (zso f)) p t = true then x else bor .u64 x (zso f)) = ygs p t 37 0 := by
 obtain ⟨h1, h2⟩ := h
 subst h0
 rw [<- h2]; rfl
def znb (L : za9) : zet := (90, fun xs => match xs with | [.int .u64 p, .bool t] => some (True, .int .u32 (L2 L zfo p t)) | _ => none)
theorem zlp : zgh Try.prog (znb std) := by
 intro xs p r h hp
 dsimp only [znb] at h |-
 split at h <;> cases h
 try simp only [L2, L3, std] at hp |-
 rename_i p t
 refine zah (T := tt) (S := fun L => zdk [ykz L]) (lo := noA) (lb := fun L => lstA L p t) 5 (fn := Try.f90) rfl rfl (by kernel_rfl) (by kernel_rfl) rfl zaq (zas ⟨yg3, trivial⟩) (by kernel_rfl) ?_
 intro L P' Q' hL hP hQ
 (cbv; try simp only [syT, true_and, and_true])
 refine ⟨fun x hx => ?_, ⟨(0, 36), ?_⟩⟩
 · cbv at hx
   obtain ⟨y1, hy1⟩ : ∃ y : Int × Nat, y = (bor .u64 x.1 (zso x.2), x.2 - 1) := ⟨_, rfl⟩
   obtain ⟨y2, hy2⟩ : ∃ y : Int × Nat, y = (x.1, x.2 - 1) := ⟨_, rfl⟩
   (cbv; try simp only [syT, true_and, and_true])
   refine ⟨fun h1 => ⟨?_, fun h2 => ⟨y1, ?_⟩, fun h2 => ?_⟩, fun h1 => ⟨?_, fun h2 => ⟨y2, ?_⟩, fun h2 => ?_⟩⟩
   all_goals (try (cbv; try simp only [syT, true_and, and_true]))
   all_goals (obtain ⟨x, f⟩ := x; (subst hL; subst hQ; simp only [L2, L3, std] at *; try simp only [syS, reduceCtorEq, Int.reduceToNat, Int.reduceAdd, Int.reduceSub] at *))
   · decide
   · rw [zj1 hx.1] at h2 |-
     have h0 : ¬ f = 0 := by intro h0; rw [if_pos h0] at h2; omega
     have := ztd hx h0
     rw [if_neg (by simpa using h1)] at this
     rw [if_neg h0, hy1]
     have hf : f <= 36 := hx.1
     exact ⟨rfl, rfl, this, by show f - 1 + 1 <= f; omega⟩
   · rw [zj1 hx.1] at h2
     have h0 : f = 0 := by
       by_cases h0 : f = 0
       · exact h0
       · rw [if_neg h0] at h2
         exact absurd h2 (by
           have := zsn (f - 1)
           show ¬ zso (f - 1) <= 0
           omega)
     have := yad hx h0
     rw [if_neg (by simpa using h1)] at this
     rw [this, zp4]
   · decide
   · rw [zj1 hx.1] at h2 |-
     have h0 : ¬ f = 0 := by intro h0; rw [if_pos h0] at h2; omega
     have := ztd hx h0
     rw [if_pos (by simpa using h1)] at this
     rw [if_neg h0, hy2]
     exact ⟨rfl, rfl, this, by show f - 1 + 1 <= f; omega⟩
   · rw [zj1 hx.1] at h2
     have h0 : f = 0 := by
       by_cases h0 : f = 0
       · exact h0
       · rw [if_neg h0] at h2
         exact absurd h2 (by
           have := zsn (f - 1)
           show ¬ zso (f - 1) <= 0
           omega)
     have := yad hx h0
     rw [if_pos (by simpa using h1)] at this
     rw [this, zp4]
 · (cbv; try simp only [syT, true_and, and_true])
   (subst hL; subst hQ; simp only [L2, L3, std] at *; try simp only [syS, reduceCtorEq, Int.reduceToNat, Int.reduceAdd, Int.reduceSub] at *)
   exact ⟨by decide, by decide, rfl⟩
def prF (n : Int) : Nat -> Int -> Bool
 | 0, _ => false
 | f + 1, d => if d * d <= n then (if n % d = 0 then false else prF n f (d + 1)) else decide (1 < n)
def zf9 (n : Int) : Bool := prF n (yey 38 n.toNat) 2
theorem zz7 (n : Int) : prF n 38 2 = zf9 n := by rw [zf9, zti]
def ypo (n : Int) (d : Nat) : Prop := 2 <= d /\ d <= 33 /\ prF n (40 - d) d = zf9 n
def prA (L : za9) (n : Int) : Nat -> St -> Option Ann := fun id st => match id with
 | 0 => some ⟨Nat, fun d => [(3, .int .u64 (L zaa d))], fun _ => [], [0], [], fun d => L2 L ypo n d, fun d => L (fun d : Nat => 40 - d) d⟩
 | _ => none
def zr0 (L : za9) : zet := (91, fun xs => match xs with | [.int .u64 n] => some (L (fun n : Int => 0 <= n /\ n <= 1000) n, .bool (L zf9 n)) | _ => none)
theorem zvg : zgh Try.prog (zr0 std) := by
 intro xs p r h hp
 dsimp only [zr0] at h |-
 split at h <;> cases h
 try simp only [L2, L3, std] at hp |-
 rename_i n
 have hn : 0 <= n /\ n <= 1000 := hp
 refine zah (T := tt) (S := noS) (lo := fun L => prA L n) (lb := noA) 5 (fn := Try.f91) rfl rfl (by kernel_rfl) (by kernel_rfl) rfl zaq (zid _) (by kernel_rfl) ?_
 intro L P' Q' hL hP hQ
 (cbv; try simp only [syT, true_and, and_true])
 refine ⟨⟨2, ?_⟩, fun d hd => ?_⟩
 · (cbv; try simp only [syT, true_and, and_true])
   (subst hL; subst hQ; simp only [L2, L3, std] at *; try simp only [syS, reduceCtorEq, Int.reduceToNat, Int.reduceAdd, Int.reduceSub] at *)
   exact ⟨by decide, by decide, zz7 n⟩
 · cbv at hd
   (cbv; try simp only [syT, true_and, and_true])
   refine ⟨fun h1 => ⟨?_, fun h2 => ?_, fun h2 => ⟨d + 1, ?_⟩⟩, fun h1 => ?_⟩
   all_goals (try (cbv; try simp only [syT, true_and, and_true]))
   all_goals (subst hL; subst hQ; simp only [L2, L3, std] at *; try simp only [syS, reduceCtorEq, Int.reduceToNat, Int.reduceAdd, Int.reduceSub] at *)
   all_goals (obtain ⟨i1, i2, i3⟩ := hd)
   all_goals (have hdd : d * d <= 33 * 33 := Nat.mul_le_mul i2 i2)
   all_goals (have hd2 : ((d : Nat) : Int) * ((d : Nat) : Int) = ((d * d : Nat) : Int) := by simp)
   all_goals (rw [show 40 - d = (39 - d) + 1 by omega, prF, hd2] at i3)
   all_goals (try rw [hd2] at h1)
   · omega
   · rw [if_pos (by omega)] at i3
     rw [Int.tmod_eq_emod_of_nonneg hn.1] at h2
     rw [if_pos h2] at i3
     exact i3
   · rw [if_pos (by omega)] at i3
     rw [Int.tmod_eq_emod_of_nonneg hn.1] at h2
     rw [if_neg h2] at i3
     have h31 : d <= 31 := by
       apply Nat.le_of_not_lt
       intro h
       have : 32 * 32 <= d * d := Nat.mul_le_mul h h
       omega
     refine ⟨by omega, ⟨by omega, by omega, ?_⟩, by omega⟩
     rw [show 40 - (d + 1) = 39 - d by omega, <- i3]
     congr 1
   · rw [if_neg (by omega)] at i3
     rw [<- i3]; rfl
def zpc : List Int := [0x428a2f98, 0x71374491, 0xb5c0fbcf, 0xe9b5dba5, 0x3956c25b, 0x59f111f1, 0x923f82a4, 0xab1c5ed5,
 0xd807aa98, 0x12835b01, 0x243185be, 0x550c7dc3, 0x72be5d74, 0x80deb1fe, 0x9bdc06a7, 0xc19bf174,
 0xe49b69c1, 0xefbe4786, 0x0fc19dc6, 0x240ca1cc, 0x2de92c6f, 0x4a7484aa, 0x5cb0a9dc, 0x76f988da,
 0x983e5152, 0xa831c66d, 0xb00327c8, 0xbf597fc7, 0xc6e00bf3, 0xd5a79147, 0x06ca6351, 0x14292967,
 0x27b70a85, 0x2e1b2138, 0x4d2c6dfc, 0x53380d13, 0x650a7354, 0x766a0abb, 0x81c2c92e, 0x92722c85,
 0xa2bfe8a1, 0xa81a664b, 0xc24b8b70, 0xc76c51a3, 0xd192e819, 0xd6990624, 0xf40e3585, 0x106aa070,
 0x19a4c116, 0x1e376c08, 0x2748774c, 0x34b0bcb5, 0x391c0cb3, 0x4ed8aa4a, 0x5b9cca4f, 0x682e6ff3,
 0x748f82ee, 0x78a5636f, 0x84c87814, 0x8cc70208, 0x90befffa, 0xa4506ceb, 0xbef9a3f7, 0xc67178f2]
def zm1 : List Int := [0x6a09e667, 0xbb67ae85, 0x3c6ef372, 0xa54ff53a, 0x510e527f, 0x9b05688c, 0x1f83d9ab, 0x5be0cd19]
def zih : Nat -> Nat
 | 0 => 0
 | n + 1 => if zf9 n = true then zih n + 1 else zih n
def zdm : Nat -> List Int
 | 0 => List.replicate 64 0
 | n + 1 => if zf9 n = true then (zdm n).set (zih n) (zfo n true) else zdm n
theorem zka : ∀ n, (zdm n).length = 64
 | 0 => by rw [zdm, List.length_replicate]
 | n + 1 => by
   rw [zdm]
   split
   · rw [List.length_set, zka n]
   · exact zka n
theorem yf1 : zdm 312 = zpc := by decide +kernel
theorem cnt_311 : zih 311 = 63 /\ zih 312 = 64 := by decide +kernel
theorem yfu : ∀ {m n : Nat}, m <= n -> zih m <= zih n := by
 intro m n h
 induction h with
 | refl => exact Nat.le_refl _
 | step h ih =>
   rename_i k
   rw [zih]
   split <;> omega
def ygw (n : Nat) : Prop := 2 <= n /\ n <= 311 /\ zih n <= 63
def zin (n : Nat) : Int := zih n
def keyA (L : za9) : Nat -> St -> Option Ann := fun id st => match id with
 | 0 => some ⟨Nat, fun n => [(2, .int .u64 (L zaa n)), (3, .int .i64 (L zin n)), (1, .ref 1 0)], fun n => [(1, .row 116 1 64 (fun i _ => .int .u32 (L2 L za6 (L zdm n) i)))], [0], [0], fun n => L ygw n, fun n => L (fun n : Nat => 312 - n) n⟩
 | _ => none
def ztn (L : za9) : zet := (78, fun xs => match xs with | [] => some (True, .arr 64 (fun j => .int .u32 (L2 L za6 zpc j))) | _ => none)
theorem zzo {l : List Int} {k : Nat} {v : Int} (h : k < l.length) : za6 (l.set k v) k = v := by
 rw [za6, List.getD_eq_getElem?_getD, List.getElem?_set_self h]; rfl
theorem yiz {l : List Int} {k i : Nat} {v : Int} (h : k ≠ i) : za6 (l.set k v) i = za6 l i := by
 rw [za6, za6, List.getD_eq_getElem?_getD, List.getD_eq_getElem?_getD, List.getElem?_set_ne h]
theorem yjk : zdm 2 = List.replicate 64 0 /\ 0 = zin 2 /\ zih 2 <= 63 := by decide +kernel
theorem ygv {n : Nat} (h : n <= 311) (hc : zih (n + 1) < 64) : n + 1 <= 311 := by
 rcases Nat.lt_or_eq_of_le h with h | h
 · exact h
 · rw [h] at hc
   exact absurd (cnt_311.2 ▸ hc : (64 : Nat) < 64) (by decide)
theorem ynb {n : Nat} (h : n <= 311) (hc : 64 <= zih (n + 1)) : zdm (n + 1) = zpc := by
 rcases Nat.lt_or_eq_of_le h with h | h
 · have h2 := Nat.le_trans hc (yfu h)
   rw [cnt_311.1] at h2
   exact absurd h2 (by decide)
 · rw [h]; exact yf1
theorem yjj {n : Nat} (h : zf9 n = true) : zih (n + 1) = zih n + 1 /\ zdm (n + 1) = (zdm n).set (zih n) (zfo n true) := by
 rw [zih, zdm, if_pos h, if_pos h]; exact ⟨rfl, rfl⟩
theorem k_no {n : Nat} (h : zf9 n = false) : zih (n + 1) = zih n /\ zdm (n + 1) = zdm n := by
 rw [zih, zdm, if_neg (by rw [h]; decide), if_neg (by rw [h]; decide)]; exact ⟨rfl, rfl⟩
theorem yi7 {l : List Int} {k i : Nat} (v : Int) (hk : k < l.length) : over std k 0 1 [.int .u32 v] (fun i x => .int .u32 (za6 l i)) i 0 = .int .u32 (za6 (l.set k v) i) := by
 rw [ze5, if_pos ⟨Nat.le_refl _, by omega⟩]
 by_cases hi2 : i = k
 · subst hi2
   rw [za3, zzo hk]; rfl
 · rw [za8 hi2, yiz (fun h => hi2 h.symm)]; rfl
theorem yna {n i : Nat} (h : zf9 n = true) (hc : zih n < 64) : over std (zin n).toNat 0 1 [.int .u32 (zfo n true)] (fun i x => .int .u32 (za6 (zdm n) i)) i 0 = .int .u32 (za6 (zdm (n + 1)) i) := by
 rw [(yjj h).2]
 have e : (zin n).toNat = zih n := Int.toNat_natCast _
 rw [e]
 have hl : zih n < (zdm n).length := by rw [zka]; exact hc
 generalize zfo n true = v
 generalize zdm n = l at hl |-
 generalize zih n = k at hl |-
 exact yi7 v hl
theorem k_go {n n' : Nat} (hn : n' = n + 1) (hi : ygw n) (h1 : zf9 n = true) (h2 : zin n + 1 < 64) : (∀ i, over std (zin n).toNat 0 1 [.int .u32 (zfo n true)] (fun i x => .int .u32 (za6 (zdm n) i)) i 0 = .int .u32 (za6 (zdm n') i)) /\ zin n + 1 = zin n' /\ ygw n' /\ 312 - n' < 312 - n := by
 subst hn
 obtain ⟨i1, i2, i3⟩ := hi
 obtain ⟨h3, -⟩ := yjj h1
 have h2' : zih n + 1 < 64 := by unfold zin at h2; omega
 have h5 := ygv i2 (by rw [h3]; omega)
 refine ⟨fun i => yna h1 (by omega), ?_, ⟨by omega, h5, by rw [h3]; omega⟩, by omega⟩
 unfold zin
 rw [h3]; rfl
theorem yq8 {n : Nat} (hi : ygw n) (h1 : zf9 n = true) (h2 : ¬ zin n + 1 < 64) (j : Nat) : over std (zin n).toNat 0 1 [.int .u32 (zfo n true)] (fun i x => .int .u32 (za6 (zdm n) i)) j 0 = .int .u32 (za6 zpc j) := by
 obtain ⟨i1, i2, i3⟩ := hi
 obtain ⟨h3, -⟩ := yjj h1
 have h2' : 64 <= zih n + 1 := by unfold zin at h2; omega
 rw [yna h1 (by omega), ynb i2 (by rw [h3]; omega)]
theorem yq7 {n n' : Nat} (hn : n' = n + 1) (hi : ygw n) (h1 : zf9 n = false) (h2 : zin n < 64) : zdm n = zdm n' /\ zin n = zin n' /\ ygw n' /\ 312 - n' < 312 - n := by
 subst hn
 obtain ⟨i1, i2, i3⟩ := hi
 obtain ⟨h3, h4⟩ := k_no h1
 have h5 := ygv i2 (by rw [h3]; omega)
 refine ⟨h4.symm, ?_, ⟨by omega, h5, by rw [h3]; omega⟩, by omega⟩
 unfold zin
 rw [h3]
theorem yq6 {n : Nat} (hi : ygw n) : 2 <= n /\ n <= 311 /\ 0 <= zin n /\ zin n <= 63 := by
 obtain ⟨i1, i2, i3⟩ := hi
 refine ⟨i1, i2, Int.natCast_nonneg _, ?_⟩
 unfold zin; omega
theorem yq9 {n : Nat} (hn : n = 2) : (∀ i, i < 64 -> za6 (zdm n) i = 0) /\ zin n = 0 /\ ygw n /\ (n : Int) = 2 := by
 subst hn
 refine ⟨fun i hi => ?_, yjk.2.1.symm, ⟨by decide, by decide, yjk.2.2⟩, rfl⟩
 rw [yjk.1, za6, List.getD_eq_getElem?_getD, List.getElem?_replicate, if_pos hi]; rfl
theorem zpa : zgh Try.prog (ztn std) := by
 intro xs p r h hp
 dsimp only [ztn] at h |-
 split at h <;> cases h
 try simp only [L2, L3, std] at hp |-
 refine zah (T := tt) (S := fun L => zdk [zr0 L, znb L]) (lo := noA) (lb := keyA) 5 (fn := Try.f78) rfl rfl (by kernel_rfl) (by kernel_rfl) rfl zaq (zas ⟨zvg, zlp, trivial⟩) (by kernel_rfl) ?_
 intro L P' Q' hL hP hQ
 obtain ⟨n0, hn0⟩ : ∃ n0 : Nat, n0 = 2 := ⟨_, rfl⟩
 (cbv; try simp only [syT, true_and, and_true])
 refine ⟨fun n hn => ?_, ⟨n0, ?_⟩⟩
 · obtain ⟨n', hn'⟩ : ∃ n' : Nat, n' = n + 1 := ⟨_, rfl⟩
   (cbv; try simp only [syT, true_and, and_true])
   refine ⟨?_, fun h1 => ⟨?_, fun h2 => ⟨n', ?_⟩, fun h2 => ?_⟩, fun h1 => ⟨fun h2 => ⟨n', ?_⟩, fun h2 => ?_⟩⟩
   all_goals (try (cbv; try simp only [syT, true_and, and_true]))
   all_goals (subst hL; subst hQ; simp only [L2, L3, std] at *; try simp only [syS, reduceCtorEq, Int.reduceToNat, Int.reduceAdd, Int.reduceSub] at *)
   all_goals (obtain ⟨r1, r2, r3, r4⟩ := yq6 hn)
   · omega
   · omega
   · rw [show (zin n + 1 + 9223372036854775808) % 18446744073709551616 - 9223372036854775808 = zin n + 1 by omega] at h2 |-
     obtain ⟨e1, e2, e3, e4⟩ := k_go hn' hn h1 h2
     refine ⟨fun i j hi hj => ?_, e2, by omega, e3, by omega⟩
     have : j = 0 := by omega
     subst this
     exact e1 i
   · rw [show (zin n + 1 + 9223372036854775808) % 18446744073709551616 - 9223372036854775808 = zin n + 1 by omega] at h2
     intro j hj
     exact yq8 hn h1 (by omega) j
   · obtain ⟨e1, e2, e3, e4⟩ := yq7 hn' hn h1 h2
     exact ⟨fun i j hi hj => by rw [e1], e2, by omega, e3, by omega⟩
   · exfalso; omega
 · (cbv; try simp only [syT, true_and, and_true])
   (subst hL; subst hQ; simp only [L2, L3, std] at *; try simp only [syS, reduceCtorEq, Int.reduceToNat, Int.reduceAdd, Int.reduceSub] at *)
   obtain ⟨e1, e2, e3, e4⟩ := yq9 hn0
   refine ⟨fun i j hi hj => ?_, e2.symm, e4.symm, e3⟩
   have : j = 0 := by omega
   subst this
   rw [e1 i hi]; rfl
end Sy
end Go.Proofs.Ytogomcfgfnlclaa
namespace Go.Proofs.Ytogomcfgfnlclaa
namespace Sy
open Go Go.RowKit
end Sy
end Go.Proofs.Ytogomcfgfnlclaa
namespace Go.Proofs.Ytogomcfgfnlclaa
namespace Sy
open Go Go.RowKit
set_option maxRecDepth 100000
set_option linter.unusedSimpArgs false
set_option linter.unusedVariables false
def ycn (a b : List UInt8) : Bool := a.take b.length == b
def zz9 (a b : List UInt8) : Prop := a.length <= 1000000000 /\ b.length <= 1000000000
def zsm (L : za9) : zet := (74, fun xs => match xs with | [.str a, .str b] => some (L2 L zz9 a b, .bool (L2 L ycn a b)) | _ => none)
def yiv (L : za9) : zet := (62, fun xs => match xs with | [.str a, .str b] => some (L2 L zz9 a b, .bool (L2 L ycn a b)) | _ => none)
theorem zom : zgh Try.prog (zsm std) := by
 intro xs p r h hp
 dsimp only [zsm] at h |-
 split at h <;> cases h
 try simp only [L2, L3, std] at hp |-
 rename_i a b
 refine zah (T := tt) (S := noS) (lo := noA) (lb := noA) 5 (fn := Try.f74) rfl rfl (by kernel_rfl) (by kernel_rfl) rfl zaq (zid _) (by kernel_rfl) ?_
 (intro L P1 Q1 hL hP hQ; cbv; subst hL; simp only [L2, L3, std, syT]; subst hQ)
 (simp only [syS, reduceCtorEq, Int.reduceToNat, Int.reduceAdd, Int.reduceSub])
 exact ⟨fun h => ⟨by omega, rfl⟩, fun h => by
   have : ¬ a.take b.length = b := fun e => by have := congrArg List.length e; simp at this; omega
   simp [ycn, this]⟩
theorem ydz : zgh Try.prog (yiv std) := by
 intro xs p r h hp
 dsimp only [yiv] at h |-
 split at h <;> cases h
 try simp only [L2, L3, std] at hp |-
 rename_i a b
 refine zah (T := tt) (S := fun L => zdk [zsm L]) (lo := noA) (lb := noA) 5 (fn := Try.f62) rfl rfl (by kernel_rfl) (by kernel_rfl) rfl zaq (zas ⟨zom, trivial⟩) (by kernel_rfl) ?_
 (intro L P1 Q1 hL hP hQ; cbv; subst hL; simp only [L2, L3, std, syT]; subst hQ)
 (simp only [syS, reduceCtorEq, Int.reduceToNat, Int.reduceAdd, Int.reduceSub])
 exact hp
def toS : AV -> List UInt8
 | .str s => s
 | _ => []
def zed (n : Nat) (get : Nat -> Nat -> AV) : List (List UInt8) := (List.range n).map fun i => toS (get i 0)
theorem yo4 {h : Array Obj} {D : Nat -> Prop} {x y : AV} {vs : Array Value} (hr : RL h D zap [x, y] vs) : ∃ a b, vs = #[a, b] /\ R h D zap x a /\ R h D zap y b := by
 obtain ⟨hl, hr⟩ := hr
 obtain ⟨a, b, ha⟩ : ∃ a b, vs.toList = [a, b] := by
   have hl : vs.toList.length = 2 := by simpa using hl.symm
   match vs.toList, hl with
   | [a, b], _ => exact ⟨a, b, rfl⟩
 have : vs = #[a, b] := by rw [<- Array.toArray_toList (xs := vs), ha]
 subst this
 exact ⟨a, b, rfl, hr 0 x a rfl rfl, hr 1 y b rfl rfl⟩
def zni (x : AV) : List UInt8 := match x with
 | .lst _ n get => (zed n get).flatten
 | _ => []
def zfq (x : AV) : Prop := match x with
 | .lst 1 n get => (∀ i, i < n -> ∃ s, get i 0 = .str s) /\ n <= 1000000 /\ (zed n get).flatten.length <= 1000000
 | .nils => True
 | _ => False
theorem zpg (l : List (List UInt8)) : Lib.join l [] = l.flatten := by
 unfold Lib.join
 induction l with
 | nil => rfl
 | cons x l ih =>
   cases l with
   | nil => simp
   | cons y l => rw [List.intercalate_cons_cons, ih]; simp
def ztp (L : za9) : zet := (76, fun xs => match xs with | [x, .str []] => some (L zfq x, .str (L zni x)) | _ => none)
theorem zpe : zgh Try.prog (ztp std) := by
 intro xs p r h hp
 dsimp only [ztp] at h |-
 split at h <;> cases h
 try simp only [L2, L3, std] at hp |-
 rename_i x
 have hp : zfq x := hp
 intro D w vs hD hxs hg
 obtain ⟨a, b, rfl, rx, ry⟩ := yo4 hxs
 obtain rfl := zxe ry
 unfold zfd
 rw [zcr (fn := Try.f76) rfl (by kernel_rfl) rfl]
 have fin : ∀ (l : List UInt8), l = zni x -> (∀ w', Below w.heap.size w w' -> ∃ v D', Ending.returned (.string ⟨l.toArray⟩) = .returned v /\ Below w.heap.size w w' /\ (∀ b, D b -> D' b) /\ (∀ b, D' b -> D b \/ (w.heap.size <= b /\ b < w'.heap.size)) /\ R w'.heap D' zap (.str (zni x)) v) := by
   rintro l rfl w' hw
   exact ⟨_, D, rfl, hw, fun _ h => h, fun b hb => .inl hb, zud _ _ _ _⟩
 have none_ : zni x = [] -> ∀ (a : Option Addr) (c : Nat), Calls Try.prog 76 #[.slice a 0 c, .string ⟨#[]⟩] w fun e w' => ∃ v D', e = .returned v /\ Below w.heap.size w w' /\ (∀ b, D b -> D' b) /\ (∀ b, D' b -> D b \/ (w.heap.size <= b /\ b < w'.heap.size)) /\ R w'.heap D' zap (.str (zni x)) v := by
   intro h0 a c
   refine (Try.strings_Join_none a c ⟨#[]⟩ w).mono ?_
   rintro e w' ⟨rfl, rfl⟩
   exact fin [] h0.symm _ (Below.refl _ _)
 unfold zfq at hp
 split at hp
 · rename_i n get _
   obtain ⟨h1, h2, h3⟩ := hp
   cases rx with
   | lst0 => exact none_ rfl _ _
   | lst _ _ _ b o cap us hD0 hc hv h1' hr =>
     have hl : (zed n get).length = n := by rw [zed, List.length_map, List.length_range]
     have hq : ∀ j x, ((zed n get).map (fun s : List UInt8 => (⟨s.toArray⟩ : ByteArray)))[j]? = some x -> w.cell? ⟨b, o + j, none⟩ = some (.string x) := by
       intro j x hj
       have hjn : j < n := by
         have := (List.getElem?_eq_some_iff.1 hj).1
         rw [List.length_map, hl] at this
         exact this
       obtain ⟨s, hs⟩ := h1 j hjn
       have r := hr j 0 hjn (by omega)
       rw [hs] at r
       have hv := hv j 0 hjn (by omega)
       rw [zxe r, Nat.mul_one, Nat.add_zero] at hv
       rw [zec, hv]
       have e2 : (zed n get)[j]? = some s := by rw [zed, List.getElem?_map, List.getElem?_range hjn, Option.map_some, hs]; rfl
       rw [List.getElem?_map, e2] at hj
       cases hj
       rfl
     have hm : ((zed n get).map (fun s : List UInt8 => (⟨s.toArray⟩ : ByteArray))).map (·.data.toList) = zed n get := by
       rw [List.map_map]
       exact List.map_id' _
     have := Try.strings_Join b o cap ((zed n get).map (fun s : List UInt8 => (⟨s.toArray⟩ : ByteArray))) ⟨#[]⟩ w hq (hD b hD0) (by rw [List.length_map, hl]; omega) (by rw [List.length_map, hl]; exact hc) (by rw [hm]; show (Lib.join _ []).length <= _; rw [zpg]; omega)
     rw [hm, List.length_map, hl] at this
     refine this.mono ?_
     rintro e w' ⟨rfl, hw⟩
     exact fin _ (by show Lib.join _ [] = _; rw [zpg]; rfl) _ hw
 · cases rx
   exact none_ rfl _ _
 · exact hp.elim
def ypj (s : List UInt8) (c : Int) : List UInt8 := (List.replicate c.toNat s).flatten
theorem zyw (s : List UInt8) : ∀ c : Nat, Lib.repeatL s c = (List.replicate c s).flatten
 | 0 => rfl
 | c + 1 => by rw [Lib.repeatL, zyw s c, List.replicate_succ, List.flatten_cons]
def yir (s : List UInt8) (c : Int) : Prop := 0 <= c /\ c <= 1000000 /\ s.length <= 1000000
def yip (L : za9) : zet := (86, fun xs => match xs with | [.str s, .int .i64 c] => some (L2 L yir s c, .str (L2 L ypj s c)) | _ => none)
theorem ydv : zgh Try.prog (yip std) := by
 intro xs p r h hp
 dsimp only [yip] at h |-
 split at h <;> cases h
 try simp only [L2, L3, std] at hp |-
 rename_i s c
 obtain ⟨h0, h1, h2⟩ : yir s c := hp
 obtain ⟨k, rfl⟩ := zzv h0
 refine zd6 (fn := Try.f86) rfl rfl (by kernel_rfl) (yo5 (zgy _) (zgz _ _)) (fun h D => zud h D _ _) (fun w => ?_)
 have hs : (⟨s.toArray⟩ : ByteArray).size = s.length := by show s.toArray.size = s.length; simp
 have := Try.strings_Repeat ⟨s.toArray⟩ k w (by omega) (by
   rw [hs]
   have : s.length * k <= 1000000 * 1000000 := Nat.mul_le_mul h2 (by omega)
   omega)
 refine this.mono ?_
 rintro e w' ⟨rfl, hw⟩
 refine ⟨?_, hw⟩
 show Ending.returned (.string ⟨(Lib.repeatL s k).toArray⟩) = _
 rw [zyw]; rfl
def zzd (s : List UInt8) : List UInt8 := s ++ [128] ++ List.replicate ((64 - (s.length + 9) % 64) % 64) 0 ++ zz3 (s.length * 8) 8
theorem zyv (n : Nat) : (List.replicate n [(0 : UInt8)]).flatten = List.replicate n 0 := by
 induction n with
 | zero => rfl
 | succ n ih => rw [List.replicate_succ, List.flatten_cons, ih, List.replicate_succ]; rfl
theorem zjr (e n : Int) (h0 : 0 <= n) (h8 : n <= 8) : (zz3 e n).length = n.toNat := by
 rw [zz3, zjs]
 unfold cl8
 omega
theorem ypq (n : Nat) (h : n <= 1000000) : ((64 - ((((n : Int) + 1 + 9223372036854775808) % 18446744073709551616 - 9223372036854775808 + 8 + 9223372036854775808) % 18446744073709551616 - 9223372036854775808).tmod 64 + 9223372036854775808) % 18446744073709551616 - 9223372036854775808).tmod 64 = (((64 - (n + 9) % 64) % 64 : Nat) : Int) := by
 have h1 : ((((n : Int) + 1 + 9223372036854775808) % 18446744073709551616 - 9223372036854775808 + 8 + 9223372036854775808) % 18446744073709551616 - 9223372036854775808) = ((n + 9 : Nat) : Int) := by omega
 rw [h1, Int.tmod_eq_emod_of_nonneg (a := ((n + 9 : Nat) : Int)) (by omega)]
 have h2 : (64 - ((n + 9 : Nat) : Int) % 64 + 9223372036854775808) % 18446744073709551616 - 9223372036854775808 = ((64 - (n + 9) % 64 : Nat) : Int) := by omega
 rw [h2, Int.tmod_eq_emod_of_nonneg (by omega)]
 omega
theorem yiq {k : Nat} (h : k < 64) : yir [0] (k : Int) := ⟨Int.natCast_nonneg _, by omega, by decide⟩
theorem len8 (n : Nat) (h : n <= 1000000) : (n : Int) % 18446744073709551616 * 8 % 18446744073709551616 = (n : Int) * 8 := by omega
def zmd (L : za9) : zet := (75, fun xs => match xs with | [.str s] => some (L2 L upto 1000000 s, .str (L zzd s)) | _ => none)
theorem zlb : zgh Try.prog (zmd std) := by
 intro xs p r h hp
 dsimp only [zmd] at h |-
 split at h <;> cases h
 try simp only [L2, L3, std] at hp |-
 rename_i s
 refine zah (T := tt) (S := fun L => zdk [yip L, zve L]) (lo := noA) (lb := noA) 5 (fn := Try.f75) rfl rfl (by kernel_rfl) (by kernel_rfl) rfl zaq (zas ⟨ydv, ziv, trivial⟩) (by kernel_rfl) ?_
 have hl : s.length <= 1000000 := hp
 have hpn := ypq s.length hl
 have hl8 := len8 s.length hl
 (intro L P1 Q1 hL hP hQ; cbv; subst hL; simp only [L2, L3, std, syT]; subst hQ)
 (simp only [syS, reduceCtorEq, Int.reduceToNat, Int.reduceAdd, Int.reduceSub])
 rw [hpn, hl8]
 have hz : zzd s = s ++ [128] ++ List.replicate ((64 - (s.length + 9) % 64) % 64) 0 ++ zz3 (s.length * 8) 8 := rfl
 rw [hz]
 have hk : (64 - (s.length + 9) % 64) % 64 < 64 := Nat.mod_lt _ (by decide)
 generalize (64 - (s.length + 9) % 64) % 64 = k at hk |-
 have hr : ypj [0] (k : Int) = List.replicate k 0 := by
   rw [ypj, Int.toNat_natCast, zyv]
 rw [hr]
 have hput := zjr ((s.length : Int) * 8) 8 (by decide) (by decide)
 simp only [List.length_append, List.length_replicate, List.length_cons, List.length_nil, hput]
 refine ⟨by omega, by decide, by decide, yiq hk, by omega, ⟨by omega, by omega, by decide, by decide⟩, by omega, trivial⟩
def yoi (s : List UInt8) : Nat := (64 - (s.length + 9) % 64) % 64
def zig (n : Nat) : List Int := zm1.take n
def frA (L : za9) : Nat -> St -> Option Ann := fun id st => match id with
 | 0 => some ⟨Nat, fun n => [(5, .int .i64 (L zaa n))], fun n => [(1, .row 114 1 8 (fun i _ => .int .u32 (L2 L za6 (L zig n) i)))], [0, 1, 4], [0], fun n => L (fun n : Nat => n <= 8) n, fun n => L (fun n : Nat => 8 - n) n⟩
 | _ => none
def w8 (g : Nat -> AV) : AV := .agg [g 0, g 1, g 2, g 3, g 4, g 5, g 6, g 7]
theorem yfm : ∀ n : _root_.Fin 8, zfo (za6 [2, 3, 5, 7, 11, 13, 17, 19] n.val) false = za6 zm1 n.val := by decide +kernel
theorem yb9 {n n' i : Nat} (hn : n' = n + 1) (h : n < 8) (hi : i < 8) : over std n 0 1 [.int .u32 (zfo (za6 [2, 3, 5, 7, 11, 13, 17, 19] n) false)] (fun i x => .int .u32 (za6 (zig n) i)) i 0 = .int .u32 (za6 (zig n') i) := by
 rw [ze5, if_pos ⟨Nat.le_refl _, by omega⟩, yfm ⟨n, h⟩]
 subst hn
 have hl : zm1.length = 8 := rfl
 by_cases hi2 : i = n
 · subst hi2
   rw [za3]
   show AV.int .u32 (za6 zm1 i) = _
   rw [zig, za6, za6, List.getD_eq_getElem?_getD, List.getD_eq_getElem?_getD, List.getElem?_take_of_lt (by omega)]
 · rw [za8 hi2]
   show AV.int .u32 (za6 (zig n) i) = _
   congr 1
   rw [zig, zig, za6, za6, List.getD_eq_getElem?_getD, List.getD_eq_getElem?_getD]
   by_cases hlt : i < n
   · rw [List.getElem?_take_of_lt hlt, List.getElem?_take_of_lt (by omega)]
   · rw [List.getElem?_eq_none (by rw [List.length_take]; omega), List.getElem?_eq_none (by rw [List.length_take]; omega)]
def znp (L : za9) : zet := (77, fun xs => match xs with | [] => some (True, w8 fun i => .int .u32 (L2 L za6 zm1 i)) | _ => none)
theorem zm0 : zgh Try.prog (znp std) := by
 intro xs p r h hp
 dsimp only [znp] at h |-
 split at h <;> cases h
 try simp only [L2, L3, std] at hp |-
 refine zah (T := tt) (S := fun L => zdk [znb L]) (lo := frA) (lb := noA) 5 (fn := Try.f77) rfl rfl (by kernel_rfl) (by kernel_rfl) rfl zaq (zas ⟨zlp, trivial⟩) (by kernel_rfl) ?_
 intro L P' Q' hL hP hQ
 (cbv; try simp only [syT, true_and, and_true])
 refine ⟨⟨0, ?_⟩, fun n hn => ?_⟩
 · (cbv; try simp only [syT, true_and, and_true])
   (subst hL; subst hQ; simp only [L2, L3, std] at *; try simp only [syS, reduceCtorEq, Int.reduceToNat, Int.reduceAdd, Int.reduceSub] at *)
   exact ⟨fun i j hi hj => by
     have : j = 0 := by omega
     subst this
     simp [zig, za6]; rfl, by omega⟩
 · obtain ⟨n', hn'⟩ : ∃ n' : Nat, n' = n + 1 := ⟨_, rfl⟩
   (cbv; try simp only [syT, true_and, and_true])
   refine ⟨fun h1 => ⟨?_, ?_, n', ?_⟩, fun h1 => ?_⟩
   · (subst hL; subst hQ; simp only [L2, L3, std] at *; try simp only [syS, reduceCtorEq, Int.reduceToNat, Int.reduceAdd, Int.reduceSub] at *)
     omega
   · (subst hL; subst hQ; simp only [L2, L3, std] at *; try simp only [syS, reduceCtorEq, Int.reduceToNat, Int.reduceAdd, Int.reduceSub] at *)
     omega
   · (cbv; try simp only [syT, true_and, and_true])
     (subst hL; subst hQ; simp only [L2, L3, std] at *; try simp only [syS, reduceCtorEq, Int.reduceToNat, Int.reduceAdd, Int.reduceSub] at *)
     have h1 : n < 8 := by omega
     refine ⟨fun i j hi hj => ?_, by omega, by omega, by omega⟩
     have : j = 0 := by omega
     subst this
     exact yb9 hn' h1 hi
   · unfold w8 at hQ
     (subst hL; subst hQ; simp only [L2, L3, std] at *; try simp only [syS, reduceCtorEq, Int.reduceToNat, Int.reduceAdd, Int.reduceSub] at *)
     have : n = 8 := by omega
     subst this
     exact ⟨rfl, rfl, rfl, rfl, rfl, rfl, rfl, rfl⟩
def rlS (k : Int) : Int := zwr .u64 (IntKind.u64.wrap k) 31
def rlZ (x k : Int) : Int := bor .u32 (ycl .u32 x (rlS k)) (zqh .u32 x (zqb .u64 32 (rlS k)))
def yph (L : za9) : zet := (100, fun xs => match xs with | [.int .u32 x, .int .i64 k] => some (True, .int .u32 (L2 L rlZ x k)) | _ => none)
theorem zgj (a : Int) : 0 <= IntKind.u64.wrap a := Int.emod_nonneg _ (by decide)
theorem zva (k : Int) : 0 <= rlS k := zgj _
theorem yio : zgh Try.prog (yph std) := by
 intro xs p r h hp
 dsimp only [yph] at h |-
 split at h <;> cases h
 try simp only [L2, L3, std] at hp |-
 rename_i x k
 refine zah (T := tt) (S := noS) (lo := noA) (lb := noA) 5 (fn := Try.f100) rfl rfl (by kernel_rfl) (by kernel_rfl) rfl zaq (zid _) (by kernel_rfl) ?_
 (intro L P1 Q1 hL hP hQ; cbv; subst hL; simp only [L2, L3, std, syT]; subst hQ)
 refine ⟨decide_eq_true (zva k), decide_eq_true (zgj _), ?_⟩
 rw [zj4]
 rfl
def rotZ (x a b c : Int) (sh : Bool) : Int := yfy .u32 (yfy .u32 (rlZ x (zqb .i64 0 a)) (rlZ x (zqb .i64 0 b))) (if sh then zqh .u32 x c else rlZ x (zqb .i64 0 c))
def ymc (t : Int × Int × Int × Int × Bool) : Int := rotZ t.1 t.2.1 t.2.2.1 t.2.2.2.1 t.2.2.2.2
def yin (L : za9) : zet := (93, fun xs => match xs with | [.int .u32 x, .int .i64 a, .int .i64 b, .int .i64 c, .bool sh] => some (L (fun c : Int => 0 <= c) c, .int .u32 (L ymc (x, a, b, c, sh))) | _ => none)
theorem ydt : zgh Try.prog (yin std) := by
 intro xs p r h hp
 dsimp only [yin] at h |-
 split at h <;> cases h
 try simp only [L2, L3, std] at hp |-
 rename_i x a b c sh
 have hc : 0 <= c := hp
 refine zah (T := tt) (S := fun L => zdk [yph L]) (lo := noA) (lb := noA) 5 (fn := Try.f93) rfl rfl (by kernel_rfl) (by kernel_rfl) rfl zaq (zas ⟨yio, trivial⟩) (by kernel_rfl) ?_
 (intro L P1 Q1 hL hP hQ; cbv; subst hL; simp only [L2, L3, std, syT]; subst hQ)
 refine ⟨trivial, fun h => ⟨decide_eq_true hc, trivial, trivial, ?_⟩, fun h => ⟨trivial, trivial, ?_⟩⟩
 · rw [zj4]
   subst h; rfl
 · rw [zj4]
   subst h; rfl
def zww (s : List UInt8) (n : Int) : Int := IntKind.u32.wrap (getZ (yl6 s (zjb .i64 4 n) (wadd .i64 (zjb .i64 4 n) 4)))
def ye9 (l : List Int) (n : Nat) : Int := wadd .u32 (wadd .u32 (wadd .u32 (za6 l (n - 16)) (ymc (za6 l (n - 15), 7, 18, 3, true))) (za6 l (n - 7))) (ymc (za6 l (n - 2), 17, 19, 10, true))
def wN (s : List UInt8) : Nat -> List Int
 | 0 => []
 | n + 1 => wN s n ++ [if n < 16 then zww s n else ye9 (wN s n) n]
def zxf (v : List Int) (k w : Int) : Int := wadd .u32 (wadd .u32 (wadd .u32 (wadd .u32 (za6 v 7) (ymc (za6 v 4, 6, 11, 25, false))) (bor .u32 (zwr .u32 (za6 v 4) (za6 v 5)) (zwr .u32 (yfy .u32 4294967295 (za6 v 4)) (za6 v 6)))) k) w
def yhx (v : List Int) : Int := wadd .u32 (ymc (za6 v 0, 2, 13, 22, false)) (bor .u32 (zwr .u32 (za6 v 0) (za6 v 1)) (zwr .u32 (za6 v 2) (bor .u32 (za6 v 0) (za6 v 1))))
def yd8 (v : List Int) (k w : Int) : List Int :=
 [wadd .u32 (zxf v k w) (yhx v), za6 v 0, za6 v 1, za6 v 2, wadd .u32 (za6 v 3) (zxf v k w), za6 v 4, za6 v 5, za6 v 6]
def vN (w h : List Int) : Nat -> List Int
 | 0 => h
 | n + 1 => yd8 (vN w h n) (za6 zpc n) (za6 w n)
def vS (s : List UInt8) (h : List Int) (n : Nat) : List Int := vN (wN s 64) h n
def hN (h v : List Int) (n : Nat) : List Int := (List.range 8).map fun i => if i < n then wadd .u32 (za6 h i) (za6 v i) else za6 h i
def hS (s : List UInt8) (h : List Int) (n : Nat) : List Int := hN h (vS s h 64) n
def yol (h : List Int) (s : List UInt8) : List Int := hS s h 8
theorem zx1 (s : List UInt8) : ∀ n, (wN s n).length = n
 | 0 => rfl
 | n + 1 => by rw [wN, List.length_append, zx1 s n]; rfl
theorem ye7 {l : List Int} {v : Int} (i : Nat) : za6 (l ++ [v]) i = if i = l.length then v else za6 l i := by
 rw [za6, za6, List.getD_eq_getElem?_getD, List.getD_eq_getElem?_getD]
 by_cases h : i < l.length
 · rw [List.getElem?_append_left h, if_neg (by omega)]
 · rw [List.getElem?_append_right (by omega)]
   by_cases h2 : i = l.length
   · rw [if_pos h2, h2, Nat.sub_self]; rfl
   · rw [if_neg h2, List.getElem?_eq_none (by simp; omega), List.getElem?_eq_none (by omega)]
theorem ycb {l : List Int} {n : Nat} (v : Int) (hl : l.length = n) (i : Nat) : over std n 0 1 [.int .u32 v] (fun i _ => .int .u32 (za6 l i)) i 0 = .int .u32 (za6 (l ++ [v]) i) := by
 rw [ze5, if_pos ⟨Nat.le_refl _, by omega⟩, ye7, hl]
 by_cases hi2 : i = n
 · rw [if_pos hi2, hi2, za3]; rfl
 · rw [if_neg hi2, za8 hi2]; rfl
theorem yp2 {s : List UInt8} {n n' : Nat} (h : n' = n + 1) (h2 : n < 16) : wN s n' = wN s n ++ [zww s n] := by
 subst h; rw [wN, if_pos h2]
theorem yp3 {s : List UInt8} {n n' : Nat} (h : n' = n + 1) (h2 : ¬ n < 16) : wN s n' = wN s n ++ [ye9 (wN s n) n] := by
 subst h; rw [wN, if_neg h2]
def mixA (L : za9) (h : List Int) (s : List UInt8) : Nat -> St -> Option Ann := fun id st => match id with
 | 0 => some ⟨Nat, fun n => [(17, .int .i64 (L zaa n))], fun n => [(7, .row 116 1 64 (fun i _ => .int .u32 (L2 L za6 (L2 L wN s n) i)))], [1, 2, 3, 6, 7], [3, 6], fun n => L (fun n : Nat => n <= 16) n, fun n => L (fun n : Nat => 16 - n) n⟩
 | 2 => some ⟨Nat, fun n => [(11, .int .i64 (L zaa n))], fun n => [(7, .row 116 1 64 (fun i _ => .int .u32 (L2 L za6 (L2 L wN s n) i)))], [1, 2, 3, 6, 7], [3, 6], fun n => L (fun n : Nat => 16 <= n /\ n <= 64) n, fun n => L (fun n : Nat => 64 - n) n⟩
 | 4 => some ⟨Nat, fun n => [(64, .int .i64 (L zaa n))], fun n => [(12, .row 114 1 8 (fun i _ => .int .u32 (L2 L za6 (L3 L vS s h n) i)))], [1, 2, 3, 6, 7, 12], [3, 6, 7], fun n => L (fun n : Nat => n <= 64) n, fun n => L (fun n : Nat => 64 - n) n⟩
 | 6 => some ⟨Nat, fun n => [(127, .int .i64 (L zaa n))], fun n => [(3, .row 114 1 8 (fun i _ => .int .u32 (L2 L za6 (L3 L hS s h n) i)))], [3, 6, 12], [6, 12], fun n => L (fun n : Nat => n <= 8) n, fun n => L (fun n : Nat => 8 - n) n⟩
 | _ => none
def ync (n : Nat) (g : Nat -> AV) : Prop := n = 64 /\ ∀ j, j < 64 -> g j = .int .u32 (za6 zpc j)
def ypy (x : List Int × List UInt8) : List Int := yol x.1 x.2
def w8L (L : za9) (l : List Int) : AV := .agg [.int .u32 (L2 L za6 l 0), .int .u32 (L2 L za6 l 1), .int .u32 (L2 L za6 l 2), .int .u32 (L2 L za6 l 3), .int .u32 (L2 L za6 l 4), .int .u32 (L2 L za6 l 5), .int .u32 (L2 L za6 l 6), .int .u32 (L2 L za6 l 7)]
def yeg (L : za9) : zet := (79, fun xs => match xs with
 | [.agg [.int .u32 a0, .int .u32 a1, .int .u32 a2, .int .u32 a3, .int .u32 a4, .int .u32 a5, .int .u32 a6, .int .u32 a7], .iptr n g, .str s] => some (L2 L ync n g /\ L (fun s : List UInt8 => s.length = 64) s, w8L L (L ypy ([a0, a1, a2, a3, a4, a5, a6, a7], s)))
 | _ => none)
theorem ypi {h : Array Obj} {D : Nat -> Prop} {μ : Mu} {a x y : AV} {r : List AV} {vs : Array Value} (e : ∀ v, R h D μ x v -> R h D μ y v) (hr : RL h D μ (a :: x :: r) vs) : RL h D μ (a :: y :: r) vs := by
 refine ⟨by rw [<- hr.1]; rfl, fun i z v hz hv => ?_⟩
 match i, hz with
 | 0, hz => exact hr.2 0 z v hz hv
 | 1, hz => cases hz; exact e v (hr.2 1 x v rfl hv)
 | i + 2, hz => exact hr.2 (i + 2) z v hz hv
theorem yg2 {P : Program} {f : FuncId} {xs ys : List AV} {r : AV} (h : ∀ h D vs, RL h D zap xs vs -> RL h D zap ys vs) (ha : zbi P f ys r) : zbi P f xs r := fun D w vs hD hx => ha D w vs hD (h _ _ _ hx)
theorem yaq {h : Array Obj} {D : Nat -> Prop} {μ : Mu} {n : Nat} {g g' : Nat -> AV} {v : Value} (r : R h D μ (.iptr n g) v) (e : ∀ j, j < n -> g j = g' j) : R h D μ (.iptr n g') v := by
 cases r with
 | iptr _ _ b o vs hD hv h1 hr => exact .iptr n g' b o vs hD hv h1 (fun j hj => by rw [<- e j hj]; exact hr j hj)
theorem zi2 {n n' : Nat} (h : n' = n + 1) (h2 : n < 1000) : wadd .i64 (zaa n) 1 = zaa n' := by
 subst h; unfold zaa; rw [wadd, zgd]; omega
theorem zn0 {n k : Nat} {c : Int} (hc : c = (k : Int)) (h : k <= n) (h2 : n < 1000) : (zqb .i64 (zaa n) c).toNat = n - k := by
 subst hc; unfold zaa; rw [zqb, zgd]; omega
theorem zad {n k : Nat} (h : ilt (zaa n) (zaa k) = true) : n < k := by
 have := of_decide_eq_true h
 unfold zaa at this; omega
theorem zd2 {n k : Nat} (h : ilt (zaa n) (zaa k) = false) : ¬ n < k := by
 have := of_decide_eq_false h
 unfold zaa at this; omega
theorem zdb {n k : Nat} (h : n < k) : inR (zaa n) (zaa k) = true := by rw [zpj]; exact ⟨Int.natCast_nonneg _, by unfold zaa; omega⟩
theorem zpr {n : Nat} (h : n < 1000) : zjb .i64 4 (zaa n) = ((4 * n : Nat) : Int) /\ wadd .i64 (zjb .i64 4 (zaa n)) 4 = ((4 * n + 4 : Nat) : Int) := by
 have e : zjb .i64 4 (zaa n) = ((4 * n : Nat) : Int) := by rw [zjb, zgd, zaa]; omega
 rw [e]
 refine ⟨rfl, ?_⟩
 rw [wadd, zgd]; omega
theorem w_in {s : List UInt8} {n : Nat} (h : n < 16) (hs : s.length = 64) : inS (zjb .i64 4 (zaa n)) (wadd .i64 (zjb .i64 4 (zaa n)) 4) (slen s) = true := by
 obtain ⟨e1, e2⟩ := zpr (n := n) (by omega)
 rw [e2, e1, slen, hs, yng]
 exact ⟨by omega, by omega, by omega⟩
theorem yp1 {s : List UInt8} {n : Nat} (h : n < 16) (hs : s.length = 64) : yfa (yl6 s (zjb .i64 4 (zaa n)) (wadd .i64 (zjb .i64 4 (zaa n)) 4)) := by
 obtain ⟨e1, e2⟩ := zpr (n := n) (by omega)
 rw [e2, e1, yl6, yfa, List.length_drop, List.length_take, hs, Int.toNat_natCast, Int.toNat_natCast]
 omega
theorem znl {n k : Nat} {c : Int} (hc : c = (k : Int)) (h : k <= n) (h2 : n < 64) : inR (zqb .i64 (zaa n) c) (zaa 64) = true := by
 subst hc
 have e : zqb .i64 (zaa n) (k : Int) = zaa (n - k) := by unfold zaa; rw [zqb, zgd]; omega
 rw [e]
 exact zdb (by omega)
theorem ypg {a0 a1 a2 a3 a4 a5 a6 a7 : Int} {i : Nat} {s : List UInt8} (hi : i < 8) : AV.int .u32 (za6 [za6 [a0, a1, a2, a3, a4, a5, a6, a7] 0, za6 [a0, a1, a2, a3, a4, a5, a6, a7] 1, za6 [a0, a1, a2, a3, a4, a5, a6, a7] 2, za6 [a0, a1, a2, a3, a4, a5, a6, a7] 3, za6 [a0, a1, a2, a3, a4, a5, a6, a7] 4, za6 [a0, a1, a2, a3, a4, a5, a6, a7] 5, za6 [a0, a1, a2, a3, a4, a5, a6, a7] 6, za6 [a0, a1, a2, a3, a4, a5, a6, a7] 7] i) = .int .u32 (za6 (vS s [a0, a1, a2, a3, a4, a5, a6, a7] 0) i) := rfl
theorem yd7 {v : List Int} {k w : Int} {i : Nat} (hi : i < 8) : over std 0 0 1 [.int .u32 (wadd .u32 (zxf v k w) (yhx v))] (over std 4 0 1 [.int .u32 (wadd .u32 (za6 v 3) (zxf v k w))] (fun i _ => zcd std (zdl 1 7 i) (.int .u32 (za6 v (0 + (i - 1)))) (.int .u32 (za6 v i)))) i 0 = .int .u32 (za6 (yd8 v k w) i) := by
 unfold yd8
 generalize zxf v k w = x
 generalize yhx v = y
 match i, hi with
 | 0, _ => rfl
 | 1, _ => rfl
 | 2, _ => rfl
 | 3, _ => rfl
 | 4, _ => rfl
 | 5, _ => rfl
 | 6, _ => rfl
 | 7, _ => rfl
theorem yf8 {h v : List Int} {n i : Nat} (hi : i < 8) : za6 (hN h v n) i = if i < n then wadd .u32 (za6 h i) (za6 v i) else za6 h i := by
 rw [hN, za6, List.getD_eq_getElem?_getD, List.getElem?_map, List.getElem?_range hi]; rfl
theorem ynh {h v : List Int} {n n' i : Nat} (hn : n' = n + 1) (h8 : n < 8) (hi : i < 8) : over std n 0 1 [.int .u32 (wadd .u32 (za6 (hN h v n) n) (za6 v n))] (fun i _ => .int .u32 (za6 (hN h v n) i)) i 0 = .int .u32 (za6 (hN h v n') i) := by
 subst hn
 rw [ze5, if_pos ⟨Nat.le_refl _, by omega⟩, yf8 hi, yf8 h8, yf8 hi, if_neg (Nat.lt_irrefl n)]
 by_cases hi2 : i = n
 · rw [hi2, za3, if_neg (Nat.lt_irrefl n), if_pos (Nat.lt_succ_self n)]; rfl
 · rw [za8 hi2]
   by_cases hlt : i < n
   · rw [if_pos hlt, if_pos (by omega)]; rfl
   · rw [if_neg hlt, if_neg (by omega)]; rfl
theorem hN_0 {h v : List Int} {n i : Nat} (hn : n = 0) (hi : i < 8) : AV.int .u32 (za6 h i) = .int .u32 (za6 (hN h v n) i) := by
 rw [yf8 hi, hn, if_neg (Nat.not_lt_zero i)]
theorem ynj (m : List Int) : zhl (w8L std m) (.agg [.int .u32 (za6 [za6 m 0, za6 m 1, za6 m 2, za6 m 3, za6 m 4, za6 m 5, za6 m 6, za6 m 7] 0), .int .u32 (za6 [za6 m 0, za6 m 1, za6 m 2, za6 m 3, za6 m 4, za6 m 5, za6 m 6, za6 m 7] 1),
   .int .u32 (za6 [za6 m 0, za6 m 1, za6 m 2, za6 m 3, za6 m 4, za6 m 5, za6 m 6, za6 m 7] 2), .int .u32 (za6 [za6 m 0, za6 m 1, za6 m 2, za6 m 3, za6 m 4, za6 m 5, za6 m 6, za6 m 7] 3), .int .u32 (za6 [za6 m 0, za6 m 1, za6 m 2, za6 m 3, za6 m 4, za6 m 5, za6 m 6, za6 m 7] 4),
   .int .u32 (za6 [za6 m 0, za6 m 1, za6 m 2, za6 m 3, za6 m 4, za6 m 5, za6 m 6, za6 m 7] 5), .int .u32 (za6 [za6 m 0, za6 m 1, za6 m 2, za6 m 3, za6 m 4, za6 m 5, za6 m 6, za6 m 7] 6), .int .u32 (za6 [za6 m 0, za6 m 1, za6 m 2, za6 m 3, za6 m 4, za6 m 5, za6 m 6, za6 m 7] 7)]) := by
 unfold w8L
 simp only [sySet, L2, std]
 exact ⟨rfl, rfl, rfl, rfl, rfl, rfl, rfl, rfl, trivial⟩
theorem zt3 : zgh Try.prog (yeg std) := by
 intro xs p r h hp
 dsimp only [yeg] at h |-
 split at h <;> cases h
 try simp only [L2, L3, std] at hp |-
 rename_i a0 a1 a2 a3 a4 a5 a6 a7 n g s
 obtain ⟨⟨hn, hg⟩, hs⟩ : ync n g /\ s.length = 64 := hp
 subst hn
 obtain ⟨kf, hkf⟩ : ∃ kf : Nat -> Int, kf = za6 zpc := ⟨_, rfl⟩
 obtain ⟨hl, hhl⟩ : ∃ l : List Int, l = [a0, a1, a2, a3, a4, a5, a6, a7] := ⟨_, rfl⟩
 rw [<- hkf] at hg
 refine yg2 (fun h D vs hr => ypi (fun v r => yaq r hg) hr) ?_
 rw [<- hhl]
 clear hg g
 refine zah (T := tt) (S := fun L => zdk [yjw L, yin L]) (lo := fun L => mixA L hl s) (lb := noA) 5 (fn := Try.f79) rfl rfl (by kernel_rfl) (by kernel_rfl) rfl zaq (zas ⟨yf9, ydt, trivial⟩) (by kernel_rfl) ?_
 obtain ⟨n0, hn0⟩ : ∃ n : Nat, n = 0 := ⟨_, rfl⟩
 obtain ⟨n1, hn1⟩ : ∃ n : Nat, n = 16 := ⟨_, rfl⟩
 intro L P' Q' hL hP hQ
 (cbv; try simp only [syT, true_and, and_true])
 refine ⟨⟨n0, ?_⟩, fun n hn => ?_⟩
 · (cbv; try simp only [syT, true_and, and_true])
   subst hL; subst hQ
   refine ⟨fun _ _ _ _ => trivial, fun _ _ _ _ => trivial, fun i j hi hj => ?_, fun _ _ => trivial, ?_, ?_⟩
   · have : j = 0 := by omega
     subst this; subst hn0; rfl
   · subst hn0; rfl
   · subst hn0; exact Nat.zero_le _
 obtain ⟨n', hn'⟩ : ∃ n' : Nat, n' = n + 1 := ⟨_, rfl⟩
 (cbv; try simp only [syT, true_and, and_true])
 refine ⟨fun h1 => ⟨?_, ?_, ?_, n', ?_⟩, fun h1 => ⟨⟨n1, ?_⟩, fun m hm => ?_⟩⟩
 · subst hL
   exact w_in (zad h1) hs
 · subst hL
   exact yp1 (zad h1) hs
 · subst hL
   have h16 : n < 16 := zad h1
   exact zdb (by omega)
 · (cbv; try simp only [syT, true_and, and_true])
   subst hL; subst hQ
   have h16 : n < 16 := zad h1
   refine ⟨fun _ _ _ _ => trivial, fun _ _ _ _ => trivial, fun i j hi hj => ?_, fun _ _ => trivial, ?_, ?_, ?_⟩
   · have : j = 0 := by omega
     subst this
     rw [show L2 std wN s n' = wN s n ++ [zww s n] from yp2 hn' h16]
     exact ycb _ (zx1 s n) i
   · exact zi2 hn' (by omega)
   · show n' <= 16
     omega
   · show 16 - n' + 1 <= 16 - n
     omega
 · (cbv; try simp only [syT, true_and, and_true])
   subst hL; subst hQ
   have h16 : n = n1 := by
     have hn : n <= 16 := hn
     have h2 : ¬ n < 16 := zd2 h1
     omega
   subst h16
   refine ⟨fun _ _ _ _ => trivial, fun _ _ _ _ => trivial, fun _ _ _ _ => rfl, fun _ _ => trivial, ?_, ?_⟩
   · subst hn1; rfl
   · subst hn1; exact ⟨Nat.le_refl _, by decide⟩
 clear h1 hn hn' n' hn0 n0
 obtain ⟨m', hm'⟩ : ∃ m' : Nat, m' = m + 1 := ⟨_, rfl⟩
 obtain ⟨k0, hk0⟩ : ∃ k : Nat, k = 0 := ⟨_, rfl⟩
 (cbv; try simp only [syT, true_and, and_true])
 refine ⟨fun h1 => ⟨?_, ?_, ?_, ?_, ?_, ?_, ?_, m', ?_⟩, fun h1 => ⟨⟨k0, ?_⟩, fun k hk => ?_⟩⟩
 · subst hL; exact znl (k := 16) rfl (Nat.le_trans (by decide) hm.1) (zad h1)
 · subst hL; exact znl (k := 15) rfl (Nat.le_trans (by decide) hm.1) (zad h1)
 · subst hL; show (0 : Int) <= 3; decide
 · subst hL; exact znl (k := 7) rfl (Nat.le_trans (by decide) hm.1) (zad h1)
 · subst hL; exact znl (k := 2) rfl (Nat.le_trans (by decide) hm.1) (zad h1)
 · subst hL; show (0 : Int) <= 10; decide
 · subst hL; exact zdb (zad h1)
 · (cbv; try simp only [syT, true_and, and_true])
   subst hL; subst hQ
   have h64 : m < 64 := zad h1
   have h16 : 16 <= m := hm.1
   refine ⟨fun _ _ _ _ => trivial, fun _ _ _ _ => trivial, fun i j hi hj => ?_, fun _ _ => trivial, ?_, ?_, ?_⟩
   · have : j = 0 := by omega
     subst this
     rw [show L2 std wN s m' = wN s m ++ [ye9 (wN s m) m] from yp3 hm' (by omega)]
     rw [ye9, <- zn0 (n := m) (k := 16) (c := 16) rfl h16 (by omega), <- zn0 (n := m) (k := 15) (c := 15) rfl (by omega) (by omega), <- zn0 (n := m) (k := 7) (c := 7) rfl (by omega) (by omega), <- zn0 (n := m) (k := 2) (c := 2) rfl (by omega) (by omega)]
     exact ycb _ (zx1 s m) i
   · exact zi2 hm' (by omega)
   · exact ⟨by omega, by omega⟩
   · show 64 - m' + 1 <= 64 - m
     omega
 · (cbv; try simp only [syT, true_and, and_true])
   subst hL; subst hQ
   refine ⟨fun _ _ _ _ => trivial, fun _ _ _ _ => trivial, fun _ _ _ _ => trivial, fun i j hi hj => ?_, fun _ _ => trivial, ?_, ?_⟩
   · subst hk0; subst hhl
     exact ypg (s := s) hi
   · subst hk0; rfl
   · subst hk0; exact Nat.zero_le _
 have hm64 : m = 64 := by
   subst hL
   have : ¬ m < 64 := zd2 h1
   have : m <= 64 := hm.2
   omega
 subst hm64
 clear h1 hm hm' m' hk0 k0
 obtain ⟨k', hk'⟩ : ∃ k' : Nat, k' = k + 1 := ⟨_, rfl⟩
 obtain ⟨q0, hq0⟩ : ∃ q : Nat, q = 0 := ⟨_, rfl⟩
 (cbv; try simp only [syT, true_and, and_true])
 refine ⟨fun h1 => ⟨?_, ?_, ?_, ?_, ?_, ?_, ?_, ?_, ?_, ?_, ?_, ?_, ?_, ?_, ?_, ?_, ?_, ?_, ?_, ?_, ?_, ?_, k', ?_⟩, fun h1 => ⟨⟨q0, ?_⟩, fun q hq => ?_⟩⟩
 · subst hL; rfl
 · subst hL; rfl
 · subst hL; show (0 : Int) <= 25; decide
 · subst hL; rfl
 · subst hL; rfl
 · subst hL; rfl
 · subst hL; rfl
 · subst hL; exact zdb (zad h1)
 · subst hL; exact zdb (zad h1)
 · subst hL; rfl
 · subst hL; show (0 : Int) <= 22; decide
 · subst hL; rfl
 · subst hL; rfl
 · subst hL; rfl
 · subst hL; rfl
 · subst hL; rfl
 · subst hL; rfl
 · subst hL; rfl
 · subst hL; rfl
 · subst hL; rfl
 · subst hL; rfl
 · subst hL; rfl
 · (cbv; try simp only [syT, true_and, and_true])
   subst hL; subst hQ
   have h64 : k < 64 := zad h1
   refine ⟨fun _ _ _ _ => trivial, fun _ _ _ _ => trivial, fun _ _ _ _ => trivial, fun i j hi hj => ?_, fun _ _ => trivial, ?_, ?_, ?_⟩
   · have : j = 0 := by omega
     subst this
     have e : vS s hl k' = yd8 (vS s hl k) (kf k) (za6 (wN s 64) k) := by subst hk'; subst hkf; rfl
     have ek : (zaa k).toNat = k := Int.toNat_natCast k
     simp only [L2, L3, std, ek, e]
     clear e
     generalize vS s hl k = v
     generalize wN s 64 = w
     exact yd7 hi
   · exact zi2 hk' (by omega)
   · show k' <= 64
     omega
   · show 64 - k' + 1 <= 64 - k
     omega
 · (cbv; try simp only [syT, true_and, and_true])
   subst hL; subst hQ
   have hk64 : k = 64 := by
     have : ¬ k < 64 := zd2 h1
     have : k <= 64 := hk
     omega
   subst hk64
   refine ⟨fun _ _ _ _ => trivial, fun _ _ _ _ => trivial, fun i j hi hj => ?_, ?_, ?_⟩
   · exact hhl ▸ hN_0 hq0 hi
   · subst hq0; rfl
   · subst hq0; exact Nat.zero_le _
 have hk64 : k = 64 := by
   subst hL
   have : ¬ k < 64 := zd2 h1
   have : k <= 64 := hk
   omega
 subst hk64
 clear h1 hk hk' k' hq0 q0
 obtain ⟨q', hq'⟩ : ∃ q' : Nat, q' = q + 1 := ⟨_, rfl⟩
 (cbv; try simp only [syT, true_and, and_true])
 refine ⟨fun h1 => ⟨?_, ?_, ?_, q', ?_⟩, fun h1 => ?_⟩
 · subst hL; exact zdb (zad h1)
 · subst hL; exact zdb (zad h1)
 · subst hL; exact zdb (zad h1)
 · (cbv; try simp only [syT, true_and, and_true])
   subst hL; subst hQ
   have h8 : q < 8 := zad h1
   refine ⟨fun _ _ _ _ => trivial, fun _ _ _ _ => trivial, fun i j hi hj => ?_, ?_, ?_, ?_⟩
   · have : j = 0 := by omega
     subst this
     have ek : (zaa q).toNat = q := Int.toNat_natCast q
     simp only [L2, L3, std, ek, hS]
     exact ynh hq' h8 hi
   · exact zi2 hq' (by omega)
   · show q' <= 8
     omega
   · show 8 - q' + 1 <= 8 - q
     omega
 · subst hL; subst hQ
   have hq8 : q = 8 := by
     have : ¬ q < 8 := zd2 h1
     have : q <= 8 := hq
     omega
   subst hq8
   rw [show ypy (hl, s) = hS s hl 8 from rfl]
   simp only [std]
   generalize hS s hl 8 = m
   exact ynj m
end Sy
end Go.Proofs.Ytogomcfgfnlclaa
